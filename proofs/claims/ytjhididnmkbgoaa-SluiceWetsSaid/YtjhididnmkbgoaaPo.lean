import Derived.Test.YtjhididnmkbgoaaRn
import Derived.Test.YtjhididnmkbgoaaNs
import Derived.Laws.EntriesVeiled
set_option linter.unusedVariables false
set_option linter.unusedSimpArgs false
namespace Go.Proofs.Ytjhididnmkbgoaa
open Go.RowKit

set_option maxRecDepth 100000 in
set_option maxHeartbeats 1000000 in
theorem pour61_any (n m : Nat) (area floor : Nat → Int) (S : Nat → Slu.Sill) (ok : SOk n m area floor S) (w0 w : World) (X : Nat) (va vf vs : Value)
    (hA : RdI w0 va n area) (hF : RdI w0 vf n floor) (hS : RdT w0 vs m (fun k => ((S k).a : Int)) (fun k => ((S k).b : Int)) (fun k => (S k).h)) (hb : Below w0.heap.size w0 w) (hx0 : w0.heap.size ≤ X)
    (p : Nat → Nat) (s : Nat → Int) (lost : Int) (st : Slu.St) (basin : Nat) (amount : Int) (hx : SX w X va vf vs p s lost) (hps : PS n p s lost st) (gd : Slu.Good (mkBas n m area floor S) st) (hst : Slu.Still (mkBas n m area floor S) st)
    (hbn : basin ≤ n) (ha0 : 0 ≤ amount) (htot : tot (mkBas n m area floor S) st + amount ≤ 16000000) :
    Calls Try.prog 61 #[.pointer (some ⟨X, 0, none⟩), .int .i64 basin, .int .i64 amount] w fun e w' => RunPost w X n m area floor S va vf vs (Slu.add st basin amount) e w' := by
  have RN := fun w' br hm => run78_any n m area floor S ok w0 w.heap.size br X va vf vs hA hF hS _ w' p s lost st basin amount hm hps gd hst hbn ha0 htot (Nat.lt_succ_self _)
  clear hps gd hst htot hbn
  go_enter Try.func61, Try.ntmps61
  go_upto_region 3 with (fail)
  refine wp_world fun W hW => ?_
  have hB : Below w.heap.size w W := by rw [hW]; exact ((Below.refl _ _).alloc (Nat.le_refl _) _).alloc (by simp) _
  have kx : Blk W w.heap.size #[.pointer (some ⟨X, 0, none⟩)] 97 := by rw [hW]; exact (Blk.new _ _ _).alloc _
  have kr : Blk W (w.heap.size + 1) #[.func (.func 78) #[] #[.pointer (some ⟨w.heap.size, 0, none⟩), .pointer (some ⟨w.heap.size + 1, 0, none⟩)]] 111 := by
    rw [hW]; have := Blk.new (w.alloc (.cells #[.pointer (some ⟨X, 0, none⟩)] 97)) #[.func (.func 78) #[] #[.pointer (some ⟨w.heap.size, 0, none⟩), .pointer (some ⟨w.heap.size + 1, 0, none⟩)]] 111; simp only [World.size_alloc] at this; exact this
  clear hW
  have R2 := RN W (w.heap.size + 1) ⟨hb.trans (hB.mono hb.size), hx0, kx, kr, hx.below hB⟩
  have cr := kr.cell 0 rfl
  clear RN
  go_wp2_with (go_at_call 78; (with_reducible refine R2.mono ?_); rintro e w5 ⟨rfl, p', s', lost', st', hx5, hps5, hends, hg5⟩)
  go_end0
  exact ⟨rfl, p', s', lost', st', hx5, hps5, hends, (grown_below hB _).trans hg5⟩
end Go.Proofs.Ytjhididnmkbgoaa
