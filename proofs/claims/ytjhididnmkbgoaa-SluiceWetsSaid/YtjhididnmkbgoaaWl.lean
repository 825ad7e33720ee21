import Derived.Test.YtjhididnmkbgoaaBase
set_option linter.unusedVariables false
set_option linter.unusedSimpArgs false
namespace Go.Proofs.Ytjhididnmkbgoaa
open Go.RowKit

def areB (n : Nat) (f : Nat → Int) (least most : Int) : Bool := decide (∀ k, k < n → least ≤ f k ∧ f k ≤ most)

set_option maxRecDepth 100000 in
theorem are_any (w : World) (v : Value) (n : Nat) (f : Nat → Int) (least most : Int) (hv : RdI w v n f) :
    Calls Try.prog 76 #[v, .int .i64 least, .int .i64 most] w fun e w' => e = .returned (.bool (areB n f least most)) ∧ Below w.heap.size w w' := by
  obtain ⟨A, c, rfl, la, ra⟩ := hv
  have RA := Lib.hid ra
  clear ra
  go_enter Try.func76, Try.ntmps76
  go_wp2
  refine wp_world fun W hW => ?_
  have hB : Below w.heap.size w W := by rw [hW]; exact ((Below.refl _ _).alloc (Nat.le_refl _) _).alloc (by simp) _
  have k1 : Blk W w.heap.size #[.int .i64 least] 3 := by rw [hW]; exact (Blk.new _ _ _).alloc _
  have k2 : Blk W (w.heap.size + 1) #[.int .i64 most] 3 := by rw [hW]; have := Blk.new (w.alloc (Obj.cells #[Value.int .i64 least] 3)) #[Value.int .i64 most] 3; simp only [World.size_alloc] at this; exact this
  clear hW
  go_loopg [8] n (fun gk x wr => ∃ k : Nat, k ≤ n ∧ gk = n - k ∧ x = .int .i64 k ∧ wr = W ∧ ∀ j, j < k → least ≤ f j ∧ f j ≤ most)
  case atStart => exact ⟨0, by omega, rfl, rfl, rfl, fun j hj => by omega⟩
  case round =>
    obtain ⟨k, hk, hgk, rfl, rfl, hj⟩ := hrel
    have HGK := Lib.hid hgk
    have HJ := Lib.hid hj
    clear hgk hj
    have e1 := k1.cell 0 rfl
    have e2 := k2.cell 0 rfl
    by_cases hlt : k < n
    · obtain ⟨b, o, rfl, hc⟩ := RA.out k hlt
      have hc := cell_up hB hc
      by_cases c1 : f k < least
      · have HV : Hid (areB n f least most = false) := by
          show _ = _
          unfold areB
          exact decide_eq_false fun h => by have := h k hlt; omega
        go_wp2
        go_ret
        exact ⟨by rw [HV.out]; rfl, hB⟩
      by_cases c2 : most < f k
      · have HV : Hid (areB n f least most = false) := by
          show _ = _
          unfold areB
          exact decide_eq_false fun h => by have := h k hlt; omega
        go_wp2
        go_ret
        exact ⟨by rw [HV.out]; rfl, hB⟩
      go_wp2
      go_roundg (n - (k + 1))
      case measure => have := HGK.out; omega
      case rel => exact ⟨k + 1, by omega, rfl, by go_num, rfl, fun j hj => by
        by_cases e : j = k
        · subst e; omega
        · exact HJ.out j (by omega)⟩
    · have HV : Hid (areB n f least most = true) := by
        show _ = _
        unfold areB
        exact decide_eq_true fun j hj => HJ.out j (by omega)
      go_wp2
      go_ret
      exact ⟨by rw [HV.out]; rfl, hB⟩
end Go.Proofs.Ytjhididnmkbgoaa
