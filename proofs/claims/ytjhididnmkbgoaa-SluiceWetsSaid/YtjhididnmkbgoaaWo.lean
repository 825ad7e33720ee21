import Derived.Test.YtjhididnmkbgoaaBase
set_option linter.unusedVariables false
set_option linter.unusedSimpArgs false
namespace Go.Proofs.Ytjhididnmkbgoaa
open Go.RowKit

/-- Nine numbers. -/
def nine (f : Nat → Nat) : Array Value := #[.int .i64 (f 0 : Nat), .int .i64 (f 1 : Nat), .int .i64 (f 2 : Nat), .int .i64 (f 3 : Nat), .int .i64 (f 4 : Nat), .int .i64 (f 5 : Nat), .int .i64 (f 6 : Nat), .int .i64 (f 7 : Nat), .int .i64 (f 8 : Nat)]

theorem nine_set (f : Nat → Nat) (k : Nat) (hk : k < 9) (x : Nat) : (nine f).setIfInBounds k (.int .i64 (x : Nat)) = nine (fun i => if i = k then x else f i) := by
  have : k = 0 ∨ k = 1 ∨ k = 2 ∨ k = 3 ∨ k = 4 ∨ k = 5 ∨ k = 6 ∨ k = 7 ∨ k = 8 := by omega
  rcases this with rfl | rfl | rfl | rfl | rfl | rfl | rfl | rfl | rfl <;> rfl

theorem nine_get (f : Nat → Nat) (k : Nat) (hk : k < 9) : (nine f)[k]? = some (.int .i64 (f k : Nat)) := by
  have : k = 0 ∨ k = 1 ∨ k = 2 ∨ k = 3 ∨ k = 4 ∨ k = 5 ∨ k = 6 ∨ k = 7 ∨ k = 8 := by omega
  rcases this with rfl | rfl | rfl | rfl | rfl | rfl | rfl | rfl | rfl <;> rfl

theorem nine_congr {f g : Nat → Nat} (h : ∀ i, i < 9 → f i = g i) : nine f = nine g := by
  unfold nine
  rw [h 0 (by omega), h 1 (by omega), h 2 (by omega), h 3 (by omega), h 4 (by omega), h 5 (by omega), h 6 (by omega), h 7 (by omega), h 8 (by omega)]

set_option maxRecDepth 100000 in
set_option maxHeartbeats 1000000 in
theorem alone63_any (w : World) : Calls Try.prog 63 #[] w fun e w' => e = .returned (.agg (nine fun i => i)) ∧ Below w.heap.size w w' := by
  go_enter Try.func63, Try.ntmps63
  go_upto_region 2 with (fail)
  refine wp_world fun W hW => ?_
  have hB : Below w.heap.size w W := by rw [hW]; exact ((Below.refl _ _).alloc (Nat.le_refl _) _).alloc (by simp) _
  have k0 : Blk W w.heap.size (nine fun _ => 0) 101 := by rw [hW]; exact (Blk.new _ _ _).alloc _
  have k1 : Blk W (w.heap.size + 1) (nine fun _ => 0) 101 := by rw [hW]; have := Blk.new (w.alloc (Obj.cells (nine fun _ => 0) 101)) (nine fun _ => 0) 101; simp only [World.size_alloc] at this; exact this
  clear hW
  go_wp2
  go_loopg [3] 9 (fun gk x wr => ∃ k : Nat, k ≤ 9 ∧ gk = 9 - k ∧ x = .int .i64 k ∧ Below w.heap.size w wr ∧ Blk wr w.heap.size (nine fun _ => 0) 101 ∧ Blk wr (w.heap.size + 1) (nine fun i => if i < k then i else 0) 101)
  case atStart => exact ⟨0, by omega, rfl, rfl, hB, k0, k1⟩
  case round =>
    obtain ⟨k, hk, hgk, rfl, hB, k0, k1⟩ := hrel
    have HGK := Lib.hid hgk
    clear hgk
    have HK0 := Lib.hid k0
    have HK1 := Lib.hid k1
    by_cases hlt : k < 9
    · have c1 := k1.cell k (nine_get _ k hlt)
      have f1 := k1.frozen k
      clear k0 k1
      go_wp2
      go_roundg (9 - (k + 1))
      case measure => have := HGK.out; omega
      case rel =>
        refine ⟨k + 1, by omega, rfl, by go_num, hB.setCell (by simp) _, HK0.out.other (by omega) _, ?_⟩
        have h := HK1.out.set k (.int .i64 (k : Nat))
        rw [nine_set _ _ hlt] at h
        rw [nine_congr (g := fun i => if i = k then k else if i < k then i else 0) (fun i _ => by split <;> split <;> (try split) <;> omega)]
        exact h
    · obtain rfl : k = 9 := by omega
      replace k1 : Blk wr (w.heap.size + 1) #[.int .i64 0, .int .i64 1, .int .i64 2, .int .i64 3, .int .i64 4, .int .i64 5, .int .i64 6, .int .i64 7, .int .i64 8] 101 := k1
      replace k0 : Blk wr w.heap.size #[.int .i64 0, .int .i64 0, .int .i64 0, .int .i64 0, .int .i64 0, .int .i64 0, .int .i64 0, .int .i64 0, .int .i64 0] 101 := k0
      have e0 := k1.cell 0 rfl
      have e1 := k1.cell 1 rfl
      have e2 := k1.cell 2 rfl
      have e3 := k1.cell 3 rfl
      have e4 := k1.cell 4 rfl
      have e5 := k1.cell 5 rfl
      have e6 := k1.cell 6 rfl
      have e7 := k1.cell 7 rfl
      have e8 := k1.cell 8 rfl
      have f0 := k0.cell 0 rfl
      have f1 := k0.cell 1 rfl
      have f2 := k0.cell 2 rfl
      have f3 := k0.cell 3 rfl
      have f4 := k0.cell 4 rfl
      have f5 := k0.cell 5 rfl
      have f6 := k0.cell 6 rfl
      have f7 := k0.cell 7 rfl
      have f8 := k0.cell 8 rfl
      have g0 := k0.frozen 0
      have g1 := k0.frozen 1
      have g2 := k0.frozen 2
      have g3 := k0.frozen 3
      have g4 := k0.frozen 4
      have g5 := k0.frozen 5
      have g6 := k0.frozen 6
      have g7 := k0.frozen 7
      have g8 := k0.frozen 8
      have z0 := (((((((((k0.set 0 (.int .i64 0)).set 1 (.int .i64 1)).set 2 (.int .i64 2)).set 3 (.int .i64 3)).set 4 (.int .i64 4)).set 5 (.int .i64 5)).set 6 (.int .i64 6)).set 7 (.int .i64 7)).set 8 (.int .i64 8))
      have y0 := z0.cell 0 rfl
      have y1 := z0.cell 1 rfl
      have y2 := z0.cell 2 rfl
      have y3 := z0.cell 3 rfl
      have y4 := z0.cell 4 rfl
      have y5 := z0.cell 5 rfl
      have y6 := z0.cell 6 rfl
      have y7 := z0.cell 7 rfl
      have y8 := z0.cell 8 rfl
      go_wp2
      refine bodyPost_ret (v := .agg #[.int .i64 0, .int .i64 1, .int .i64 2, .int .i64 3, .int .i64 4, .int .i64 5, .int .i64 6, .int .i64 7, .int .i64 8]) (by simp [results, Try.results63, go_sem, y0, y1, y2, y3, y4, y5, y6, y7, y8]) rfl ⟨rfl, ?_⟩
      exact (((((((((hB.setCell (by simp) _).setCell (by simp) _).setCell (by simp) _).setCell (by simp) _).setCell (by simp) _).setCell (by simp) _).setCell (by simp) _).setCell (by simp) _).setCell (by simp) _)
end Go.Proofs.Ytjhididnmkbgoaa
