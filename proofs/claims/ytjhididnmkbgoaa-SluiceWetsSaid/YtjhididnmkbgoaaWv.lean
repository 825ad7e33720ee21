import Derived.Test.YtjhididnmkbgoaaWu
set_option linter.unusedVariables false
set_option linter.unusedSimpArgs false
namespace Go.Proofs.Ytjhididnmkbgoaa
open Go.RowKit

set_option maxRecDepth 100000 in
set_option maxHeartbeats 2000000 in
theorem wet23_err (w : World) (va vf vs : Value) (n m : Nat) (area floor : Nat → Int) (S : Nat → Slu.Sill) (hb : Bs w va vf vs n m area floor S) (g x : Int) (hbad : ¬ (0 ≤ g ∧ g < n ∧ 0 ≤ x ∧ x ≤ 1000000)) :
    Calls Try.prog 23 #[.agg #[va, vf, vs], .int .i64 g, .int .i64 x] w fun e w' => e = .returned (.tuple #[.slice none 0 0, .int .i64 1]) ∧ Below w.heap.size w w' := by
  have HBAD := Lib.hid hbad
  go_enter Try.func23, Try.ntmps23
  go_upto_region 1 with (fail)
  refine wp_world fun W hW => ?_
  have hB : Below w.heap.size w W := by rw [hW]; exact (Below.refl _ _).alloc (Nat.le_refl _) _
  have k1 : Blk W w.heap.size #[va, vf, vs] 25 := by rw [hW]; exact Blk.new _ _ _
  clear hW
  have c0 := k1.cell 0 rfl
  have c1 := k1.cell 1 rfl
  have c2 := k1.cell 2 rfl
  have hb1 := hb.below hB
  have OB := openBasin59_ok W va vf vs n m area floor _ _ _ hb1.a hb1.f hb1.s hb1.ck g
  by_cases hg : 0 ≤ g ∧ g < n
  · rw [show obErr n g = 0 by unfold obErr; rw [if_pos hg]] at OB
    by_cases hx : x < 0
    · have d1 : decide (x < 0) = true := decide_eq_true hx
      clear hbad hx hg
      go_wp2_with (go_at_call 59; (with_reducible refine OB.mono ?_); rintro e w1 ⟨rfl, hb1'⟩)
      go_ret2
      exact ⟨rfl, hB.trans (hb1'.mono hB.size)⟩
    · have d1 : decide (x < 0) = false := decide_eq_false hx
      have d2 : decide ((1000000 : Int) < x) = true := decide_eq_true (by omega)
      clear hbad hx hg
      go_wp2_with (go_at_call 59; (with_reducible refine OB.mono ?_); rintro e w1 ⟨rfl, hb1'⟩)
      go_ret2
      exact ⟨rfl, hB.trans (hb1'.mono hB.size)⟩
  · rw [show obErr n g = 1 by unfold obErr; rw [if_neg hg]] at OB
    clear hbad hg
    go_wp2_with (go_at_call 59; (with_reducible refine OB.mono ?_); rintro e w1 ⟨rfl, hb1'⟩)
    go_ret2
    exact ⟨rfl, hB.trans (hb1'.mono hB.size)⟩
end Go.Proofs.Ytjhididnmkbgoaa
