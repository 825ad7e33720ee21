import Derived.Test.YtjhididnmkbgoaaWa
set_option linter.unusedVariables false
set_option linter.unusedSimpArgs false
namespace Go.Proofs.Ytjhididnmkbgoaa
open Go.RowKit

set_option maxHeartbeats 400000 in
theorem divisor_any (a b : Int) (w : World) (ha : 0 ≤ a) (hb : 0 ≤ b) (ha2 : a ≤ 4000000000000000000) (hb2 : b ≤ 4000000000000000000) :
    Calls Try.prog 88 #[.int .i64 a, .int .i64 b] w fun e w' => e = .returned (.int .i64 (Int.gcd a b)) ∧ ∃ n, w' = w.drewN n := by
  go_enter Try.func88, Try.ntmps88
  go_wp2
  go_loopw [0, 1] (fun t u wr => ∃ x y : Int, 0 ≤ x ∧ 0 ≤ y ∧ x ≤ 4000000000000000000 ∧ y ≤ 4000000000000000000 ∧ t = .int .i64 x ∧ u = .int .i64 y ∧ Int.gcd x y = Int.gcd a b ∧ ∃ n, wr = w.drewN n) (fun t u _ => (intOf u).toNat)
  case atStart => exact ⟨a, b, ha, hb, ha2, hb2, rfl, rfl, rfl, 0, rfl⟩
  case round =>
    obtain ⟨x, y, hx, hy, hx2, hy2, rfl, rfl, hg, n, rfl⟩ := hrel
    have HG := Lib.hid hg
    clear hg
    by_cases e : 0 < y
    · have hm : 0 ≤ x % y := Int.emod_nonneg _ (by omega)
      have hm2 : x % y < y := Int.emod_lt_of_pos _ e
      have hne : (y != 0) = true := by simp; omega
      go_wp2
      go_quiet (fail)
      go_wp2
      go_roundw
      case rel => exact ⟨y, x % y, by omega, by omega, by omega, by omega, rfl, rfl, (gcd_step x y hx e).trans HG.out, _, World.drewN_drewN ..⟩
      case measure => simp [intOf]; omega
    · obtain rfl : y = 0 := by omega
      have hx0 : (if x < -x then -x else x) = x := by split <;> omega
      have hwn : IntKind.i64.wrap (-x) = -x := IntWalk.i64_in _ (by omega)
      go_wp2
      go_ret
      exact ⟨ret_eq (by rw [← HG.out]; simp [Int.gcd]; omega), _, rfl⟩

set_option maxHeartbeats 400000 in
theorem lowestF_any (a b : Int) (w : World) (ha : 0 ≤ a) (hb : 1 ≤ b) (ha2 : a ≤ 4000000000000000000) (hb2 : b ≤ 4000000000000000000) :
    Calls Try.prog 75 #[.agg #[.int .i64 a, .int .i64 b]] w fun e w' => e = .returned (.agg #[.int .i64 (a / Int.gcd a b), .int .i64 (b / Int.gcd a b)]) ∧ Below w.heap.size w w' := by
  have hg0 : 1 ≤ (Int.gcd a b : Int) := by
    have : 0 < Int.gcd a b := Int.gcd_pos_of_ne_zero_right _ (by omega)
    omega
  have q1 : 0 ≤ a / (Int.gcd a b : Int) := Int.ediv_nonneg ha (by omega)
  have q2 : a / (Int.gcd a b : Int) ≤ a := Int.ediv_le_self _ ha
  have q3 : 0 ≤ b / (Int.gcd a b : Int) := Int.ediv_nonneg (by omega) (by omega)
  have q4 : b / (Int.gcd a b : Int) ≤ b := Int.ediv_le_self _ (by omega)
  go_enter Try.func75, Try.ntmps75
  generalize hG : (Int.gcd a b : Int) = G at *
  have HG := Lib.hid hG
  clear hG
  go_wp2_with fail
  refine (divisor_any a b _ ha (by omega) ha2 hb2).mono ?_
  rintro e w' ⟨rfl, n, rfl⟩
  rw [HG.out]
  go_wp2
  go_region
  go_wp2
  refine bodyPost_ret (v := .agg #[.int .i64 (a / G), .int .i64 (b / G)]) (by simp [results, Try.results75, go_sem]) rfl ⟨rfl, ?_⟩
  exact ((below_drewN (((Below.refl _ _).alloc (Nat.le_refl _) _).alloc (by simp) _) _).setCell (by simp) _).setCell (by simp) _
end Go.Proofs.Ytjhididnmkbgoaa
