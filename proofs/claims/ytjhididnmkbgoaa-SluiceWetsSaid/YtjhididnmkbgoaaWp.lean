import Derived.Test.YtjhididnmkbgoaaT1
import Derived.Test.YtjhididnmkbgoaaWo
set_option linter.unusedVariables false
set_option linter.unusedSimpArgs false
namespace Go.Proofs.Ytjhididnmkbgoaa
open Go.RowKit

theorem rootN_le (p : Nat → Nat) (hp : ∀ k, p k ≤ k) : ∀ k i, rootN k p i ≤ i := by
  intro k
  induction k with
  | zero => intro i; exact Nat.le_refl _
  | succ k ih =>
    intro i
    rw [rootN]
    split
    · exact Nat.le_refl _
    · exact Nat.le_trans (ih (p i)) (hp i)

set_option maxRecDepth 100000 in
set_option maxHeartbeats 1000000 in
theorem join_any (b off : Nat) (p : Nat → Nat) (w : World) (hp : ∀ k, p k ≤ k)
    (hc : ∀ k, k < 9 → w.cell? ⟨b, off + k, none⟩ = some (.int .i64 (p k))) (hf : ∀ k, k < 9 → w.frozen? ⟨b, off + k, none⟩ = false) (i : Nat) (hi : i < 9) (k : Nat) (hk : k < 9) :
    Calls Try.prog 65 #[.pointer (some ⟨b, off, none⟩), .int .i64 i, .int .i64 k] w fun e w' => e = .returned (.bool (decide (rootN 9 p i ≠ rootN 9 p k))) ∧
      w' = w.setCell ⟨b, off + max (rootN 9 p i) (rootN 9 p k), none⟩ (.int .i64 (min (rootN 9 p i) (rootN 9 p k) : Nat)) := by
  have F1 := first_any b off p w hp hc i hi
  have F2 := first_any b off p w hp hc k hk
  have l1 := rootN_le p hp 9 i
  have l2 := rootN_le p hp 9 k
  generalize rootN 9 p i = x at *
  generalize rootN 9 p k = y at *
  rcases Nat.lt_trichotomy x y with h | h | h
  · have hne : ((x : Int) != (y : Int)) = true := by simp; omega
    have HV := Lib.hid (And.intro (show decide (x ≠ y) = true from decide_eq_true (by omega)) (And.intro (show max x y = y by omega) (show min x y = x by omega)))
    have c1 := hc y (by omega)
    have f1 := hf y (by omega)
    have i0 : (x : Int) < (y : Int) := by omega
    have i1 : (0 : Int) ≤ (y : Int) := by omega
    have i2 : (y : Int) < 9 := by omega
    clear hc hf h
    go_enter Try.func65, Try.ntmps65
    go_wp2_with (first | (go_at_call 66; (with_reducible refine F1.mono ?_); rintro e w' ⟨rfl, rfl⟩) | (go_at_call 66; (with_reducible refine F2.mono ?_); rintro e w' ⟨rfl, rfl⟩))
    go_ret
    rw [HV.out.1, HV.out.2.1, HV.out.2.2]
    exact ⟨rfl, rfl⟩
  · subst h
    have hne : ((x : Int) != (x : Int)) = false := by simp
    have HV := Lib.hid (And.intro (show decide (x ≠ x) = false from decide_eq_false (by omega)) (And.intro (show max x x = x by omega) (show min x x = x by omega)))
    have c1 := hc x (by omega)
    have f1 := hf x (by omega)
    have i1 : (0 : Int) ≤ (x : Int) := by omega
    have i2 : (x : Int) < 9 := by omega
    clear hc hf
    go_enter Try.func65, Try.ntmps65
    go_wp2_with (first | (go_at_call 66; (with_reducible refine F1.mono ?_); rintro e w' ⟨rfl, rfl⟩) | (go_at_call 66; (with_reducible refine F2.mono ?_); rintro e w' ⟨rfl, rfl⟩))
    go_ret
    rw [HV.out.1, HV.out.2.1, HV.out.2.2]
    exact ⟨rfl, rfl⟩
  · have hne : ((x : Int) != (y : Int)) = true := by simp; omega
    have HV := Lib.hid (And.intro (show decide (x ≠ y) = true from decide_eq_true (by omega)) (And.intro (show max x y = x by omega) (show min x y = y by omega)))
    have c1 := hc x (by omega)
    have f1 := hf x (by omega)
    have i0 : (y : Int) < (x : Int) := by omega
    have i1 : (0 : Int) ≤ (x : Int) := by omega
    have i2 : (x : Int) < 9 := by omega
    clear hc hf h
    go_enter Try.func65, Try.ntmps65
    go_wp2_with (first | (go_at_call 66; (with_reducible refine F1.mono ?_); rintro e w' ⟨rfl, rfl⟩) | (go_at_call 66; (with_reducible refine F2.mono ?_); rintro e w' ⟨rfl, rfl⟩))
    go_ret
    rw [HV.out.1, HV.out.2.1, HV.out.2.2]
    exact ⟨rfl, rfl⟩
end Go.Proofs.Ytjhididnmkbgoaa
