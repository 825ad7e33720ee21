import Derived.Test.YtjhididnmkbgoaaProg
import Derived.WalkKit
import Derived.Outline
import Derived.Lib.Hide
import Derived.WalkLawsBesides
import Derived.WalkSpells
set_option linter.unusedVariables false
set_option linter.unusedSimpArgs false
namespace Go.Proofs.Ytjhididnmkbgoaa
open Go.RowKit

def rootN : Nat → (Nat → Nat) → Nat → Nat
  | 0, _, i => i
  | k + 1, p, i => if p i = i then i else rootN k p (p i)

theorem rootN_fix (p : Nat → Nat) (i : Nat) (h : p i = i) : ∀ k, rootN k p i = i := by
  intro k; cases k <;> simp [rootN, h]

theorem rootN_succ (p : Nat → Nat) (hp : ∀ k, p k ≤ k) : ∀ k i, i ≤ k → rootN k p i = rootN (k + 1) p i := by
  intro k
  induction k with
  | zero => intro i hi; obtain rfl : i = 0 := by omega
            have : p 0 = 0 := by have := hp 0; omega
            simp [rootN, this]
  | succ k ih =>
    intro i hi
    rw [rootN, rootN]
    split
    · rfl
    · rename_i h
      exact ih (p i) (by have := hp i; omega)

set_option maxHeartbeats 400000 in
theorem first_any (b off : Nat) (p : Nat → Nat) (w : World) (hp : ∀ k, p k ≤ k)
    (hc : ∀ k, k < 9 → w.cell? ⟨b, off + k, none⟩ = some (.int .i64 (p k))) (i : Nat) (hi : i < 9) :
    Calls Try.prog 66 #[.pointer (some ⟨b, off, none⟩), .int .i64 i] w fun e w' => e = .returned (.int .i64 (rootN 9 p i)) ∧ w = w' := by
  go_enter Try.func66, Try.ntmps66
  go_wp2
  go_loop [1] (fun t => ∃ k : Nat, k < 9 ∧ t = .int .i64 k ∧ rootN 9 p k = rootN 9 p i) (fun t => (intOf t).toNat)
  case atStart => exact ⟨i, hi, rfl, rfl⟩
  case round =>
    obtain ⟨k, hk, rfl, hr⟩ := hrel
    have hck := hc k hk
    have hpk := hp k
    have HR := Lib.hid hr
    clear hr hc
    by_cases e : p k = k
    · have e1 : ((p k : Int) != (k : Int)) = false := by simp [e]
      have HE := Lib.hid e
      clear e
      go_wp2
      go_ret
      exact ⟨by rw [← HR.out, rootN_fix p k HE.out]; rfl, rfl⟩
    · have e1 : ((p k : Int) != (k : Int)) = true := by simp; omega
      have HE := Lib.hid e
      clear e
      go_wp2
      go_round
      case rel => exact ⟨p k, by omega, rfl, by rw [← HR.out, rootN_succ p hp 9 k (by omega)]; simp [rootN, HE.out]⟩
      case measure => have := HE.out; simp [intOf]; omega
