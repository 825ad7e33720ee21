/-
  No level lies below its floor.
-/
import Derived.Test.YtjhididnmkbgoaaPq
import Derived.Test.YtjhididnmkbgoaaWf
set_option linter.unusedVariables false
set_option linter.unusedSimpArgs false
namespace Go.Proofs.Ytjhididnmkbgoaa
open Slu

theorem Cn.touch {l : List Sill} {i k : Nat} (h : Cn l i k) : i = k ∨ ((∃ u, u ∈ l ∧ (u.a = i ∨ u.b = i)) ∧ ∃ u, u ∈ l ∧ (u.a = k ∨ u.b = k)) := by
  induction h with
  | refl i => exact .inl rfl
  | @sill s hs => exact .inr ⟨⟨s, hs, .inl rfl⟩, ⟨s, hs, .inr rfl⟩⟩
  | symm _ ih => rcases ih with h | ⟨a, b⟩; exact .inl h.symm; exact .inr ⟨b, a⟩
  | trans _ _ a b =>
    rcases a with rfl | ⟨a1, a2⟩
    · exact b
    · rcases b with rfl | ⟨b1, b2⟩
      · exact .inr ⟨a1, a2⟩
      · exact .inr ⟨a1, b2⟩

theorem sumN_mul (n : Nat) (f : Nat → Int) (c : Int) : sumN n f * c = sumN n fun i => f i * c := by
  induction n with
  | zero => simp [sumN]
  | succ n ih => simp only [sumN]; rw [Int.add_mul, ih]

theorem level_floor {n m : Nat} {area floor : Nat → Int} {S : Nat → Sill} (ok : SOk n m area floor S) {st : St} (gd : Slu.Good (mkBas n m area floor S) st) (hu : UndAll (mkBas n m area floor S) st) {k : Nat} (hk : k < n) :
    lvD area st.rep n k * floor k ≤ lvN area floor st.rep st.vol n k := by
  have hv := gd.iv.nonneg (st.rep k)
  by_cases h : ∃ i, st.rep i = st.rep k ∧ i ≠ k
  · obtain ⟨i, hi, hne⟩ := h
    obtain ⟨l, hl, hc⟩ := hu i k hi
    rcases hc.touch with rfl | ⟨_, u, hul, ht⟩
    · exact absurd rfl hne
    · have hund := hl u hul
      have hmem := hund.mem
      have hrep : st.rep u.a = st.rep k := by
        rcases ht with e | e
        · rw [e]
        · rw [hund.same, e]
      have hfl : floor k ≤ u.h := by
        rcases ht with e | e
        · have := ok.ok.fa u hmem; rw [e] at this; exact this
        · have := ok.ok.fb u hmem (by rw [e]; exact hk); rw [e] at this; exact this
      have hw := hund.wet
      rw [hrep] at hw
      have hr := room_eq n m area floor S st.rep (st.rep k) u.h
      have hg := grpA_range ok.rng (fun i => (st.rep i : Int)) (st.rep k) n
      have hmul := Int.mul_le_mul_of_nonneg_left hfl hg.1
      unfold lvD lvN
      omega
  · have he : lvD area st.rep n k * floor k = grpF area floor (fun i => (st.rep i : Int)) (st.rep k) n := by
      unfold lvD grpA grpF
      rw [sumN_mul]
      refine sumN_congr fun i _ => ?_
      show (if (st.rep i : Int) = (st.rep k : Int) then area i else 0) * floor k = (if (st.rep i : Int) = (st.rep k : Int) then area i * floor i else 0)
      by_cases e : st.rep i = st.rep k
      · have : i = k := by
          by_cases q : i = k
          · exact q
          · exact absurd ⟨i, e, q⟩ h
        subst this
        rw [if_pos rfl, if_pos rfl]
      · rw [if_neg (by omega), if_neg (by omega)]; simp
    rw [he]
    unfold lvN
    omega

/-- The same in lowest terms. -/
theorem level_floor' {n m : Nat} {area floor : Nat → Int} {S : Nat → Sill} (ok : SOk n m area floor S) {st : St} (gd : Slu.Good (mkBas n m area floor S) st) (hu : UndAll (mkBas n m area floor S) st) {k : Nat} (hk : k < n) :
    floor k * lvB area floor st.rep st.vol n k ≤ lvA area floor st.rep st.vol n k := by
  have h := level_floor ok gd hu hk
  have hD := lvD_pos ok.rng st.rep n k hk
  unfold lvA lvB
  generalize lvN area floor st.rep st.vol n k = N at *
  generalize lvD area st.rep n k = D at *
  have hg : 0 < Int.gcd N D := Int.gcd_pos_of_ne_zero_right _ (by omega)
  obtain ⟨c, hc⟩ : (Int.gcd N D : Int) ∣ D := Int.gcd_dvd_right ..
  obtain ⟨a, ha⟩ : (Int.gcd N D : Int) ∣ N := Int.gcd_dvd_left ..
  generalize Int.gcd N D = g at *
  have hg' : (0 : Int) < (g : Int) := by omega
  rw [Int.ediv_eq_of_eq_mul_right (by omega) hc, Int.ediv_eq_of_eq_mul_right (by omega) ha]
  subst hc ha
  rw [Int.mul_assoc] at h
  have := Int.le_of_mul_le_mul_left h hg'
  rw [Int.mul_comm] at this
  exact this
end Go.Proofs.Ytjhididnmkbgoaa
