/-
  Joining nodes in order: what the program's groups compute.
-/
import Derived.Test.YtjhididnmkbgoaaPm
set_option linter.unusedVariables false
set_option linter.unusedSimpArgs false
namespace Go.Proofs.Ytjhididnmkbgoaa
open Slu

def joinP (p : Nat → Nat) (i k : Nat) : Nat → Nat := fun j => if j = max (rootN 9 p i) (rootN 9 p k) then min (rootN 9 p i) (rootN 9 p k) else p j
def joinL (p : Nat → Nat) : List Sill → Nat → Nat
  | [] => p
  | s :: l => joinL (joinP p s.a s.b) l
def lipF (x y : Nat) (p : Nat → Nat) : List Sill → Int
  | [] => 0
  | s :: l => if rootN 9 (joinP p s.a s.b) x = rootN 9 (joinP p s.a s.b) y then s.h else lipF x y (joinP p s.a s.b) l

theorem joinL_append (p : Nat → Nat) (l l' : List Sill) : joinL p (l ++ l') = joinL (joinL p l) l' := by
  induction l generalizing p with
  | nil => rfl
  | cons s l ih => exact ih _
theorem joinL_snoc (p : Nat → Nat) (l : List Sill) (s : Sill) : joinL p (l ++ [s]) = joinP (joinL p l) s.a s.b := by rw [joinL_append]; rfl

/-- Groups within the nine nodes. -/
structure GOk (p : Nat → Nat) : Prop where
  le : ∀ k, p k ≤ k
  hi : ∀ k, 9 ≤ k → p k = k

theorem GOk.id : GOk (fun i => i) := ⟨fun _ => Nat.le_refl _, fun _ _ => rfl⟩
theorem GOk.join {p : Nat → Nat} (h : GOk p) {i k : Nat} (hi : i < 9) (hk : k < 9) : GOk (joinP p i k) := by
  have a := rootN_le p h.le 9 i
  have b := rootN_le p h.le 9 k
  refine ⟨fun j => ?_, fun j hj => ?_⟩
  · unfold joinP
    have := h.le j
    split <;> omega
  · unfold joinP
    rw [if_neg (by omega)]
    exact h.hi j hj

theorem rootN_hi {p : Nat → Nat} (h : GOk p) {i : Nat} (hi : 9 ≤ i) : rootN 9 p i = i := rootN_fix p i (h.hi i hi) 9

/-- What a join does to the groups. -/
theorem root_join {p : Nat → Nat} (h : GOk p) {i k : Nat} (hi : i < 9) (hk : k < 9) (j : Nat) :
    rootN 9 (joinP p i k) j = if rootN 9 p j = max (rootN 9 p i) (rootN 9 p k) then min (rootN 9 p i) (rootN 9 p k) else rootN 9 p j := by
  have a := rootN_le p h.le 9 i
  have b := rootN_le p h.le 9 k
  have fa := root_fix h.le 9 i hi
  have fb := root_fix h.le 9 k hk
  unfold joinP
  generalize rootN 9 p i = x at *
  generalize rootN 9 p k = y at *
  by_cases e : x = y
  · subst e
    have : (fun j => if j = max x x then min x x else p j) = p := by
      funext j
      by_cases q : j = x
      · rw [if_pos (by omega), q, fa]; omega
      · rw [if_neg (by omega)]
    rw [this]
    split <;> omega
  · rcases Nat.lt_or_ge j 9 with h9 | h9
    · refine rootN_join h.le (a := min x y) (c := max x y) (by omega) ?_ ?_ 9 j h9
      · rcases max_min_of_ne (g := x) (t := y) with ⟨_, q⟩ | ⟨_, q⟩ <;> rw [q] <;> assumption
      · rcases max_min_of_ne (g := x) (t := y) with ⟨q, _⟩ | ⟨q, _⟩ <;> rw [q] <;> assumption
    · have e1 := rootN_hi h h9
      rw [e1, if_neg (by omega)]
      exact rootN_fix _ j (by rw [if_neg (by omega)]; exact h.hi j h9) 9

/-- Joined by a way of sills. -/
inductive Cn (l : List Sill) : Nat → Nat → Prop
  | refl (i : Nat) : Cn l i i
  | sill {s : Sill} (h : s ∈ l) : Cn l s.a s.b
  | symm {i k : Nat} (h : Cn l i k) : Cn l k i
  | trans {i k j : Nat} (h : Cn l i k) (h' : Cn l k j) : Cn l i j

theorem Cn.mono {l l' : List Sill} (hs : ∀ s, s ∈ l → s ∈ l') {i k : Nat} (h : Cn l i k) : Cn l' i k := by
  induction h with
  | refl i => exact .refl i
  | sill h => exact .sill (hs _ h)
  | symm _ ih => exact .symm ih
  | trans _ _ a b => exact .trans a b

/-- The groups are those that ways of sills join. -/
structure Uf (p : Nat → Nat) (l : List Sill) : Prop where
  ok : GOk p
  cn : ∀ i k, rootN 9 p i = rootN 9 p k ↔ Cn l i k

theorem Uf.nil : Uf (fun i => i) [] := by
  refine ⟨GOk.id, fun i k => ?_⟩
  rw [rootN_fix (fun i => i) i rfl, rootN_fix (fun i => i) k rfl]
  constructor
  · rintro rfl; exact .refl _
  · intro h
    induction h with
    | refl i => rfl
    | sill h => cases h
    | symm _ ih => exact ih.symm
    | trans _ _ a b => exact a.trans b

theorem Uf.join {p : Nat → Nat} {l : List Sill} (h : Uf p l) {s : Sill} (ha : s.a < 9) (hb : s.b < 9) : Uf (joinP p s.a s.b) (l ++ [s]) := by
  refine ⟨h.ok.join ha hb, fun i k => ?_⟩
  have ri := root_join h.ok ha hb i
  have rk := root_join h.ok ha hb k
  have up : ∀ {i k : Nat}, rootN 9 p i = rootN 9 p k → Cn (l ++ [s]) i k := fun e => ((h.cn _ _).1 e).mono fun x hx => List.mem_append_left _ hx
  have hs : Cn (l ++ [s]) s.a s.b := .sill (by simp)
  constructor
  · intro e
    rw [ri, rk] at e
    rcases max_min_of_ne (g := rootN 9 p s.a) (t := rootN 9 p s.b) with ⟨x, y⟩ | ⟨x, y⟩ <;> rw [x, y] at e
    · by_cases c1 : rootN 9 p i = rootN 9 p s.a
      · rw [if_pos c1] at e
        by_cases c2 : rootN 9 p k = rootN 9 p s.a
        · exact (up c1).trans (up c2).symm
        · rw [if_neg c2] at e
          exact ((up c1).trans hs).trans (up e)
      · rw [if_neg c1] at e
        by_cases c2 : rootN 9 p k = rootN 9 p s.a
        · rw [if_pos c2] at e
          exact (up e).trans (hs.symm.trans (up c2).symm)
        · rw [if_neg c2] at e; exact up e
    · by_cases c1 : rootN 9 p i = rootN 9 p s.b
      · rw [if_pos c1] at e
        by_cases c2 : rootN 9 p k = rootN 9 p s.b
        · exact (up c1).trans (up c2).symm
        · rw [if_neg c2] at e
          exact ((up c1).trans hs.symm).trans (up e)
      · rw [if_neg c1] at e
        by_cases c2 : rootN 9 p k = rootN 9 p s.b
        · rw [if_pos c2] at e
          exact (up e).trans (hs.trans (up c2).symm)
        · rw [if_neg c2] at e; exact up e
  · intro c
    clear ri rk
    induction c with
    | refl i => rfl
    | @sill t ht =>
      rw [List.mem_append] at ht
      rw [root_join h.ok ha hb, root_join h.ok ha hb]
      rcases ht with ht | ht
      · rw [(h.cn _ _).2 (.sill ht)]
      · obtain rfl : t = s := by simpa using ht
        split <;> split <;> omega
    | symm _ ih => exact ih.symm
    | trans _ _ a b => exact a.trans b

theorem Uf.joinL {l : List Sill} (hl : ∀ s, s ∈ l → s.a < 9 ∧ s.b < 9) : Uf (joinL (fun i => i) l) l := by
  have : ∀ (l0 : List Sill) (p : Nat → Nat) (l : List Sill), Uf p l0 → (∀ s, s ∈ l → s.a < 9 ∧ s.b < 9) → Uf (Ytjhididnmkbgoaa.joinL p l) (l0 ++ l) := by
    intro l0 p l
    induction l generalizing l0 p with
    | nil => intro h _; simpa [Ytjhididnmkbgoaa.joinL] using h
    | cons s l ih =>
      intro h hl
      have := ih (l0 ++ [s]) (joinP p s.a s.b) (h.join (hl s (by simp)).1 (hl s (by simp)).2) fun t ht => hl t (by simp [ht])
      rw [List.append_assoc] at this
      exact this
  have h := this [] _ l Uf.nil hl
  simpa using h
end Go.Proofs.Ytjhididnmkbgoaa
