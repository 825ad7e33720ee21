import Derived.Test.YtjhididnmkbgoaaRo
import Derived.Test.YtjhididnmkbgoaaPq
set_option linter.unusedVariables false
set_option linter.unusedSimpArgs false
namespace Go.Proofs.Ytjhididnmkbgoaa
open Go.RowKit

set_option maxRecDepth 100000 in
theorem higher62_any (w : World) (a b h : Int) (hh : -100000 ≤ h ∧ h ≤ 100000) (hb : -1000000 ≤ b ∧ b ≤ 1000000) : Calls Try.prog 62 #[.agg #[.int .i64 a, .int .i64 b], .int .i64 h] w fun e w' => e = .returned (.bool (decide (h * b < a))) ∧ Below w.heap.size w w' := by
  have w1 : IntKind.i64.wrap (h * b) = h * b := by
    refine IntWalk.i64_in _ ?_
    have h1 : -100000000000 ≤ h * b := by
      have := Int.natAbs_mul h b
      have h2 : h.natAbs ≤ 100000 := by omega
      have h3 : b.natAbs ≤ 1000000 := by omega
      have := Nat.mul_le_mul h2 h3
      omega
    have h2 : h * b ≤ 100000000000 := by
      have := Int.natAbs_mul h b
      have h2 : h.natAbs ≤ 100000 := by omega
      have h3 : b.natAbs ≤ 1000000 := by omega
      have := Nat.mul_le_mul h2 h3
      omega
    omega
  go_enter Try.func62, Try.ntmps62
  go_wp2
  go_ret
  exact ⟨rfl, (Below.refl _ _).alloc (Nat.le_refl _) _⟩

theorem calls_ext_same {P : Program} {f : FuncId} {args : Array Value} {W : World} {n : Ext W} {v : Value}
    (h : Calls P f args (W.ext n) fun e w' => e = .returned v ∧ W.ext n = w') : Calls P f args (W.ext n) fun e w'' => e = .returned v ∧ ∃ m : Ext W, w'' = W.ext m :=
  h.mono fun _ w' ⟨he, hm⟩ => ⟨he, n, hm.symm⟩

/-- A list of numbers that the call made. -/
def OwN (w : World) (base : Nat) (v : Value) (l : List Nat) : Prop := w.ownsRow base 3 1 v l.length (l.map fun k => .int .i64 ((k : Nat) : Int))
/-- A list of lists of numbers that the call made. -/
def OwNN (w : World) (base : Nat) (v : Value) (l : List (List Nat)) : Prop := ∃ us : List Value, us.length = l.length ∧ w.ownsRow base 22 1 v l.length us ∧ ∀ i, i < l.length → OwN w base us[i]! l[i]!

theorem OwN.kept {w w' : World} {row : Option Nat} {base : Nat} {v : Value} {l : List Nat} (h : OwN w base v l) (hg : w.grownBy w' row) (hne : v.ownBlock = none ∨ v.ownBlock ≠ row) : OwN w' base v l := World.ownsRow.kept h hg hne
theorem OwN.below {w w' : World} {base : Nat} {v : Value} {l : List Nat} (h : OwN w base v l) (hb : Below w.heap.size w w') : OwN w' base v l := h.kept (grown_below hb none) (by cases v.ownBlock <;> simp)
theorem OwNN.nil (w : World) (base : Nat) : OwNN w base (.slice none 0 0) [] := ⟨[], rfl, World.ownsRow_nil w base 22 1, fun i hi => absurd hi (Nat.not_lt_zero _)⟩
theorem OwNN.below {w w' : World} {base : Nat} {v : Value} {l : List (List Nat)} (h : OwNN w base v l) (hb : Below w.heap.size w w') : OwNN w' base v l := by
  obtain ⟨us, h1, h2, h3⟩ := h
  exact ⟨us, h1, own_up hb h2, fun i hi => (h3 i hi).below hb⟩

theorem owns_ne {w : World} {base base' e e' size size' n n' : Nat} {u v : Value} {xs ys : List Value} (h : w.ownsRow base e size u n xs) (h' : w.ownsRow base' e' size' v n' ys) (hne : e ≠ e') : u.ownBlock = none ∨ u.ownBlock ≠ v.ownBlock := by
  rcases h.2 with ⟨rfl, _⟩ | ⟨g, cap, cur, rfl, _, hh, _⟩
  · left; rfl
  · right
    rcases h'.2 with ⟨rfl, _⟩ | ⟨g', cap', cur', rfl, _, hh', _⟩
    · simp [Value.ownBlock]
    · intro e1
      have : g = g' := by simpa [Value.ownBlock] using e1
      subst this
      rw [hh] at hh'
      cases hh'
      exact hne rfl

theorem OwNN.snoc' {w w' : World} {base : Nat} {v v' : Value} {l : List (List Nat)} {u : Value} {k : List Nat} {us : List Value} (h1 : us.length = l.length) (h2 : w.ownsRow base 22 1 v l.length us) (h3 : ∀ i, i < l.length → OwN w base us[i]! l[i]!)
    (hu : OwN w base u k) (hg : w.grownBy w' v.ownBlock) (hn : w'.ownsRow base 22 1 v' (l.length + 1) (us ++ [u])) : OwNN w' base v' (l ++ [k]) := by
  refine ⟨us ++ [u], by simp [h1], by rw [List.length_append]; exact hn, fun i hi => ?_⟩
  rw [List.length_append, List.length_singleton] at hi
  rw [getElem!_pos (us ++ [u]) i (by simp; omega), getElem!_pos (l ++ [k]) i (by simp; omega)]
  by_cases e : i < l.length
  · rw [List.getElem_append_left (by omega), List.getElem_append_left (by omega)]
    have := h3 i e
    rw [getElem!_pos us i (by omega), getElem!_pos l i (by omega)] at this
    exact this.kept hg (owns_ne this h2 (by decide))
  · obtain rfl : i = l.length := by omega
    rw [List.getElem_append_right (by omega), List.getElem_append_right (by omega)]
    simp only [h1, Nat.sub_self, List.getElem_cons_zero]
    exact hu.kept hg (owns_ne hu h2 (by decide))

/-- The basins of group i, of the first k. -/
def memb (P : Nat → Nat) (i k : Nat) : List Nat := (List.range k).filter fun j => decide (rootN 9 P j = i)
/-- The groups of more than one basin, of the first k. -/
def groups (P : Nat → Nat) (n k : Nat) : List (List Nat) := ((List.range k).map fun i => memb P i n).filter fun l => decide (1 < l.length)

theorem memb_succ (P : Nat → Nat) (i k : Nat) : memb P i (k + 1) = if rootN 9 P k = i then memb P i k ++ [k] else memb P i k := by
  unfold memb
  rw [List.range_succ, List.filter_append]
  split <;> simp_all
theorem groups_succ (P : Nat → Nat) (n k : Nat) : groups P n (k + 1) = if 1 < (memb P k n).length then groups P n k ++ [memb P k n] else groups P n k := by
  unfold groups
  rw [List.range_succ, List.map_append, List.filter_append]
  split <;> simp_all
theorem memb_len (P : Nat → Nat) (i k : Nat) : (memb P i k).length ≤ k := by
  have := List.length_filter_le (fun j => decide (rootN 9 P j = i)) (List.range k)
  simpa [memb] using this
theorem groups_len (P : Nat → Nat) (n k : Nat) : (groups P n k).length ≤ k := by
  have := List.length_filter_le (fun l : List Nat => decide (1 < l.length)) ((List.range k).map fun i => memb P i n)
  simpa [groups] using this
end Go.Proofs.Ytjhididnmkbgoaa
