/-
  Rows of triples and of pairs that a call made.
-/
import Derived.Test.YtjhididnmkbgoaaWe
import Derived.Test.YtjhididnmkbgoaaRef
set_option linter.unusedVariables false
set_option linter.unusedSimpArgs false
namespace Go.Proofs.Ytjhididnmkbgoaa
open Go.RowKit

def flat3 (n : Nat) (A B H : Nat → Int) : List Value := (List.range n).flatMap fun k => [.int .i64 (A k), .int .i64 (B k), .int .i64 (H k)]
theorem flat3_len (n : Nat) (A B H : Nat → Int) : (flat3 n A B H).length = n * 3 := by
  induction n with
  | zero => rfl
  | succ n ih =>
    unfold flat3 at *
    rw [List.range_succ, List.flatMap_append, List.length_append, ih]
    simp
    omega
theorem flat3_succ (n : Nat) (A B H : Nat → Int) : flat3 (n + 1) A B H = flat3 n A B H ++ [.int .i64 (A n), .int .i64 (B n), .int .i64 (H n)] := by
  unfold flat3
  rw [List.range_succ, List.flatMap_append]
  simp
theorem flat3_get (n : Nat) (A B H : Nat → Int) (k : Nat) (hk : k < n) :
    (flat3 n A B H)[k * 3]? = some (.int .i64 (A k)) ∧ (flat3 n A B H)[k * 3 + 1]? = some (.int .i64 (B k)) ∧ (flat3 n A B H)[k * 3 + 2]? = some (.int .i64 (H k)) := by
  induction n with
  | zero => omega
  | succ n ih =>
    rw [flat3_succ]
    have hl := flat3_len n A B H
    by_cases e : k = n
    · subst e
      refine ⟨?_, ?_, ?_⟩
      · rw [List.getElem?_append_right (by omega), hl]; simp
      · rw [List.getElem?_append_right (by omega), hl]; simp [Nat.add_sub_cancel_left]
      · rw [List.getElem?_append_right (by omega), hl]; simp [Nat.add_sub_cancel_left]
    · obtain ⟨h1, h2, h3⟩ := ih (by omega)
      refine ⟨?_, ?_, ?_⟩
      · rw [List.getElem?_append_left (by omega)]; exact h1
      · rw [List.getElem?_append_left (by omega)]; exact h2
      · rw [List.getElem?_append_left (by omega)]; exact h3
theorem flat3_congr {n : Nat} {A B H A' B' H' : Nat → Int} (h : ∀ k, k < n → A k = A' k ∧ B k = B' k ∧ H k = H' k) : flat3 n A B H = flat3 n A' B' H' := by
  induction n with
  | zero => rfl
  | succ n ih =>
    rw [flat3_succ, flat3_succ, ih (fun k hk => h k (by omega))]
    obtain ⟨a, b, c⟩ := h n (by omega)
    rw [a, b, c]
theorem flat3_add (n m : Nat) (A B H A' B' H' : Nat → Int) : flat3 n A B H ++ flat3 m A' B' H' =
    flat3 (n + m) (fun k => if k < n then A k else A' (k - n)) (fun k => if k < n then B k else B' (k - n)) (fun k => if k < n then H k else H' (k - n)) := by
  induction m with
  | zero =>
    rw [show flat3 0 A' B' H' = [] from rfl, List.append_nil]
    exact flat3_congr fun k hk => by simp [show k < n from hk]
  | succ m ih =>
    rw [flat3_succ, ← List.append_assoc, ih, ← Nat.add_assoc, flat3_succ]
    simp [show ¬ n + m < n by omega]
theorem flat3_one (n : Nat) (A B H : Nat → Int) : ∀ u ∈ flat3 n A B H, u.oneCell' = true := by
  intro u hu
  unfold flat3 at hu
  rw [List.mem_flatMap] at hu
  obtain ⟨k, _, hk⟩ := hu
  simp at hk
  rcases hk with rfl | rfl | rfl <;> rfl

/-- n triples that the call made. -/
def OwT (w : World) (base : Nat) (v : Value) (n : Nat) (A B H : Nat → Int) : Prop := w.ownsRow base 75 3 v n (flat3 n A B H)
theorem OwT.nil (w : World) (base : Nat) (A B H : Nat → Int) : OwT w base (.slice none 0 0) 0 A B H := World.ownsRow_nil w base 75 3
theorem OwT.kept {w w' : World} {row : Option Nat} {base : Nat} {v : Value} {n : Nat} {A B H : Nat → Int} (h : OwT w base v n A B H) (hg : w.grownBy w' row) (hne : v.ownBlock = none ∨ v.ownBlock ≠ row) : OwT w' base v n A B H := World.ownsRow.kept h hg hne
theorem OwT.below {w w' : World} {base : Nat} {v : Value} {n : Nat} {A B H : Nat → Int} (h : OwT w base v n A B H) (hb : Below w.heap.size w w') : OwT w' base v n A B H :=
  h.kept (grown_below hb none) (by cases v.ownBlock <;> simp)
theorem OwT.mono {w : World} {b b' n : Nat} {v : Value} {A B H : Nat → Int} (h : OwT w b v n A B H) (hb : b' ≤ b) : OwT w b' v n A B H := World.ownsRow.mono h hb
theorem OwT.congr {w : World} {base : Nat} {v : Value} {n : Nat} {A B H A' B' H' : Nat → Int} (h : OwT w base v n A B H) (e : ∀ k, k < n → A k = A' k ∧ B k = B' k ∧ H k = H' k) : OwT w base v n A' B' H' := by
  unfold OwT at *
  rw [← flat3_congr e]; exact h

theorem own_cell {w : World} {base : Nat} {e : TypeId} {size n g cap : Nat} {xs : List Value} (h : w.ownsRow base e size (.slice (some ⟨g, 0, none⟩) n cap) n xs) (j : Nat) {u : Value} (hj : xs[j]? = some u) : w.cell? ⟨g, j, none⟩ = some u := by
  rcases h.2 with ⟨h1, _⟩ | ⟨g', cap', cur, h1, h2, h3, h4, h5, h6, h7⟩
  · cases h1
  · cases h1
    have hlt : j < n * size := by have := (List.getElem?_eq_some_iff.1 hj).1; rw [h.1] at this; exact this
    have h8 : cur.toList[j]? = some u := by
      rw [← h7, List.getElem?_take, if_pos hlt] at hj
      exact hj
    unfold World.cell?
    rw [show w.heap[(⟨g, j, none⟩ : Addr).block]? = _ from h3]
    simpa using h8

theorem OwT.reads {w : World} {base : Nat} {v : Value} {n : Nat} {A B H : Nat → Int} (h : OwT w base v n A B H) (hn : n ≤ 1000000) : RdT w v n A B H := by
  unfold OwT at h
  rcases id h.2 with ⟨rfl, rfl⟩ | ⟨g, cap, cur, rfl, _, hh, hc, hm, hsz, ht⟩
  · exact ⟨none, 0, rfl, by omega, fun k hk => by omega⟩
  · refine ⟨_, cap, rfl, ⟨by omega, hc⟩, fun k hk => ⟨g, 0, rfl, ?_⟩⟩
    obtain ⟨h1, h2, h3⟩ := flat3_get n A B H k hk
    rw [Nat.zero_add]
    exact ⟨own_cell h _ h1, own_cell h _ h2, own_cell h _ h3⟩

def flat2 (n : Nat) (A B : Nat → Int) : List Value := (List.range n).flatMap fun k => [.int .i64 (A k), .int .i64 (B k)]
theorem flat2_len (n : Nat) (A B : Nat → Int) : (flat2 n A B).length = n * 2 := by
  induction n with
  | zero => rfl
  | succ n ih =>
    unfold flat2 at *
    rw [List.range_succ, List.flatMap_append, List.length_append, ih]
    simp
    omega
theorem flat2_succ (n : Nat) (A B : Nat → Int) : flat2 (n + 1) A B = flat2 n A B ++ [.int .i64 (A n), .int .i64 (B n)] := by
  unfold flat2
  rw [List.range_succ, List.flatMap_append]
  simp
theorem flat2_get (n : Nat) (A B : Nat → Int) (k : Nat) (hk : k < n) :
    (flat2 n A B)[k * 2]? = some (.int .i64 (A k)) ∧ (flat2 n A B)[k * 2 + 1]? = some (.int .i64 (B k)) := by
  induction n with
  | zero => omega
  | succ n ih =>
    rw [flat2_succ]
    have hl := flat2_len n A B
    by_cases e : k = n
    · subst e
      refine ⟨?_, ?_⟩
      · rw [List.getElem?_append_right (by omega), hl]; simp
      · rw [List.getElem?_append_right (by omega), hl]; simp [Nat.add_sub_cancel_left]
    · obtain ⟨h1, h2⟩ := ih (by omega)
      refine ⟨?_, ?_⟩
      · rw [List.getElem?_append_left (by omega)]; exact h1
      · rw [List.getElem?_append_left (by omega)]; exact h2

theorem OwP.reads {w : World} {base : Nat} {v : Value} {n : Nat} {A B : Nat → Int} (h : OwP w base v n A B) (hn : n ≤ 1000000) : RdP w v n A B := by
  have h : w.ownsRow base 47 2 v n (flat2 n A B) := h
  rcases id h.2 with ⟨rfl, rfl⟩ | ⟨g, cap, cur, rfl, _, hh, hc, hm, hsz, ht⟩
  · exact ⟨none, 0, rfl, by omega, fun k hk => by omega⟩
  · refine ⟨_, cap, rfl, ⟨by omega, hc⟩, fun k hk => ⟨g, 0, rfl, ?_⟩⟩
    obtain ⟨h1, h2⟩ := flat2_get n A B k hk
    rw [Nat.zero_add]
    exact ⟨own_cell h _ h1, own_cell h _ h2⟩

theorem OwP.below {w w' : World} {base : Nat} {v : Value} {n : Nat} {A B : Nat → Int} (h : OwP w base v n A B) (hb : Below w.heap.size w w') : OwP w' base v n A B := own_up hb h
theorem OwP.mono {w : World} {b b' n : Nat} {v : Value} {A B : Nat → Int} (h : OwP w b v n A B) (hb : b' ≤ b) : OwP w b' v n A B := World.ownsRow.mono h hb

theorem three_one (x y z : Int) : ∀ u ∈ [Value.int .i64 x, Value.int .i64 y, Value.int .i64 z], u.oneCell' = true := by simp [Value.oneCell']

section
variable {ops : Array Oper} {rest : List Oper} {o : Oper} {a : Act} {Q : Exit → Act → World → Prop}
/-- 'append(out, l...)', triples. -/
theorem app_threes {w W : World} (hgd : o.guard = none) (s x : Operand) (ho : o.op = .call { callee := .builtin .append, args := #[s, x], argTypes := #[23, 23] })
    (base : Nat) (v u : Value) (n m : Nat) (A B H A' B' H' : Nat → Int) (hs : a.eval s = v) (hx : a.eval x = u) (hown : OwT W base v n A B H) (hr : RdT W u m A' B' H') (hB : Below base w W)
    (hn : n ≤ 1000000) (hm : m ≤ 1000000) (hbase : base ≤ W.heap.size)
    (h : ∀ v' w', OwT w' base v' (n + m) (fun k => if k < n then A k else A' (k - n)) (fun k => if k < n then B k else B' (k - n)) (fun k => if k < n then H k else H' (k - n)) → Below base w w' → W.grownBy w' v.ownBlock → wpList Try.prog ops Q rest (a.put o.dst v') w') :
    wpList Try.prog ops Q (o :: rest) a W := by
  obtain ⟨AA, c, rfl, hl, hc⟩ := hr
  have hinfo : (Try.prog.info? 75).map (fun i => (i.zero, i.size, i.bytes)) = some (some (.agg #[.int .i64 0, .int .i64 0, .int .i64 0]), 3, 24) := by kernel_rfl
  obtain ⟨i, hi, hz1, hz2, hz3⟩ := info_parts hinfo
  rcases AA with _ | ad
  · obtain rfl : m = 0 := by
      rcases Nat.eq_zero_or_pos m with h0 | h0
      · exact h0
      · obtain ⟨_, _, e, _⟩ := hc 0 h0
        cases e
    have hrun : (Builtin.append_ #[23, 23] o.type #[v, .slice none 0 c]).run Try.prog W = .ok v W := by
      rcases hown.2 with ⟨rfl, rfl⟩ | ⟨g', cap, cur, rfl, _, _, hnc, _⟩
      · simp [Builtin.append_, run_underlying Try.underlying23, sizeOf, typeInfo, hi, Builtin.lenOf, Builtin.firstCells]
      · simp [Builtin.append_, run_underlying Try.underlying23, sizeOf, typeInfo, hi, Builtin.lenOf, Builtin.firstCells, hnc, storeCells]
    refine wpList_plain hgd fun K hK => ?_
    unfold Oper.wp execOp
    simp only [ho, resolve, invoke, builtin, Sem.run_bind, Sem.run_pure, Result.andThen_ok, List.map_toArray, List.map_cons, List.map_nil, hs, hx, hrun]
    refine hK _ _ (h v W (hown.congr fun k hk => by simp [show k < n from hk]) hB (World.grownBy.refl _ _))
  · refine wpList_append_own_at W hgd s x 23 ho base 75 i (.agg #[.int .i64 0, .int .i64 0, .int .i64 0]) 3 24 Try.underlying23 hi hz1 hz2 hz3 rfl (by decide) v n _ hs hown ad m c (flat3 m A' B' H') hx (flat3_len ..) (fun j u hj => ?_)
      (flat3_one m A' B' H') (by unfold maxLen; omega) (by omega) hbase ?_
    · have hjm : j < m * 3 := by
        have := (List.getElem?_eq_some_iff.1 hj).1
        rw [flat3_len] at this
        exact this
      obtain ⟨b, off, e, h1, h2, h3⟩ := hc (j / 3) (by omega)
      cases e
      rw [add_plain, ← hj]
      obtain ⟨g1, g2, g3⟩ := flat3_get m A' B' H' (j / 3) (by omega)
      generalize hq : j / 3 = q at *
      have hj3 : j = q * 3 ∨ j = q * 3 + 1 ∨ j = q * 3 + 2 := by omega
      rcases hj3 with rfl | rfl | rfl
      · rw [h1, g1]
      · rw [← Nat.add_assoc, h2, g2]
      · rw [← Nat.add_assoc, h3, g3]
    · intro v' w' hown' hg _ _
      refine h v' w' ?_ (hB.grown hg hbase (own_base hown)) hg
      unfold OwT
      rw [← flat3_add]
      exact hown'

/-- 'append(out, t)', one triple. -/
theorem app_three {w W : World} (hgd : o.guard = none) (s x : Operand) (ho : o.op = .call { callee := .builtin .append, args := #[s, x], argTypes := #[23, 23] })
    (base : Nat) (v : Value) (n : Nat) (A B H : Nat → Int) (t0 t1 t2 : Int) (hs : a.eval s = v) (hown : OwT W base v n A B H) (hB : Below base w W)
    (hx : a.eval x = .slice (some ⟨W.heap.size, 0, none⟩) 1 1) (hbytes : n ≤ 1000000) (hbase : base ≤ W.heap.size)
    (h : ∀ v' w', OwT w' base v' (n + 1) (fun k => if k < n then A k else t0) (fun k => if k < n then B k else t1) (fun k => if k < n then H k else t2) → Below base w w' → W.grownBy w' v.ownBlock → (v'.ownBlock = v.ownBlock ∨ v'.ownBlock = some (W.heap.size + 1)) → wpList Try.prog ops Q rest (a.put o.dst v') w') :
    wpList Try.prog ops Q (o :: rest) a (W.alloc (.cells #[.int .i64 t0, .int .i64 t1, .int .i64 t2] 75)) := by
  refine app_one (news := [.int .i64 t0, .int .i64 t1, .int .i64 t2]) 23 75 (.agg #[.int .i64 0, .int .i64 0, .int .i64 0]) 3 24 Try.underlying23 (by kernel_rfl) rfl (by decide) (by decide) hgd s x ho base v n _ hs hown hx rfl (three_one _ _ _) (by omega) hbase ?_
  intro v' w' h1 h2 h3
  refine h v' w' ?_ (hB.grown h2 hbase (own_base hown)) h2 h3
  unfold OwT
  have : flat3 (n + 1) (fun k => if k < n then A k else t0) (fun k => if k < n then B k else t1) (fun k => if k < n then H k else t2) = flat3 n A B H ++ [.int .i64 t0, .int .i64 t1, .int .i64 t2] := by
    have := flat3_add n 1 A B H (fun _ => t0) (fun _ => t1) (fun _ => t2)
    exact this.symm
  rw [this]
  exact h1
end
end Go.Proofs.Ytjhididnmkbgoaa
