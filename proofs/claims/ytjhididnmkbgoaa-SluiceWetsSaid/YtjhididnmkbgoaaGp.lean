import Derived.Test.YtjhididnmkbgoaaAr
import Derived.Test.YtjhididnmkbgoaaLa
set_option linter.unusedVariables false
set_option linter.unusedSimpArgs false
namespace Go.Proofs.Ytjhididnmkbgoaa
open Go.RowKit

theorem flat2_one (n : Nat) (A B : Nat → Int) : ∀ u ∈ flat2 n A B, u.oneCell' = true := by
  intro u hu
  unfold flat2 at hu
  rw [List.mem_flatMap] at hu
  obtain ⟨k, _, hk⟩ := hu
  simp at hk
  rcases hk with rfl | rfl <;> rfl

theorem RdP.take {w : World} {a : Option Addr} {n c : Nat} {A B : Nat → Int} (h : RdP w (.slice a n c) n A B) (k : Nat) (hk : k ≤ n) : RdP w (.slice a k c) k A B := by
  obtain ⟨A1, c1, e, hl, hc⟩ := h
  cases e
  exact ⟨a, c, rfl, by omega, fun j hj => hc j (by omega)⟩

theorem lvB_one {area floor : Nat → Int} (rng : Rng area floor) (rep : Nat → Nat) (vol : Nat → Int) (n k : Nat) (hk : k < n) : 1 ≤ lvB area floor rep vol n k := by
  have hD := lvD_pos rng rep n k hk
  unfold lvB
  generalize lvD area rep n k = D at *
  generalize lvN area floor rep vol n k = N at *
  have hg : 0 < Int.gcd N D := Int.gcd_pos_of_ne_zero_right _ (by omega)
  obtain ⟨c, hc⟩ : (Int.gcd N D : Int) ∣ D := Int.gcd_dvd_right ..
  have hg' : (0 : Int) < (Int.gcd N D : Int) := by omega
  have he : D / (Int.gcd N D : Int) = c := Int.ediv_eq_of_eq_mul_right (by omega) hc
  rw [he]
  rcases Int.lt_or_le 0 c with h | h
  · omega
  · have := Int.mul_nonpos_of_nonneg_of_nonpos (Int.le_of_lt hg') h
    omega

theorem lvA_bd {area floor : Nat → Int} (rng : Rng area floor) (rep : Nat → Nat) (vol : Nat → Int) (n k : Nat) (hn : n ≤ 8) (hv : 0 ≤ vol (rep k) ∧ vol (rep k) ≤ 16000000) : 0 ≤ lvA area floor rep vol n k ∧ lvA area floor rep vol n k ≤ 16080000 := by
  have h := grpF_range rng (fun i => (rep i : Int)) (rep k) n
  unfold lvA
  have h0 : 0 ≤ lvN area floor rep vol n k := by unfold lvN; omega
  have h1 : lvN area floor rep vol n k ≤ 16080000 := by have := h.2; unfold lvN; omega
  have h2 := Int.ediv_nonneg h0 (Int.natCast_nonneg (Int.gcd (lvN area floor rep vol n k) (lvD area rep n k)))
  have h3 := Int.ediv_le_self (Int.gcd (lvN area floor rep vol n k) (lvD area rep n k) : Int) h0
  omega

theorem OwP.form {w : World} {base n : Nat} {v : Value} {A B : Nat → Int} (h : OwP w base v n A B) (hn : 1 ≤ n) : ∃ g cap, v = .slice (some ⟨g, 0, none⟩) n cap := by
  obtain ⟨q, rfl⟩ : ∃ q, n = q + 1 := ⟨n - 1, by omega⟩
  exact own_form h

theorem RdP.put {w : World} {g n cap : Nat} {A B : Nat → Int} (h : RdP w (.slice (some ⟨g, 0, none⟩) n cap) n A B) (j : Nat) (hj : j < n) (x y : Int) :
    RdP ((w.setCell ⟨g, j * 2, none⟩ (.int .i64 x)).setCell ⟨g, j * 2 + 1, none⟩ (.int .i64 y)) (.slice (some ⟨g, 0, none⟩) n cap) n (fun i => if i = j then x else A i) (fun i => if i = j then y else B i) := by
  obtain ⟨a, c, e, hl, hc⟩ := h
  cases e
  refine ⟨_, cap, rfl, hl, fun k hk => ?_⟩
  obtain ⟨b, off, e, h1, h2⟩ := hc k hk
  cases e
  rw [Nat.zero_add] at h1 h2
  have oth : ∀ (w : World) (o o' : Nat) (v : Value), o ≠ o' → (w.setCell ⟨g, o, none⟩ v).cell? ⟨g, o', none⟩ = w.cell? ⟨g, o', none⟩ := fun w o o' v h => World.cell?_setCell_other _ _ _ _ (by intro e; injection e; omega)
  have sam : ∀ (w : World) (o : Nat) (u v : Value), w.cell? ⟨g, o, none⟩ = some u → (w.setCell ⟨g, o, none⟩ v).cell? ⟨g, o, none⟩ = some v := fun w o u v h => World.cell?_setCell_same _ _ _ h
  refine ⟨g, 0, rfl, ?_, ?_⟩
  · show _ = some (Value.int .i64 (if k = j then x else A k))
    rw [Nat.zero_add, oth _ _ _ _ (by omega)]
    by_cases ek : k = j
    · subst ek; rw [if_pos rfl]; exact sam _ _ _ _ h1
    · rw [if_neg ek, oth _ _ _ _ (by omega)]; exact h1
  · show _ = some (Value.int .i64 (if k = j then y else B k))
    rw [Nat.zero_add]
    by_cases ek : k = j
    · subst ek; rw [if_pos rfl]; refine sam _ _ (.int .i64 (B k)) _ ?_
      rw [oth _ _ _ _ (by omega)]; exact h2
    · rw [if_neg ek, oth _ _ _ _ (by omega), oth _ _ _ _ (by omega)]; exact h2

section
variable {ops : Array Oper} {rest : List Oper} {o : Oper} {a : Act} {Q : Exit → Act → World → Prop}
/-- 'append(nil, l...)', pairs. -/
theorem app_pairs0 {w W : World} (hgd : o.guard = none) (s x : Operand) (ho : o.op = .call { callee := .builtin .append, args := #[s, x], argTypes := #[34, 34] })
    (base : Nat) (u : Value) (m : Nat) (A' B' : Nat → Int) (hs : a.eval s = .slice none 0 0) (hx : a.eval x = u) (hr : RdP W u m A' B') (hB : Below base w W)
    (hm : m ≤ 1000000) (hbase : base ≤ W.heap.size)
    (h : ∀ v' w', OwP w' base v' m A' B' → Below base w w' → W.grownBy w' none → wpList Try.prog ops Q rest (a.put o.dst v') w') :
    wpList Try.prog ops Q (o :: rest) a W := by
  obtain ⟨AA, c, rfl, hl, hc⟩ := hr
  have hinfo : (Try.prog.info? 47).map (fun i => (i.zero, i.size, i.bytes)) = some (some (.agg #[.int .i64 0, .int .i64 0]), 2, 16) := by kernel_rfl
  obtain ⟨i, hi, hz1, hz2, hz3⟩ := info_parts hinfo
  have hown : W.ownsRow base 47 2 (.slice none 0 0) 0 [] := World.ownsRow_nil _ _ _ _
  rcases AA with _ | ad
  · obtain rfl : m = 0 := by
      rcases Nat.eq_zero_or_pos m with h0 | h0
      · exact h0
      · obtain ⟨_, _, e, _⟩ := hc 0 h0
        cases e
    have hrun : (Builtin.append_ #[34, 34] o.type #[.slice none 0 0, .slice none 0 c]).run Try.prog W = .ok (.slice none 0 0) W := by
      simp [Builtin.append_, run_underlying Try.underlying34, sizeOf, typeInfo, hi, Builtin.lenOf, Builtin.firstCells]
    refine wpList_plain hgd fun K hK => ?_
    unfold Oper.wp execOp
    simp only [ho, resolve, invoke, builtin, Sem.run_bind, Sem.run_pure, Result.andThen_ok, List.map_toArray, List.map_cons, List.map_nil, hs, hx, hrun]
    exact hK _ _ (h _ W hown hB (World.grownBy.refl _ _))
  · refine wpList_append_own_at W hgd s x 34 ho base 47 i (.agg #[.int .i64 0, .int .i64 0]) 2 16 Try.underlying34 hi hz1 hz2 hz3 rfl (by decide) (.slice none 0 0) 0 [] hs hown ad m c (flat2 m A' B') hx (flat2_len ..) (fun j u hj => ?_)
      (flat2_one m A' B') (by unfold maxLen; omega) (by omega) hbase ?_
    · have hjm : j < m * 2 := by
        have := (List.getElem?_eq_some_iff.1 hj).1
        rw [flat2_len] at this
        exact this
      obtain ⟨b, off, e, h1, h2⟩ := hc (j / 2) (by omega)
      cases e
      rw [add_plain, ← hj]
      obtain ⟨g1, g2⟩ := flat2_get m A' B' (j / 2) (by omega)
      generalize hq : j / 2 = q at *
      have hj3 : j = q * 2 ∨ j = q * 2 + 1 := by omega
      rcases hj3 with rfl | rfl
      · rw [h1, g1]
      · rw [← Nat.add_assoc, h2, g2]
    · intro v' w' hown' hg _ _
      refine h v' w' ?_ (hB.grown hg hbase (fun k hk => by cases hk)) hg
      rw [Nat.zero_add] at hown'
      exact hown'
end
end Go.Proofs.Ytjhididnmkbgoaa
