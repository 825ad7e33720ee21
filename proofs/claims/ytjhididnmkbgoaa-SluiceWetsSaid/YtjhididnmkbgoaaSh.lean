/-
  The laws' arguments as they are read: slices of whole numbers, of sills; the basins.
-/
import Derived.Test.YtjhididnmkbgoaaLa
import Derived.Test.YtjhididnmkbgoaaRows
import Derived.ProofKit
import Derived.SizedLaws
import Derived.OpenShut
import Derived.Deep.Slices
import Derived.Lib.SmallJoins
import Derived.Laws.IdiomArrays
set_option linter.unusedVariables false
set_option linter.unusedSimpArgs false
namespace Go.Proofs.Ytjhididnmkbgoaa
open Go.ChangeShapes Go.WideShapes Go.ChangeAt Go.RowKit Go.Deep Go.Joins

theorem Try.own : ownKnob Try.prog.godebug = none := by kernel_rfl
theorem Try.laidOut : laidOutB Try.prog = true := by kernel_rfl
theorem Try.cells3 : Try.prog.cellsOf 3 = 1 := by kernel_rfl
theorem Try.cells75 : Try.prog.cellsOf 75 = 3 := by kernel_rfl
theorem Try.cells25 : Try.prog.cellsOf 25 = 3 := by kernel_rfl
theorem Try.cells22 : Try.prog.cellsOf 22 = 1 := by kernel_rfl
theorem Try.cells26 : Try.prog.cellsOf 26 = 2 := by kernel_rfl
theorem Try.bytes3 : Try.prog.bytesOf 3 = 8 := by kernel_rfl
theorem Try.bytes75 : Try.prog.bytesOf 75 = 24 := by kernel_rfl
theorem reach_eq : reachBytes = 140737488351232 := rfl

section
variable {H : Type} {enc : TypeId × Value → H} {W : World}

/-- A slice of whole numbers. -/
theorem open22 {fuel : Nat} {v : Value} {y : DataW H × List MemPlace} (h : DataW.trod enc Try.prog W 0 (fun _ => true) true fuel 22 [v] = some y) (hw : ∀ n ∈ DataW.weights Try.prog 22 y.1, n ≤ reachBytes) : ∃ n f, RdI W v n f := by
  rcases open_ints Try.underlying22 Try.underlying3 Try.cells3 h with ⟨hcs, hx⟩ | ⟨a, len, cap, zs, hcs, _, hl, hm, hz, hx, hcell, _⟩
  · simp at hcs
    subst hcs
    exact ⟨0, fun _ => 0, none, 0, rfl, by omega, fun k hk => by omega⟩
  · simp at hcs
    subst hcs
    subst hx
    have hz' : zs.length = cap := by simpa using hz
    have hr := hw ((zs.take len).length * 8 + (zs.drop len).length * 8) (by
      simp [DataW.weights, Try.underlying22, Try.bytes3, lits]
      left
      omega)
    rw [reach_eq] at hr
    simp at hr
    refine ⟨len, fun k => zs.getD k 0, some a, cap, rfl, by omega, fun k hk => ?_⟩
    obtain ⟨b, off, rfl, hc⟩ := ints_at hcell (by omega)
    exact ⟨b, off, rfl, hc k (by omega)⟩

/-- A slice of sills. -/
theorem open23 {fuel : Nat} {v : Value} {y : DataW H × List MemPlace} (h : DataW.trod enc Try.prog W 0 (fun _ => true) true fuel 23 [v] = some y) (hw : ∀ n ∈ DataW.weights Try.prog 23 y.1, n ≤ reachBytes) : ∃ n A B C, RdT W v n A B C := by
  rcases open_slice Try.underlying23 h with ⟨hcs, hx⟩ | ⟨a, len, cap, m, n, D, Pl, hcs, _, hl, hm, hmm, hx, hcell⟩
  · simp at hcs
    subst hcs
    exact ⟨0, fun _ => 0, fun _ => 0, fun _ => 0, none, 0, rfl, by omega, fun k hk => by omega⟩
  · simp at hcs
    subst hcs
    subst hx
    have hmc : m = cap := by simpa using hmm
    subst hmc
    have hr := hw ((len + (m - len)) * 24) (by
      simp [DataW.weights, Try.underlying23, Try.bytes75])
    rw [reach_eq] at hr
    have key : ∀ i, i < m → ∃ x0 x1 x2 : Int, W.cell? (a.add (i * 3)) = some (.int .i64 x0) ∧ W.cell? ((a.add (i * 3)).add 1) = some (.int .i64 x1) ∧ W.cell? ((a.add (i * 3)).add 2) = some (.int .i64 x2) := fun i hi => by
      obtain ⟨cs', hc, ht⟩ := hcell i hi
      rw [Try.cells75] at hc
      obtain ⟨_, hlen, hcc⟩ := World.cells?_some hc
      match cs', hlen with
      | [c0, c1, c2], _ =>
        obtain ⟨y0, y1, y2, n', _, t0, t1, t2⟩ := trod_array3 Try.underlying75 Try.cells3 ht
        obtain ⟨z0, e0, _⟩ := DataW.trod_int Try.underlying3 t0
        obtain ⟨z1, e1, _⟩ := DataW.trod_int Try.underlying3 t1
        obtain ⟨z2, e2, _⟩ := DataW.trod_int Try.underlying3 t2
        simp at e0 e1 e2
        subst e0 e1 e2
        have q0 := hcc 0 (by omega)
        have q1 := hcc 1 (by omega)
        have q2 := hcc 2 (by omega)
        refine ⟨z0, z1, z2, ?_, q1, q2⟩
        rcases a with ⟨b, o, s⟩
        simpa [Addr.add] using q0
    rcases Nat.eq_zero_or_pos len with h0 | h0
    · subst h0
      exact ⟨0, fun _ => 0, fun _ => 0, fun _ => 0, some a, m, rfl, by omega, fun k hk => by omega⟩
    · obtain ⟨b, off, spot⟩ := a
      have hspot : spot = none := by
        obtain ⟨x0, _, _, q0, _⟩ := key 0 (by omega)
        simpa [Addr.add] using World.cell?_spot q0
      subst hspot
      have key2 : ∀ i, ∃ x0 x1 x2 : Int, i < m → W.cell? ⟨b, off + i * 3, none⟩ = some (.int .i64 x0) ∧ W.cell? ⟨b, off + i * 3 + 1, none⟩ = some (.int .i64 x1) ∧ W.cell? ⟨b, off + i * 3 + 2, none⟩ = some (.int .i64 x2) := fun i => by
        by_cases hi : i < m
        · obtain ⟨x0, x1, x2, q0, q1, q2⟩ := key i hi
          rw [add_plain] at q0 q1 q2
          rw [add_plain] at q1 q2
          exact ⟨x0, x1, x2, fun _ => ⟨q0, q1, q2⟩⟩
        · exact ⟨0, 0, 0, fun h => absurd h hi⟩
      refine ⟨len, fun i => (key2 i).choose, fun i => (key2 i).choose_spec.choose, fun i => (key2 i).choose_spec.choose_spec.choose, some ⟨b, off, none⟩, m, rfl, by omega, fun k hk => ⟨b, off, rfl, ?_⟩⟩
      exact (key2 k).choose_spec.choose_spec.choose_spec (by omega)

set_option maxRecDepth 100000 in
/-- What is small of a whole is small of its parts. -/
theorem open25 {b0 : Nat} {r : Reach} {v : Value} {d : DataW H} {p : List MemPlace} (hv : Value.okWide Try.prog W r b0 25 v) (h : DataW.Trod enc Try.prog W 0 (fun _ => true) true 25 v d p) (hw : ∀ n ∈ DataW.weights Try.prog 25 d, n ≤ reachBytes) :
    ∃ va vf vs na nf ns la lf A B C, v = .agg #[va, vf, vs] ∧ RdI W va na la ∧ RdI W vf nf lf ∧ RdT W vs ns A B C := by
  obtain ⟨v0, v1, v2, y0, y1, y2, n, rfl, rfl, rfl, h0, h1, h2⟩ := open_agg3 Try.underlying25 (by kernel_rfl) Try.cells25 hv h
  simp only [DataW.weights, Try.underlying25, DataW.weightsEach, List.map_cons, List.map_nil, List.mem_append] at hw
  obtain ⟨na, la, ra⟩ := open22 h0 (fun n hn => hw n (.inl hn))
  obtain ⟨nf, lf, rf⟩ := open22 h1 (fun n hn => hw n (.inr (.inl hn)))
  obtain ⟨ns, A, B, C, rs⟩ := open23 h2 (fun n hn => hw n (.inr (.inr (.inl hn))))
  exact ⟨v0, v1, v2, na, nf, ns, la, lf, A, B, C, rfl, ra, rf, rs⟩

set_option maxRecDepth 100000 in
/-- Two lists of whole numbers. -/
theorem open26 {b0 : Nat} {r : Reach} {v : Value} {d : DataW H} {p : List MemPlace} (hv : Value.okWide Try.prog W r b0 26 v) (h : DataW.Trod enc Try.prog W 0 (fun _ => true) true 26 v d p) (hw : ∀ n ∈ DataW.weights Try.prog 26 d, n ≤ reachBytes) :
    ∃ v0 v1 n0 n1 l0 l1, v = .agg #[v0, v1] ∧ RdI W v0 n0 l0 ∧ RdI W v1 n1 l1 := by
  obtain ⟨cs, rfl, hsz⟩ : ∃ cs, v = .agg cs ∧ cs.size = Try.prog.cellsOf 26 := by
    simp only [Value.okWide, Try.underlying26] at hv
    obtain ⟨cs, h1, h2, _⟩ := hv
    exact ⟨cs, h1, h2⟩
  obtain ⟨c0, c1, rfl⟩ := array2 (hsz.trans Try.cells26)
  obtain ⟨fuel, hf⟩ := h
  obtain ⟨xs, m, _, hx, _, hlen, hel⟩ := DataW.trod_array Try.underlying26 hf
  match xs, hlen with
  | [y0, y1], _ =>
    simp only [Prod.mk.injEq] at hx
    obtain ⟨rfl, rfl⟩ := hx
    have e0 := hel 0 (by omega)
    have e1 := hel 1 (by omega)
    rw [Try.cells22] at e0 e1
    simp only [DataW.weights, Try.underlying26, List.map_cons, List.map_nil, DataW.weightsAll, List.mem_append] at hw
    obtain ⟨n0, l0, r0⟩ := open22 (y := y0) (v := c0) (by simpa [Value.cells] using e0) (fun n hn => hw n (.inl hn))
    obtain ⟨n1, l1, r1⟩ := open22 (y := y1) (v := c1) (by simpa [Value.cells] using e1) (fun n hn => hw n (.inr (.inl hn)))
    exact ⟨c0, c1, n0, n1, l0, l1, rfl, r0, r1⟩

/-- The reach of one argument. -/
theorem reach_at {ts : List TypeId} {ds : List (DataW H)} (h : (DataW.weightsEach Try.prog ts ds).all (· ≤ reachBytes) = true) {j : Nat} {t : TypeId} {d : DataW H} (ht : ts[j]? = some t) (hd : ds[j]? = some d) : ∀ n ∈ DataW.weights Try.prog t d, n ≤ reachBytes := fun n hn =>
  of_decide_eq_true (List.all_eq_true.1 h n (DataW.weights_mem_each ht hd n hn))
end
end Go.Proofs.Ytjhididnmkbgoaa
