/-
  More of the laws' arguments as they are read: slices of pairs; a claim of levels.
-/
import Derived.Test.YtjhididnmkbgoaaSh
set_option linter.unusedVariables false
set_option linter.unusedSimpArgs false
namespace Go.Proofs.Ytjhididnmkbgoaa
open Go.ChangeShapes Go.WideShapes Go.ChangeAt Go.RowKit Go.Deep Go.Joins

theorem Try.cells2 : Try.prog.cellsOf 2 = 1 := by kernel_rfl
theorem Try.cells47 : Try.prog.cellsOf 47 = 2 := by kernel_rfl
theorem Try.cells44 : Try.prog.cellsOf 44 = 3 := by kernel_rfl
theorem Try.bytes47 : Try.prog.bytesOf 47 = 16 := by kernel_rfl

section
variable {H : Type} {enc : TypeId × Value → H} {W : World}

set_option maxRecDepth 100000 in
/-- A slice of pairs. -/
theorem open34 {fuel : Nat} {v : Value} {y : DataW H × List MemPlace} (h : DataW.trod enc Try.prog W 0 (fun _ => true) true fuel 34 [v] = some y) (hw : ∀ n ∈ DataW.weights Try.prog 34 y.1, n ≤ reachBytes) : ∃ n A B, RdP W v n A B := by
  rcases open_slice Try.underlying34 h with ⟨hcs, hx⟩ | ⟨a, len, cap, m, n, D, Pl, hcs, _, hl, hm, hmm, hx, hcell⟩
  · simp at hcs
    subst hcs
    exact ⟨0, fun _ => 0, fun _ => 0, none, 0, rfl, by omega, fun k hk => by omega⟩
  · simp at hcs
    subst hcs
    subst hx
    have hmc : m = cap := by simpa using hmm
    subst hmc
    have hr := hw ((len + (m - len)) * 16) (by
      simp [DataW.weights, Try.underlying34, Try.bytes47])
    rw [reach_eq] at hr
    have key : ∀ i, i < m → ∃ x0 x1 : Int, W.cell? (a.add (i * 2)) = some (.int .i64 x0) ∧ W.cell? ((a.add (i * 2)).add 1) = some (.int .i64 x1) := fun i hi => by
      obtain ⟨cs', hc, ht⟩ := hcell i hi
      rw [Try.cells47] at hc
      obtain ⟨_, hlen, hcc⟩ := World.cells?_some hc
      match cs', hlen with
      | [c0, c1], _ =>
        obtain ⟨xs, m', _, _, _, hxl, hel⟩ := DataW.trod_array Try.underlying47 ht
        match xs, hxl with
        | [y0, y1], _ =>
          have t0 := hel 0 (by omega)
          have t1 := hel 1 (by omega)
          rw [Try.cells2] at t0 t1
          obtain ⟨z0, e0, _⟩ := DataW.trod_int (x := y0) Try.underlying2 t0
          obtain ⟨z1, e1, _⟩ := DataW.trod_int (x := y1) Try.underlying2 t1
          simp at e0 e1
          subst e0 e1
          have q0 := hcc 0 (by omega)
          have q1 := hcc 1 (by omega)
          refine ⟨z0, z1, ?_, q1⟩
          rcases a with ⟨b, o, s⟩
          simpa [Addr.add] using q0
    rcases Nat.eq_zero_or_pos len with h0 | h0
    · subst h0
      exact ⟨0, fun _ => 0, fun _ => 0, some a, m, rfl, by omega, fun k hk => by omega⟩
    · obtain ⟨b, off, spot⟩ := a
      have hspot : spot = none := by
        obtain ⟨x0, _, q0, _⟩ := key 0 (by omega)
        simpa [Addr.add] using World.cell?_spot q0
      subst hspot
      have key2 : ∀ i, ∃ x0 x1 : Int, i < m → W.cell? ⟨b, off + i * 2, none⟩ = some (.int .i64 x0) ∧ W.cell? ⟨b, off + i * 2 + 1, none⟩ = some (.int .i64 x1) := fun i => by
        by_cases hi : i < m
        · obtain ⟨x0, x1, q0, q1⟩ := key i hi
          rw [add_plain] at q0 q1
          rw [add_plain] at q1
          exact ⟨x0, x1, fun _ => ⟨q0, q1⟩⟩
        · exact ⟨0, 0, fun h => absurd h hi⟩
      refine ⟨len, fun i => (key2 i).choose, fun i => (key2 i).choose_spec.choose, some ⟨b, off, none⟩, m, rfl, by omega, fun k hk => ⟨b, off, rfl, ?_⟩⟩
      exact (key2 k).choose_spec.choose_spec (by omega)

set_option maxRecDepth 100000 in
/-- A claim: amounts, levels, what is lost. -/
theorem open44 {b0 : Nat} {r : Reach} {v : Value} {d : DataW H} {p : List MemPlace} (hv : Value.okWide Try.prog W r b0 44 v) (h : DataW.Trod enc Try.prog W 0 (fun _ => true) true 44 v d p) (hw : ∀ n ∈ DataW.weights Try.prog 44 d, n ≤ reachBytes) :
    ∃ v0 vl n0 r l0 LA LB x, v = .agg #[v0, vl, .int .i64 x] ∧ RdI W v0 n0 l0 ∧ RdP W vl r LA LB := by
  obtain ⟨v0, v1, v2, y0, y1, y2, n, rfl, rfl, rfl, h0, h1, h2⟩ := open_agg3 Try.underlying44 (by kernel_rfl) Try.cells44 hv h
  simp only [DataW.weights, Try.underlying44, DataW.weightsEach, List.map_cons, List.map_nil, List.mem_append] at hw
  obtain ⟨n0, l0, r0⟩ := open22 h0 (fun n hn => hw n (.inl hn))
  obtain ⟨n1, LA, LB, r1⟩ := open34 h1 (fun n hn => hw n (.inr (.inl hn)))
  obtain ⟨x, e2, _⟩ := DataW.trod_int Try.underlying2 h2
  simp at e2
  subst e2
  exact ⟨v0, v1, n0, n1, l0, LA, LB, x, rfl, r0, r1⟩
end
end Go.Proofs.Ytjhididnmkbgoaa
