import Derived.Test.YtjhididnmkbgoaaShelf
import Derived.Test.YtjhididnmkbgoaaWg
set_option linter.unusedVariables false
set_option linter.unusedSimpArgs false
namespace Go.Proofs.Ytjhididnmkbgoaa
open Go.RowKit Go.Lib Go.Sort

theorem RdT.nil_of {w : World} {n c : Nat} {A B H : Nat → Int} (h : RdT w (.slice none n c) n A B H) : n = 0 := by
  obtain ⟨a, c', e, hl, hc⟩ := h
  cases e
  rcases Nat.eq_zero_or_pos n with h0 | h0
  · exact h0
  · obtain ⟨_, _, e, _⟩ := hc 0 h0
    cases e

set_option maxRecDepth 100000 in
set_option maxHeartbeats 1000000 in
theorem clone83_any (w : World) (v : Value) (n : Nat) (A B H : Nat → Int) (hv : RdT w v n A B H) (hn : n ≤ 1000) :
    Calls Try.prog 83 #[v] w fun e w' => ∃ u, e = .returned u ∧ OwT w' w.heap.size u n A B H ∧ Below w.heap.size w w' := by
  obtain ⟨a, c, rfl, hl, hc⟩ := id hv
  have heq := fun (W : World) => Lib.run_eql_slice_nil (P := Try.prog) W 23 75 a n c 0 0 Try.underlying23
  rcases a with _ | ad
  · obtain rfl := hv.nil_of
    go_enter Try.func83, Try.ntmps83
    go_wp2
    go_ret
    exact ⟨_, rfl, OwT.nil _ _ _ _ _, Below.refl _ _⟩
  · clear hc
    go_enter Try.func83, Try.ntmps83
    have hB : Below w.heap.size w (w.alloc (.cells #[] 75)) := (Below.refl _ _).alloc (Nat.le_refl _) _
    have hv1 := hv.below hB
    have hown : OwT (w.alloc (.cells #[] 75)) w.heap.size (.slice (some ⟨w.heap.size, 0, none⟩) 0 0) 0 A B H := ⟨rfl, .inr ⟨w.heap.size, 0, #[], rfl, Nat.le_refl _, heap_new w _, Nat.le_refl _, by unfold maxLen; omega, rfl, rfl⟩⟩
    go_wp2_with (at_builtin; refine app_threes (w := w) rfl (.tmp 5) (.tmp 6) rfl w.heap.size _ _ 0 n A B H A B H rfl rfl hown hv1 hB (by omega) (by omega) (by simp) ?_; intro v' w1 h1 h2 h3; rw [Nat.zero_add] at h1)
    go_ret
    exact ⟨_, rfl, h1.congr fun k hk => by simp, h2⟩

variable {q : Nat}
/-- A sill within the bounds. -/
abbrev BQ (q : Nat) := { s : Slu.Sill // (0 ≤ s.h ∧ s.h ≤ 1000) ∧ s.a < s.b ∧ s.b ≤ q + 1 }
instance : Inhabited (BQ q) := ⟨⟨⟨0, 1, 1⟩, by decide, by decide, by show 1 ≤ q + 1; omega⟩⟩
def encB (x : (BQ q)) : List Value := [.int .i64 (x.1.a : Nat), .int .i64 (x.1.b : Nat), .int .i64 x.1.h]
def cfB (x y : (BQ q)) : Int := x.1.h - y.1.h

set_option maxRecDepth 100000 in
theorem cmp84_any (x y : (BQ q)) (W : World) : Calls Try.prog 84 #[.agg (encB x).toArray, .agg (encB y).toArray] W fun e w' => e = .returned (.int .i64 (cfB x y)) ∧ ∃ q os', w' = Sort.grow (W.drewN q) os' := by
  obtain ⟨⟨xa, xb, xh⟩, ⟨x1, x2⟩, _⟩ := x
  obtain ⟨⟨ya, yb, yh⟩, ⟨y1, y2⟩, _⟩ := y
  unfold encB cfB
  replace x1 : 0 ≤ xh := x1
  replace x2 : xh ≤ 1000 := x2
  replace y1 : 0 ≤ yh := y1
  replace y2 : yh ≤ 1000 := y2
  have hw : IntKind.i64.wrap (xh - yh) = xh - yh := IntWalk.i64_in _ (by omega)
  go_enter Try.func84, Try.ntmps84
  go_wp2
  go_ret
  exact ⟨rfl, 0, _, by rw [Sort.alloc_eq_grow, Sort.alloc_eq_grow, Sort.grow_grow]; rfl⟩

theorem cmpLays84 (blk off size : Nat) (w : World) : CmpLays Try.prog 84 #[] (encB (q := q)) 3 cfB blk off size w := fun _ _ _ _ x y => cmp84_any x y _

theorem ltB (x y : (BQ q)) : ltOf cfB x y = decide (x.1.h < y.1.h) := by
  unfold ltOf cfB
  by_cases h : x.1.h < y.1.h
  · simp [h]; omega
  · simp [h]; omega

theorem swoB : Sort.SWO (ltOf (cfB (q := q))) where
  irrefl x := by rw [ltB]; simp
  trans x y z h1 h2 := by rw [ltB] at *; simp at *; omega
  ntrans x y z h1 h2 := by rw [ltB] at *; simp at *; omega

theorem grown_sort (w : World) (g n : Nat) (d : Array (BQ q)) (os : Array Obj) : w.grownBy (sortWorldK encB 3 w g 0 n d os) (some g) := by
  refine ⟨rfl, rfl, rfl, size_sortWorldK_c encB 3 w g 0 n d os, fun k hk hne => ?_⟩
  unfold sortWorldK Sort.putRowK Sort.putRow
  have hne' : g ≠ k := fun e => hne (by rw [e])
  rw [Sort.heap_grow_old _ _ (by simpa [Sort.mapBlock, Sort.ahead] using hk)]
  simp only [Sort.mapBlock, Sort.ahead, Array.getElem?_modify]
  rw [if_neg hne']

def AB (d : Array (BQ q)) : Nat → Int := fun k => (d[k]!.1.a : Nat)
def BB (d : Array (BQ q)) : Nat → Int := fun k => (d[k]!.1.b : Nat)
def HB (d : Array (BQ q)) : Nat → Int := fun k => d[k]!.1.h

theorem own_frozen {w : World} {base : Nat} {e : TypeId} {size n g cap : Nat} {xs : List Value} (h : w.ownsRow base e size (.slice (some ⟨g, 0, none⟩) n cap) n xs) (j : Nat) : w.frozen? ⟨g, j, none⟩ = false := by
  rcases h.2 with ⟨h1, _⟩ | ⟨g', cap', cur, h1, h2, h3, h4, h5, h6, h7⟩
  · cases h1
  · cases h1
    unfold World.frozen?
    rw [show w.heap[(⟨g, j, none⟩ : Addr).block]? = _ from h3]
    simp

theorem holds_of_own {w : World} {base g cap : Nat} {d : Array (BQ q)} (h : OwT w base (.slice (some ⟨g, 0, none⟩) d.size cap) d.size (AB d) (BB d) (HB d)) : HoldsK encB 3 w g 0 d := by
  intro j hj
  rw [size_flatK] at hj
  obtain ⟨g1, g2, g3⟩ := flat3_get d.size (AB d) (BB d) (HB d) (j / 3) (by omega)
  refine ⟨?_, own_frozen h _⟩
  rw [get_flatK _ _ _ _ hj, Nat.zero_add]
  generalize hq : j / 3 = q at *
  have hj3 : (j = q * 3 ∧ j % 3 = 0) ∨ (j = q * 3 + 1 ∧ j % 3 = 1) ∨ (j = q * 3 + 2 ∧ j % 3 = 2) := by omega
  rcases hj3 with ⟨e1, e2⟩ | ⟨e1, e2⟩ | ⟨e1, e2⟩
  · rw [e2, e1]; exact own_cell h _ g1
  · rw [e2, e1]; exact own_cell h _ g2
  · rw [e2, e1]; exact own_cell h _ g3

/-- The sills of a row in block g. -/
def Row3 (w : World) (g n : Nat) (A B H : Nat → Int) : Prop := ∀ k, k < n → w.cell? ⟨g, k * 3, none⟩ = some (.int .i64 (A k)) ∧ w.cell? ⟨g, k * 3 + 1, none⟩ = some (.int .i64 (B k)) ∧ w.cell? ⟨g, k * 3 + 2, none⟩ = some (.int .i64 (H k))

theorem row_of_holds {w : World} {g : Nat} {d : Array (BQ q)} (h : HoldsK encB 3 w g 0 d) : Row3 w g d.size (AB d) (BB d) (HB d) := fun k hk => by
  have h0 := (HoldsK.cell h hk (show 0 < 3 by decide)).1
  have h1 := (HoldsK.cell h hk (show 1 < 3 by decide)).1
  have h2 := (HoldsK.cell h hk (show 2 < 3 by decide)).1
  rw [Nat.zero_add] at h0 h1 h2
  exact ⟨h0, h1, h2⟩

/-- Rising by height. -/
def Rise (l : List (BQ q)) : Prop := ∀ i j, i < j → j < l.length → l[i]!.1.h ≤ l[j]!.1.h

theorem isAgg75 : ∀ w, (isAgg 75).run Try.prog w = .ok true w := fun w => by kernel_rfl
theorem sizeOf75 : ∀ w, (Go.sizeOf 75).run Try.prog w = .ok 3 w := fun w => by kernel_rfl

set_option maxHeartbeats 1000000 in
theorem sort68_any (w : World) (base g cap : Nat) (d : Array (BQ q)) (hd : d.size ≤ 1000) (h : OwT w base (.slice (some ⟨g, 0, none⟩) d.size cap) d.size (AB d) (BB d) (HB d)) :
    Calls Try.prog 68 #[.slice (some ⟨g, 0, none⟩) d.size cap, .func (.func 84) #[] #[]] w fun e w' => e = .returned (.tuple #[]) ∧
      ∃ d' : Array (BQ q), d'.size = d.size ∧ d'.toList.Perm d.toList ∧ Rise d'.toList ∧ Row3 w' g d'.size (AB d') (BB d') (HB d') ∧ w.grownBy w' (some g) := by
  have eg : ∀ args w, (callFunc 84 args).run Try.prog w = .ok (.enter 84 args) w := enters_of Try.func84 (by kernel_rfl) rfl
  have hH := holds_of_own h
  have hlt : g < w.heap.size := (h.lt g rfl).2
  have hcon := AnyQ.slices_SortFunc Try.laysSlF06_f68 3 isAgg75 sizeOf75 encB (fun _ => rfl) (fun x v hv => by simp [encB] at hv; rcases hv with rfl | rfl | rfl <;> rfl) cfB swoB 84 #[] g 0 cap d w eg (cmpLays84 g 0 d.size w) hH hlt (by omega)
  change Calls Try.prog 68 _ _ _ at hcon
  refine hcon.mono ?_
  rintro e w' ⟨rfl, d', n, os, hp, hs, rfl⟩
  refine ⟨rfl, d', hp.1, ?_, ?_, row_of_holds (holdsK_sortWorldK_c encB 3 w g 0 d d' n os hH hlt hp.1), grown_sort w g n d' os⟩
  · have := hp.2.2
    rw [Array.extract_size, ← hp.1, Array.extract_size] at this
    exact this
  · intro i j hij hj
    have := hs i j (Nat.zero_le _) hij (by rw [← hp.1]; simpa using hj)
    rw [ltB] at this
    simp only [decide_eq_false_iff_not, Int.not_lt] at this
    rw [Array.getElem!_toList, Array.getElem!_toList]
    exact this

theorem sort68_none (w : World) (p : Option Addr) (cap : Nat) (fv : Value) : Calls Try.prog 68 #[.slice p 0 cap, fv] w fun e w' => e = .returned (.tuple #[]) ∧ w' = w := by
  have hcon := AnyF.slices_SortFunc_none Try.laysSlF06_f68 p cap fv w
  change Calls Try.prog 68 _ _ _ at hcon
  exact hcon
end Go.Proofs.Ytjhididnmkbgoaa
