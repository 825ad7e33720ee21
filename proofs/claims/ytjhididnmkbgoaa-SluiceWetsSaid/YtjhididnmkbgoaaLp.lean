import Derived.Test.YtjhididnmkbgoaaRi
import Derived.Test.YtjhididnmkbgoaaRg
import Derived.Test.YtjhididnmkbgoaaSt
set_option linter.unusedVariables false
set_option linter.unusedSimpArgs false
namespace Go.Proofs.Ytjhididnmkbgoaa
open Go.RowKit Go.Shelf
attribute [local go_sem] Oper.semAt_some
variable {q : Nat}

/-- The sills as bounded ones. -/
def bsOf (q : Nat) (s : Slu.Sill) : BQ q := if h : (0 ≤ s.h ∧ s.h ≤ 1000) ∧ s.a < s.b ∧ s.b ≤ q + 1 then ⟨s, h⟩ else default
theorem bsOf_val {s : Slu.Sill} (h : (0 ≤ s.h ∧ s.h ≤ 1000) ∧ s.a < s.b ∧ s.b ≤ q + 1) : (bsOf q s).1 = s := by unfold bsOf; rw [dif_pos h]
def dOf (q m : Nat) (S : Nat → Slu.Sill) : Array (BQ q) := ((List.range m).map fun k => bsOf q (S k)).toArray
theorem dOf_size (q m : Nat) (S : Nat → Slu.Sill) : (dOf q m S).size = m := by simp [dOf]
theorem dOf_get {q m : Nat} {S : Nat → Slu.Sill} {k : Nat} (hk : k < m) : (dOf q m S)[k]! = bsOf q (S k) := by
  unfold dOf
  simp [hk]

theorem RdT.congr {w : World} {v : Value} {n : Nat} {A B H A' B' H' : Nat → Int} (h : RdT w v n A B H) (e : ∀ k, k < n → A k = A' k ∧ B k = B' k ∧ H k = H' k) : RdT w v n A' B' H' := by
  obtain ⟨a, c, e1, hl, hc⟩ := h
  refine ⟨a, c, e1, hl, fun k hk => ?_⟩
  rw [← (e k hk).1, ← (e k hk).2.1, ← (e k hk).2.2]
  exact hc k hk

theorem SOk.rdt {m : Nat} {area floor : Nat → Int} {S : Nat → Slu.Sill} (ok : SOk (q + 1) m area floor S) {w : World} {vs : Value} (h : RdT w vs m (fun k => ((S k).a : Int)) (fun k => ((S k).b : Int)) (fun k => (S k).h)) :
    RdT w vs (dOf q m S).size (AB (dOf q m S)) (BB (dOf q m S)) (HB (dOf q m S)) := by
  rw [dOf_size]
  refine h.congr fun k hk => ?_
  have h1 := ok.h1 k hk
  have h2 := ok.h2 k hk
  unfold AB BB HB
  rw [dOf_get hk, bsOf_val ⟨⟨by omega, h2⟩, ok.lt k hk, ok.le k hk⟩]
  exact ⟨rfl, rfl, rfl⟩

set_option maxRecDepth 100000 in
theorem rising64_any (w : World) (va vf vs : Value) : Calls Try.prog 64 #[.agg #[va, vf, vs]] w fun e w' => e = .returned (.func (.func 82) #[] #[.pointer (some ⟨w.heap.size, 0, none⟩)]) ∧ w' = w.alloc (.cells #[va, vf, vs] 25) := by
  go_enter Try.func64, Try.ntmps64
  go_wp2
  go_ret
  exact ⟨rfl, rfl⟩

/-- What lip tells of a pool. -/
def Lip79 (n m : Nat) (area floor : Nat → Int) (S : Nat → Slu.Sill) (rep : Nat → Nat) (g : Nat) (e : Ending) : Prop :=
  (e = .returned (.tuple #[.int .i64 0, .int .i64 0, .bool false]) ∧ ∀ k, k < m → ¬ Slu.crosses rep (S k) g) ∨
  ∃ s, Slu.IsLip (mkBas n m area floor S) rep g s ∧ e = .returned (.tuple #[.int .i64 s.h, .int .i64 ((if rep s.a = g then s.b else s.a : Nat) : Int), .bool true])

theorem Blk.ownk {W W' : World} {row : Option Nat} {B : Nat} {cs : Array Value} {t : TypeId} (h : Blk W B cs t) (hg : W.grownBy W' row) (hr : ∀ r, row = some r → ∃ o : Obj, W.heap[r]? = some o ∧ o.isCells = false) : Blk W' B cs t :=
  h.kept hg (fun e => by
    obtain ⟨o, ho, hc⟩ := hr B e.symm
    rw [show W.heap[B]? = _ from h] at ho
    cases ho
    cases hc)

theorem not_crosses_snoc {rep : Nat → Nat} {g : Nat} {pre : List (BQ q)} {x : (BQ q)} (h : ∀ y ∈ pre, ¬ Slu.crosses rep y.1 g) (hx : ¬ Slu.crosses rep x.1 g) : ∀ y ∈ pre ++ [x], ¬ Slu.crosses rep y.1 g := by
  intro y hy
  rw [List.mem_append] at hy
  rcases hy with hy | hy
  · exact h y hy
  · obtain rfl : y = x := by simpa using hy
    exact hx

theorem SOk.val {m : Nat} {area floor : Nat → Int} {S : Nat → Slu.Sill} (ok : SOk (q + 1) m area floor S) {k : Nat} (hk : k < m) : (bsOf q (S k)).1 = S k :=
  bsOf_val ⟨⟨by have := ok.h1 k hk; omega, ok.h2 k hk⟩, ok.lt k hk, ok.le k hk⟩

theorem mem_dOf {m : Nat} {S : Nat → Slu.Sill} {x : BQ q} : x ∈ (dOf q m S).toList ↔ ∃ k, k < m ∧ bsOf q (S k) = x := by
  unfold dOf
  simp

/-- The first sill in rising order that leads out is the lip. -/
theorem sorted_lip {m : Nat} {area floor : Nat → Int} {S : Nat → Slu.Sill} (ok : SOk (q + 1) m area floor S) {rep : Nat → Nat} {g : Nat} {l : List (BQ q)} {x : BQ q} (hS : SBp (dOf q m S) (l ++ [x]))
    (hno : ∀ y ∈ l, ¬ Slu.crosses rep y.1 g) (hcr : Slu.crosses rep x.1 g) : Slu.IsLip (mkBas (q + 1) m area floor S) rep g x.1 := by
  obtain ⟨xs, ⟨hp, hr⟩, ⟨tl, ht⟩⟩ := hS
  have hxm : x ∈ (dOf q m S).toList := hp.subset (by rw [← ht]; simp)
  obtain ⟨k, hk, ex⟩ := mem_dOf.1 hxm
  refine ⟨mem_mk.2 ⟨k, hk, by rw [← ok.val hk, ex]⟩, hcr, fun t ht' hc => ?_⟩
  obtain ⟨j, hj, et⟩ := mem_mk.1 ht'
  have hy : bsOf q (S j) ∈ xs := hp.symm.subset (mem_dOf.2 ⟨j, hj, rfl⟩)
  have hv := ok.val hj
  rw [← et]
  rw [← et] at hc
  rw [← hv] at hc ⊢
  generalize bsOf q (S j) = y at *
  rw [← ht] at hy
  rw [List.append_assoc, List.mem_append] at hy
  rcases hy with hy | hy
  · exact absurd hc (hno y hy)
  · rw [List.mem_append] at hy
    rcases hy with hy | hy
    · obtain rfl : y = x := by simpa using hy
      exact Int.le_refl _
    · obtain ⟨i, hi, e⟩ := List.getElem_of_mem hy
      have := hr l.length (l.length + 1 + i) (by omega) (by rw [← ht]; simp; omega)
      rw [← ht] at this
      rw [getElem!_pos _ l.length (by simp), getElem!_pos _ (l.length + 1 + i) (by simp; omega)] at this
      rw [List.getElem_append_left (by simp), List.getElem_append_right (by simp), List.getElem_append_right (by simp)] at this
      simp only [List.length_append, List.length_singleton, Nat.sub_self, List.getElem_cons_zero] at this
      have e2 : l.length + 1 + i - (l.length + 1) = i := by omega
      simp only [e2, e] at this
      exact this

/-- Before the lip is found. -/
structure LI (w : World) (n0 : Nat) (X g : Nat) (va vf vs : Value) (p : Nat → Nat) (s : Nat → Int) (lost : Int) (pre : List (BQ q)) (W : World) : Prop where
  b : Below w.heap.size w W
  x : SX W X va vf vs p s lost
  k2 : Blk W w.heap.size #[.pointer (some ⟨X, 0, none⟩)] 97
  k3 : Blk W (w.heap.size + 1) #[.int .i64 (g : Nat)] 3
  k4 : Blk W (w.heap.size + 1 + 1) #[.int .i64 0] 3
  k5 : Blk W (w.heap.size + 1 + 1 + 1) #[.int .i64 0] 3
  k6 : Blk W (w.heap.size + 1 + 1 + 1 + 1) #[.bool false] 4
  no : ∀ y ∈ pre, ¬ Slu.crosses (rootN 9 p) y.1 g
  z : n0 ≤ W.heap.size

theorem LI.own {w : World} {X g : Nat} {va vf vs : Value} {p : Nat → Nat} {s : Nat → Int} {lost : Int} {n0 : Nat} (hn : w.heap.size ≤ n0) : OwnFrom n0 (LI (q := q) w n0 X g va vf vs p s lost) := fun pre W W' row h hg hr =>
  have hr' := fun r e => (hr r e).2
  ⟨h.b.grown hg h.b.size (fun k e => Nat.le_trans hn (hr k e).1), Blk.ownk h.x hg hr', h.k2.ownk hg hr', h.k3.ownk hg hr', h.k4.ownk hg hr', h.k5.ownk hg hr', h.k6.ownk hg hr', h.no, Nat.le_trans h.z hg.size⟩

theorem LI.below {w : World} {n0 X g : Nat} {va vf vs : Value} {p : Nat → Nat} {s : Nat → Int} {lost : Int} {pre : List (BQ q)} {W W' : World} (h : LI w n0 X g va vf vs p s lost pre W) (hb : Below W.heap.size W W') : LI w n0 X g va vf vs p s lost pre W' :=
  ⟨h.b.trans (hb.mono h.b.size), h.x.below hb, h.k2.below hb, h.k3.below hb, h.k4.below hb, h.k5.below hb, h.k6.below hb, h.no, Nat.le_trans h.z hb.size⟩

/-- The lip is found. -/
structure LX (w : World) (g : Nat) (p : Nat → Nat) (c : Code) (pre : List (BQ q)) (W : World) : Prop where
  b : Below w.heap.size w W
  c : c = .ret
  f : ∃ (l : List (BQ q)) (x : (BQ q)), pre = l ++ [x] ∧ (∀ y ∈ l, ¬ Slu.crosses (rootN 9 p) y.1 g) ∧ Slu.crosses (rootN 9 p) x.1 g ∧
    Blk W (w.heap.size + 1 + 1) #[.int .i64 x.1.h] 3 ∧ Blk W (w.heap.size + 1 + 1 + 1) #[.int .i64 ((if rootN 9 p x.1.a = g then x.1.b else x.1.a : Nat) : Int)] 3 ∧ Blk W (w.heap.size + 1 + 1 + 1 + 1) #[.bool true] 4

theorem LX.own {w : World} {g : Nat} {p : Nat → Nat} {c : Code} {n0 : Nat} (hn : w.heap.size ≤ n0) : OwnFrom n0 (LX (q := q) w g p c) := fun pre W W' row h hg hr => by
  have hr' := fun r e => (hr r e).2
  obtain ⟨l, x, h1, h2, h3, h4, h5, h6⟩ := h.f
  exact ⟨h.b.grown hg h.b.size (fun k e => Nat.le_trans hn (hr k e).1), h.c, l, x, h1, h2, h3, h4.ownk hg hr', h5.ownk hg hr', h6.ownk hg hr'⟩

/-- A block that a round has made. -/
def AxB (n0 : Nat) (fr : Nat → (BQ q) → Act) (x : (BQ q)) (a' : Act) (W : World) : Prop := ∃ Bx, n0 ≤ Bx ∧ Blk W Bx (encB x).toArray 75 ∧ a' = fr Bx x
theorem AxB.own {n0 n1 : Nat} {fr : Nat → (BQ q) → Act} {x : (BQ q)} {a' : Act} : OwnFrom n1 (fun (_ : Unit) W => AxB n0 fr x a' W) := fun _ W W' row h hg hr => by
  obtain ⟨Bx, h1, h2, h3⟩ := h
  exact ⟨Bx, h1, h2.ownk hg (fun r e => (hr r e).2), h3⟩

def frLip (w : World) (X g : Nat) (va vf vs : Value) (Bb Bx : Nat) (x : (BQ q)) : Act :=
  { tmps := #[.pointer (some ⟨X, 0, none⟩), .int .i64 (g : Nat), .pointer (some ⟨w.heap.size, 0, none⟩), .pointer (some ⟨w.heap.size + 1, 0, none⟩), .pointer (some ⟨w.heap.size + 1 + 1, 0, none⟩), .pointer (some ⟨w.heap.size + 1 + 1 + 1, 0, none⟩), .pointer (some ⟨w.heap.size + 1 + 1 + 1 + 1, 0, none⟩),
      .pointer (some ⟨Bx, 0, none⟩), undef, undef, .pointer (some ⟨X, 0, none⟩), .pointer (some ⟨X, 0, none⟩), .pointer (some ⟨X, 0, none⟩), .agg #[va, vf, vs], .func (.func 82) #[] #[.pointer (some ⟨Bb, 0, none⟩)], .agg #[.int .i64 (x.1.a : Nat), .int .i64 (x.1.b : Nat), .int .i64 x.1.h],
      undef, undef, undef, undef, undef, undef, undef, undef, undef, undef, undef, undef, undef, undef, undef, undef, undef, undef, undef, undef, undef, undef, undef, undef, undef, undef, undef, undef, undef, undef, undef, undef], defers := [] }

set_option maxRecDepth 100000 in
set_option maxHeartbeats 2000000 in
theorem lip79_any (w : World) (X : Nat) (va vf vs : Value) (p : Nat → Nat) (s : Nat → Int) (lost : Int) (n m : Nat) (area floor : Nat → Int) (S : Nat → Slu.Sill) (ok : SOk n m area floor S) (hX : SX w X va vf vs p s lost) (hp : ∀ k, p k ≤ k)
    (hS : RdT w vs m (fun k => ((S k).a : Int)) (fun k => ((S k).b : Int)) (fun k => (S k).h)) (g : Nat) (hg : g < n) :
    Calls Try.prog 79 #[.pointer (some ⟨X, 0, none⟩), .int .i64 g] w fun e w' => Lip79 n m area floor S (rootN 9 p) g e ∧ Below w.heap.size w w' := by
  obtain ⟨q, rfl⟩ : ∃ q, n = q + 1 := ⟨n - 1, by have := ok.n1; omega⟩
  have hD := ok.rdt hS
  obtain ⟨V, cs, rfl, ls, rs⟩ := id hS
  clear rs
  refine (callsIn_wide (n := 6)).1 ?_
  refine callsIn_of_wp_marks Try.func79 rfl trivial ?_ rfl
  simp only [Try.ntmps79, List.size_toArray, List.length_cons, List.length_nil, Nat.reduceAdd, Nat.reduceSub, Array.replicate_succ, Array.replicate_zero, List.push_toArray, List.append_toArray, List.nil_append, List.cons_append]
  refine wpIn_wide.2 ?_
  go_upto_region 1 with (fail)
  refine wp_world fun W hW => ?_
  have hB : Below w.heap.size w W := by rw [hW]; exact (((((Below.refl _ _).alloc (Nat.le_refl _) _).alloc (by simp) _).alloc (by simp; omega) _).alloc (by simp; omega) _).alloc (by simp; omega) _
  have hWs : W.heap.size = w.heap.size + 5 := by rw [hW]; simp
  have k2 : Blk W w.heap.size #[.pointer (some ⟨X, 0, none⟩)] 97 := by rw [hW]; exact ((((Blk.new _ _ _).alloc _).alloc _).alloc _).alloc _
  have k3 : Blk W (w.heap.size + 1) #[.int .i64 (g : Nat)] 3 := by
    rw [hW]; have := Blk.new (w.alloc (.cells #[.pointer (some ⟨X, 0, none⟩)] 97)) #[.int .i64 (g : Nat)] 3; simp only [World.size_alloc] at this; exact ((this.alloc _).alloc _).alloc _
  have k4 : Blk W (w.heap.size + 1 + 1) #[.int .i64 0] 3 := by
    rw [hW]; have := Blk.new ((w.alloc (.cells #[.pointer (some ⟨X, 0, none⟩)] 97)).alloc (.cells #[.int .i64 (g : Nat)] 3)) #[.int .i64 0] 3; simp only [World.size_alloc] at this; exact (this.alloc _).alloc _
  have k5 : Blk W (w.heap.size + 1 + 1 + 1) #[.int .i64 0] 3 := by
    rw [hW]; have := Blk.new (((w.alloc (.cells #[.pointer (some ⟨X, 0, none⟩)] 97)).alloc (.cells #[.int .i64 (g : Nat)] 3)).alloc (.cells #[.int .i64 0] 3)) #[.int .i64 0] 3; simp only [World.size_alloc] at this; exact this.alloc _
  have k6 : Blk W (w.heap.size + 1 + 1 + 1 + 1) #[.bool false] 4 := by
    rw [hW]; have := Blk.new ((((w.alloc (.cells #[.pointer (some ⟨X, 0, none⟩)] 97)).alloc (.cells #[.int .i64 (g : Nat)] 3)).alloc (.cells #[.int .i64 0] 3)).alloc (.cells #[.int .i64 0] 3)) #[.bool false] 4; simp only [World.size_alloc] at this; exact this
  clear hW
  have hX1 := hX.below hB
  have hD1 := hD.below hB
  have c0 := hX1.a
  have c1 := hX1.f
  have c2 := hX1.sl
  have d2 := k2.cell 0 rfl
  clear hX hD hS
  have HWS := Lib.hid hWs
  clear hWs
  go_wp2_with (go_at_call 64; refine (rising64_any _ _ _ _).mono ?_; rintro e w1 ⟨rfl, rfl⟩)
  have hB0 : Below W.heap.size W (W.alloc (.cells #[va, vf, .slice V m cs] 25)) := (Below.refl _ _).alloc (Nat.le_refl _) _
  have hBb : Blk (W.alloc (.cells #[va, vf, .slice V m cs] 25)) W.heap.size #[va, vf, .slice V m cs] 25 := Blk.new _ _ _
  have hLI : LI (q := q) w (W.alloc (.cells #[va, vf, .slice V m cs] 25)).heap.size X g va vf (.slice V m cs) p s lost [] (W.alloc (.cells #[va, vf, .slice V m cs] 25)) :=
    ⟨hB.trans (hB0.mono hB.size), hX1.below hB0, k2.below hB0, k3.below hB0, k4.below hB0, k5.below hB0, k6.below hB0, by simp, Nat.le_refl _⟩
  have hD0 := hD1.below hB0
  have hs0 : (W.alloc (.cells #[va, vf, .slice V m cs] 25)).heap.size = w.heap.size + 6 := by simp [HWS.out]
  obtain ⟨W0, hW0⟩ : ∃ W0, W.alloc (.cells #[va, vf, .slice V m cs] 25) = W0 := ⟨_, rfl⟩
  rw [hW0] at hBb hLI hD0 hs0 ⊢
  have HS0 := Lib.hid hs0
  have hw0 : w.heap.size ≤ W0.heap.size := by omega
  clear hW0 hB0 hX1 hD1 c0 c1 c2 d2 k2 k3 k4 k5 k6 hB hs0
  have hm : (dOf q m S).size ≤ 1000 := by rw [dOf_size]; have := ok.m20; omega
  refine (wpIn_wide (n := 6)).1 ?_
  refine wpIn_rangeFunc_ownH rfl (by decide) (gf := 82) (lb := #[.pointer (some ⟨W.heap.size, 0, none⟩)]) rfl trivial (enters_of Try.func82 (by kernel_rfl) rfl)
    (rising82_stops 5 (by decide) W0 W.heap.size va vf (.slice V m cs) (dOf q m S) hm hBb hD0 (fun _ => none) (outNone W0)) KpB.trans (KpB.put (outNone W0)) (Below.refl _ _) (fun _ => rfl)
    (LI w W0.heap.size X g va vf (.slice V m cs) p s lost) (LX w g p) (LI.own hw0) (fun c => LX.own hw0) hLI
    (AxB W0.heap.size (frLip w X g va vf (.slice V m cs) W.heap.size)) (fun x a' => AxB.own)
    ?assign ?body ?done ?stop
  case assign =>
    rintro l pre x W1 K hi hK
    unfold encB
    gi_wp2
    have hb1 : Below W1.heap.size W1 (W1.alloc (.cells (encB x).toArray 75)) := (Below.refl _ _).alloc (Nat.le_refl _) _
    have hsz := hi.b.size
    exact hK _ _ ((KeepsOthers.alloc _ _).from _) (KpB.of_below (outNone W0) hi.z hb1) (hi.below hb1) ⟨W1.heap.size, hi.z, Blk.new _ _ _, rfl⟩
  case body =>
    rintro l pre x a' W1 hl hr hi ⟨Bx, hBx, bX, rfl⟩ hlt
    have e2 := hi.k2.cell 0 rfl
    have e3 := hi.k3.cell 0 rfl
    have x0 : W1.cell? ⟨Bx, 0, none⟩ = some (.int .i64 (x.1.a : Nat)) := bX.cell 0 rfl
    have x1 : W1.cell? ⟨Bx, 1, none⟩ = some (.int .i64 (x.1.b : Nat)) := bX.cell 1 rfl
    have x2 : W1.cell? ⟨Bx, 2, none⟩ = some (.int .i64 x.1.h) := bX.cell 2 rfl
    have xb := x.2.2
    have hn8 := ok.n8
    have FA := fun nn => (first_any X 3 p (W1.drewN nn) hp (hi.x.below (below_drewN (Below.refl _ _) nn)).pool x.1.a (by omega)).mono (R' := fun e w' => e = .returned (.int .i64 (rootN 9 p x.1.a)) ∧ w' = W1.drewN nn) fun _ _ ⟨a, b⟩ => ⟨a, b.symm⟩
    have FB := fun nn => (first_any X 3 p (W1.drewN nn) hp (hi.x.below (below_drewN (Below.refl _ _) nn)).pool x.1.b (by omega)).mono (R' := fun e w' => e = .returned (.int .i64 (rootN 9 p x.1.b)) ∧ w' = W1.drewN nn) fun _ _ ⟨a, b⟩ => ⟨a, b.symm⟩
    have CR : Slu.crosses (rootN 9 p) x.1 g ↔ rootN 9 p x.1.a ≠ rootN 9 p x.1.b ∧ (rootN 9 p x.1.a = g ∨ rootN 9 p x.1.b = g) := Iff.rfl
    have TO : Hid ((if rootN 9 p x.1.a = g then x.1.b else x.1.a) = (if rootN 9 p x.1.a = g then x.1.b else x.1.a)) := rfl
    generalize hra : rootN 9 p x.1.a = ra at *
    generalize hrb : rootN 9 p x.1.b = rb at *
    have HRA := Lib.hid hra
    have HRB := Lib.hid hrb
    have HCR := Lib.hid CR
    clear hra hrb CR TO
    unfold frLip
    gi_wp2
    refine wpIn_region_drawn (by kernel_rfl) (by kernel_rfl) (by kernel_rfl) ?_
    repeat (go_big_quiet_step ((go_at_call 66; first | (with_reducible exact Calls.quiet_of_same (FA _)) | (with_reducible exact Calls.quiet_of_same (FB _)))))
    refine wpQuiet_nil ?_
    rintro _ ⟨nq, rfl⟩
    have hbd : Below W1.heap.size W1 (W1.drewN nq) := below_drewN (Below.refl _ _) nq
    have hi2 := hi.below hbd
    have bX2 : Blk (W1.drewN nq) Bx (encB x).toArray 75 := bX.below hbd
    have KF1 : KeepsFrom W0.heap.size W1 (W1.drewN nq) := ⟨Nat.le_refl _, fun k o _ h _ => h⟩
    have KP1 := KpB.of_below (outNone W0) hi.z hbd
    refine world_name fun W2 hW2 => ?_
    rw [← hW2] at hbd hi2 bX2 KF1 KP1
    clear hW2 e2 e3 x0 x1 x2 FA FB
    have e2 := hi2.k2.cell 0 rfl
    have e3 := hi2.k3.cell 0 rfl
    have x0 : W2.cell? ⟨Bx, 0, none⟩ = some (.int .i64 (x.1.a : Nat)) := bX2.cell 0 rfl
    have x1 : W2.cell? ⟨Bx, 1, none⟩ = some (.int .i64 (x.1.b : Nat)) := bX2.cell 1 rfl
    have x2 : W2.cell? ⟨Bx, 2, none⟩ = some (.int .i64 x.1.h) := bX2.cell 2 rfl
    have e4 := hi2.k4.cell 0 rfl
    have e5 := hi2.k5.cell 0 rfl
    have e6 := hi2.k6.cell 0 rfl
    have f4 := hi2.k4.frozen 0
    have f5 := hi2.k5.frozen 0
    have f6 := hi2.k6.frozen 0
    by_cases c1 : ra = rb
    · have d1 : ((ra : Int) == (rb : Int)) = true := by simp [c1]
      have NC : ¬ Slu.crosses (rootN 9 p) x.1 g := fun h => (HCR.out.1 h).1 c1
      clear c1
      gi_wp2
      exact ⟨KF1, KP1, hi2.b, hi2.x, hi2.k2, hi2.k3, hi2.k4, hi2.k5, hi2.k6, not_crosses_snoc hi.no NC, hi2.z⟩
    have d1 : ((ra : Int) == (rb : Int)) = false := by simp; omega
    have C1 := Lib.hid c1
    clear c1
    by_cases c2 : ra = g
    · have d2 : ((ra : Int) == (g : Int)) = true := by simp [c2]
      have C2 := Lib.hid c2
      clear c2
      gi_wp2
      have hmix : Try.prog.follows .mixedOrders = true := by kernel_rfl
      have K4 := (((hi2.k4.set 0 (.int .i64 x.1.h)).other (b' := w.heap.size + 1 + 1 + 1) (j := 0) (by omega) (.int .i64 (x.1.b : Nat))).other (b' := w.heap.size + 1 + 1 + 1 + 1) (j := 0) (by omega) (.bool true)).drewN 1
      have K5 := (((hi2.k5.other (b' := w.heap.size + 1 + 1) (j := 0) (by omega) (.int .i64 x.1.h)).set 0 (.int .i64 (x.1.b : Nat))).other (b' := w.heap.size + 1 + 1 + 1 + 1) (j := 0) (by omega) (.bool true)).drewN 1
      have K6 := (((hi2.k6.other (b' := w.heap.size + 1 + 1) (j := 0) (by omega) (.int .i64 x.1.h)).other (b' := w.heap.size + 1 + 1 + 1) (j := 0) (by omega) (.int .i64 (x.1.b : Nat))).set 0 (.bool true)).drewN 1
      have B6 : Below w.heap.size w (((W2.setCell ⟨w.heap.size + 1 + 1, 0, none⟩ (.int .i64 x.1.h)).setCell ⟨w.heap.size + 1 + 1 + 1, 0, none⟩ (.int .i64 (x.1.b : Nat))).setCell ⟨w.heap.size + 1 + 1 + 1 + 1, 0, none⟩ (.bool true)).drew := (((hi2.b.setCell (by simp; omega) _).setCell (by simp; omega) _).setCell (by simp; omega) _).drew
      have KF2 : KeepsFrom W0.heap.size W2 (((W2.setCell ⟨w.heap.size + 1 + 1, 0, none⟩ (.int .i64 x.1.h)).setCell ⟨w.heap.size + 1 + 1 + 1, 0, none⟩ (.int .i64 (x.1.b : Nat))).setCell ⟨w.heap.size + 1 + 1 + 1 + 1, 0, none⟩ (.bool true)).drew :=
        ((((KeepsOthers.setCell _ _ _).from _).trans ((KeepsOthers.setCell _ _ _).from _)).trans ((KeepsOthers.setCell _ _ _).from _)).trans ⟨Nat.le_refl _, fun k o _ h _ => h⟩
      have LXF : LX w g p .ret (pre ++ [x]) (((W2.setCell ⟨w.heap.size + 1 + 1, 0, none⟩ (.int .i64 x.1.h)).setCell ⟨w.heap.size + 1 + 1 + 1, 0, none⟩ (.int .i64 (x.1.b : Nat))).setCell ⟨w.heap.size + 1 + 1 + 1 + 1, 0, none⟩ (.bool true)).drew :=
        ⟨B6, rfl, pre, x, rfl, hi.no, HCR.out.2 ⟨C1.out, .inl C2.out⟩, K4, by rw [HRA.out]; rw [if_pos C2.out]; exact K5, K6⟩
      have HL := Lib.hid (And.intro (KF1.trans KF2) LXF)
      clear K4 K5 K6 B6 KF2 LXF
      gi_region_with_o (fail)
      all_goals
        gi_wp2
        exact HL.out
    have d2 : ((ra : Int) == (g : Int)) = false := by simp; omega
    have C2 := Lib.hid c2
    clear c2
    by_cases c3 : rb = g
    · have d3 : ((rb : Int) == (g : Int)) = true := by simp [c3]
      have C3 := Lib.hid c3
      clear c3
      gi_wp2
      have hmix : Try.prog.follows .mixedOrders = true := by kernel_rfl
      have K4 := (((hi2.k4.set 0 (.int .i64 x.1.h)).other (b' := w.heap.size + 1 + 1 + 1) (j := 0) (by omega) (.int .i64 (x.1.a : Nat))).other (b' := w.heap.size + 1 + 1 + 1 + 1) (j := 0) (by omega) (.bool true)).drewN 1
      have K5 := (((hi2.k5.other (b' := w.heap.size + 1 + 1) (j := 0) (by omega) (.int .i64 x.1.h)).set 0 (.int .i64 (x.1.a : Nat))).other (b' := w.heap.size + 1 + 1 + 1 + 1) (j := 0) (by omega) (.bool true)).drewN 1
      have K6 := (((hi2.k6.other (b' := w.heap.size + 1 + 1) (j := 0) (by omega) (.int .i64 x.1.h)).other (b' := w.heap.size + 1 + 1 + 1) (j := 0) (by omega) (.int .i64 (x.1.a : Nat))).set 0 (.bool true)).drewN 1
      have B6 : Below w.heap.size w (((W2.setCell ⟨w.heap.size + 1 + 1, 0, none⟩ (.int .i64 x.1.h)).setCell ⟨w.heap.size + 1 + 1 + 1, 0, none⟩ (.int .i64 (x.1.a : Nat))).setCell ⟨w.heap.size + 1 + 1 + 1 + 1, 0, none⟩ (.bool true)).drew := (((hi2.b.setCell (by simp; omega) _).setCell (by simp; omega) _).setCell (by simp; omega) _).drew
      have KF2 : KeepsFrom W0.heap.size W2 (((W2.setCell ⟨w.heap.size + 1 + 1, 0, none⟩ (.int .i64 x.1.h)).setCell ⟨w.heap.size + 1 + 1 + 1, 0, none⟩ (.int .i64 (x.1.a : Nat))).setCell ⟨w.heap.size + 1 + 1 + 1 + 1, 0, none⟩ (.bool true)).drew :=
        ((((KeepsOthers.setCell _ _ _).from _).trans ((KeepsOthers.setCell _ _ _).from _)).trans ((KeepsOthers.setCell _ _ _).from _)).trans ⟨Nat.le_refl _, fun k o _ h _ => h⟩
      have LXF : LX w g p .ret (pre ++ [x]) (((W2.setCell ⟨w.heap.size + 1 + 1, 0, none⟩ (.int .i64 x.1.h)).setCell ⟨w.heap.size + 1 + 1 + 1, 0, none⟩ (.int .i64 (x.1.a : Nat))).setCell ⟨w.heap.size + 1 + 1 + 1 + 1, 0, none⟩ (.bool true)).drew :=
        ⟨B6, rfl, pre, x, rfl, hi.no, HCR.out.2 ⟨C1.out, .inr C3.out⟩, K4, by rw [HRA.out]; rw [if_neg C2.out]; exact K5, K6⟩
      have HL := Lib.hid (And.intro (KF1.trans KF2) LXF)
      clear K4 K5 K6 B6 KF2 LXF
      have hz0 := HS0.out
      have n4 : ¬ (Bx = w.heap.size + 1 + 1) := by omega
      have n4' : ¬ (w.heap.size + 1 + 1 = Bx) := by omega
      have n5 : ¬ (Bx = w.heap.size + 1 + 1 + 1) := by omega
      have n5' : ¬ (w.heap.size + 1 + 1 + 1 = Bx) := by omega
      have n6 : ¬ (Bx = w.heap.size + 1 + 1 + 1 + 1) := by omega
      have n6' : ¬ (w.heap.size + 1 + 1 + 1 + 1 = Bx) := by omega
      clear hz0
      gi_region_with_o (fail)
      all_goals
        gi_wp2
        exact HL.out
    · have d3 : ((rb : Int) == (g : Int)) = false := by simp; omega
      have NC : ¬ Slu.crosses (rootN 9 p) x.1 g := fun h => by rcases (HCR.out.1 h).2 with h | h; exact C2.out h; exact c3 h
      clear c3
      gi_wp2
      exact ⟨KF1, KP1, hi2.b, hi2.x, hi2.k2, hi2.k3, hi2.k4, hi2.k5, hi2.k6, not_crosses_snoc hi.no NC, hi2.z⟩
  case done =>
    rintro D ys W3 hD hS hi hK
    have e4 := hi.k4.cell 0 rfl
    have e5 := hi.k5.cell 0 rfl
    have e6 := hi.k6.cell 0 rfl
    have f4 := hi.k4.frozen 0
    have f5 := hi.k5.frozen 0
    have f6 := hi.k6.frozen 0
    go_wp2
    have hKK := (((KeepsOthers.setCell W3 ⟨w.heap.size + 1 + 1, 0, none⟩ (.int .i64 0)).trans (KeepsOthers.setCell _ ⟨w.heap.size + 1 + 1 + 1, 0, none⟩ (.int .i64 0))).trans (KeepsOthers.setCell _ ⟨w.heap.size + 1 + 1 + 1 + 1, 0, none⟩ (.bool false))).same D _ hK rfl
    have K4 := ((hi.k4.set 0 (.int .i64 0)).other (b' := w.heap.size + 1 + 1 + 1) (j := 0) (by omega) (.int .i64 0)).other (b' := w.heap.size + 1 + 1 + 1 + 1) (j := 0) (by omega) (.bool false)
    have K5 := ((hi.k5.other (b' := w.heap.size + 1 + 1) (j := 0) (by omega) (.int .i64 0)).set 0 (.int .i64 0)).other (b' := w.heap.size + 1 + 1 + 1 + 1) (j := 0) (by omega) (.bool false)
    have K6 := ((hi.k6.other (b' := w.heap.size + 1 + 1) (j := 0) (by omega) (.int .i64 0)).other (b' := w.heap.size + 1 + 1 + 1) (j := 0) (by omega) (.int .i64 0)).set 0 (.bool false)
    have hown : ∀ r, some D = some r → ∃ o : Obj, (((W3.setCell ⟨w.heap.size + 1 + 1, 0, none⟩ (.int .i64 0)).setCell ⟨w.heap.size + 1 + 1 + 1, 0, none⟩ (.int .i64 0)).setCell ⟨w.heap.size + 1 + 1 + 1 + 1, 0, none⟩ (.bool false)).heap[r]? = some o ∧ o.isCells = false := fun r e => by cases e; exact ⟨_, hKK, rfl⟩
    have K4' := (K4.ownk (grownBy_putObj' _ D (.deferred none)) hown).cell 0 rfl
    have K5' := (K5.ownk (grownBy_putObj' _ D (.deferred none)) hown).cell 0 rfl
    have K6' := (K6.ownk (grownBy_putObj' _ D (.deferred none)) hown).cell 0 rfl
    refine ⟨by simp, .inl ⟨_, _, rfl, run_takeDeferred hKK, ?_⟩⟩
    refine ⟨.tuple #[.int .i64 0, .int .i64 0, .bool false], by simp [results, Try.f79, go_sem, K4', K5', K6'], .inl ⟨rfl, fun k hk => ?_⟩, ?_⟩
    · have hx : bsOf q (S k) ∈ (dOf q m S).toList := by unfold dOf; simp; exact ⟨k, hk, rfl⟩
      have := hi.no _ (hS.1.symm.subset hx)
      rw [bsOf_val ⟨⟨by have := ok.h1 k hk; omega, ok.h2 k hk⟩, ok.lt k hk, ok.le k hk⟩] at this
      exact this
    · exact (((hi.b.setCell (by simp; omega) _).setCell (by simp; omega) _).setCell (by simp; omega) _).trans (belowK_b (w := w) (Nat.le_refl _) _ D _ _ (by have := HS0.out; omega) hKK rfl rfl)
  case stop =>
    rintro D c pre W3 hD hS hx hK
    obtain ⟨hb, rfl, l, x, rfl, hno, hcr, K4, K5, K6⟩ := hx
    refine wpIn_wide.2 ?_
    go_wp2
    have hown : ∀ r, some D = some r → ∃ o : Obj, W3.heap[r]? = some o ∧ o.isCells = false := fun r e => by cases e; exact ⟨_, hK, rfl⟩
    have K4' := (K4.ownk (grownBy_putObj' _ D (.deferred none)) hown).cell 0 rfl
    have K5' := (K5.ownk (grownBy_putObj' _ D (.deferred none)) hown).cell 0 rfl
    have K6' := (K6.ownk (grownBy_putObj' _ D (.deferred none)) hown).cell 0 rfl
    refine ⟨by simp, .inl ⟨_, _, rfl, run_takeDeferred hK, ?_⟩⟩
    refine ⟨.tuple #[.int .i64 x.1.h, .int .i64 ((if rootN 9 p x.1.a = g then x.1.b else x.1.a : Nat) : Int), .bool true], by simp [results, Try.f79, go_sem, K4', K5', K6'], .inr ⟨x.1, ?_, rfl⟩, hb.trans (belowK_b (w := w) (Nat.le_refl _) _ D _ _ (by have := HS0.out; omega) hK rfl rfl)⟩
    exact sorted_lip ok hS hno hcr
end Go.Proofs.Ytjhididnmkbgoaa
