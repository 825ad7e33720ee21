import Derived.Test.YtjhididnmkbgoaaHi
set_option linter.unusedVariables false
set_option linter.unusedSimpArgs false
namespace Go.Proofs.Ytjhididnmkbgoaa
open Go.RowKit Go.Shelf
attribute [local go_sem] Oper.semAt_some
variable {q : Nat}

/-- The sills below both levels. -/
def wetB (n : Nat) (LA LB : Nat → Int) (s : Slu.Sill) : Bool := decide (s.b < n ∧ s.h * LB s.a < LA s.a ∧ s.h * LB s.b < LA s.b)
def wetL (n : Nat) (LA LB : Nat → Int) (pre : List (BQ q)) : List (BQ q) := pre.filter fun x => wetB n LA LB x.1

theorem wetL_yes {n : Nat} {LA LB : Nat → Int} {pre : List (BQ q)} {s : BQ q} (h : wetB n LA LB s.1 = true) : wetL n LA LB (pre ++ [s]) = wetL n LA LB pre ++ [s] := by
  unfold wetL; rw [List.filter_append]; simp [h]
theorem wetL_no {n : Nat} {LA LB : Nat → Int} {pre : List (BQ q)} {s : BQ q} (h : wetB n LA LB s.1 = false) : wetL n LA LB (pre ++ [s]) = wetL n LA LB pre := by
  unfold wetL; rw [List.filter_append]; simp [h]

theorem lvB_bd {area floor : Nat → Int} (rng : Rng area floor) (rep : Nat → Nat) (vol : Nat → Int) (n k : Nat) (hn : n ≤ 8) : -1000000 ≤ lvB area floor rep vol n k ∧ lvB area floor rep vol n k ≤ 1000000 := by
  have h := grpA_range rng (fun i => (rep i : Int)) (rep k) n
  unfold lvB
  have h0 : 0 ≤ lvD area rep n k := h.1
  have h1 : lvD area rep n k ≤ 800 := by have := h.2; unfold lvD; omega
  have h2 := Int.ediv_nonneg h0 (Int.natCast_nonneg (Int.gcd (lvN area floor rep vol n k) (lvD area rep n k)))
  have h3 := Int.ediv_le_self (Int.gcd (lvN area floor rep vol n k) (lvD area rep n k) : Int) h0
  omega

theorem keeps_below {W W' : World} (h : Below W.heap.size W W') (B : Nat) : KeepsFrom B W W' := ⟨h.size, fun k o _ hk _ => (h.block k (Array.getElem?_eq_some_iff.1 hk).1).trans hk⟩

/-- The loop's invariant: n0 the heap's size ahead of it. -/
structure PI (w : World) (n0 : Nat) (va vf vs : Value) (B7 Bj X : Nat) (n : Nat) (LA LB : Nat → Int) (p : Nat → Nat) (s : Nat → Int) (lost : Int) (pre : List (BQ q)) (W : World) : Prop where
  b : Below w.heap.size w W
  k2 : Blk W w.heap.size #[va, vf, vs] 25
  k7 : Blk W B7 #[.pointer (some ⟨X, 0, none⟩)] 97
  kj : Blk W Bj (nine (joinL (fun i => i) (sOf (wetL n LA LB pre)))) 101
  x : SX W X va vf vs p s lost
  z : n0 ≤ W.heap.size

theorem PI.own {w : World} {n0 : Nat} {va vf vs : Value} {B7 Bj X n : Nat} {LA LB : Nat → Int} {p : Nat → Nat} {s : Nat → Int} {lost : Int} (hn : w.heap.size ≤ n0) : OwnFrom n0 (PI (q := q) w n0 va vf vs B7 Bj X n LA LB p s lost) := fun pre W W' row h hg hr =>
  have hr' := fun r e => (hr r e).2
  ⟨h.b.grown hg h.b.size (fun k e => Nat.le_trans hn (hr k e).1), h.k2.ownk hg hr', h.k7.ownk hg hr', h.kj.ownk hg hr', Blk.ownk h.x hg hr', Nat.le_trans h.z hg.size⟩

theorem PI.below {w : World} {n0 : Nat} {va vf vs : Value} {B7 Bj X n : Nat} {LA LB : Nat → Int} {p : Nat → Nat} {s : Nat → Int} {lost : Int} {pre : List (BQ q)} {W W' : World} (h : PI w n0 va vf vs B7 Bj X n LA LB p s lost pre W) (hb : Below W.heap.size W W') : PI w n0 va vf vs B7 Bj X n LA LB p s lost pre W' :=
  ⟨h.b.trans (hb.mono h.b.size), h.k2.below hb, h.k7.below hb, h.kj.below hb, h.x.below hb, Nat.le_trans h.z hb.size⟩

/-- What Pools hands back. -/
def PoolRes (n m : Nat) (area floor : Nat → Int) (S : Nat → Slu.Sill) (am : Nat → Int) (w : World) (e : Ending) (w' : World) : Prop :=
  Below w.heap.size w w' ∧ ∃ (u : Value) (st : Slu.St) (xs : List (BQ (n - 1))), SB (dOf (n - 1) m S) xs ∧ Slu.Ends (mkBas n m area floor S) (st0 n am) st ∧ e = .returned (.tuple #[u, .int .i64 0]) ∧
    OwNN w' w.heap.size u (groups (joinL (fun i => i) (sOf (wetL n (lvA area floor st.rep st.vol n) (lvB area floor st.rep st.vol n) xs))) n n)

theorem own_putObj {w : World} {base : Nat} {e : TypeId} {size n : Nat} {v : Value} {xs : List Value} {D : Nat} {o o' : Obj} (h : w.ownsRow base e size v n xs) (hD : w.heap[D]? = some o) (hc : o.isCells = false) : (w.putObj D o').ownsRow base e size v n xs := by
  refine World.ownsRow.kept h (grownBy_putObj' w D o') ?_
  rcases h.2 with ⟨rfl, _⟩ | ⟨g, cap, cur, rfl, _, hh, _⟩
  · left; rfl
  · right
    intro e1
    have : g = D := by simpa [Value.ownBlock] using e1
    subst this
    rw [hh] at hD
    cases hD
    cases hc
theorem OwNN.put {w : World} {base : Nat} {v : Value} {l : List (List Nat)} {D : Nat} {o o' : Obj} (h : OwNN w base v l) (hD : w.heap[D]? = some o) (hc : o.isCells = false) : OwNN (w.putObj D o') base v l := by
  obtain ⟨us, h1, h2, h3⟩ := h
  exact ⟨us, h1, own_putObj h2 hD hc, fun i hi => own_putObj (h3 i hi) hD hc⟩
theorem OwN.snoc {w' : World} {base : Nat} {v' : Value} {l : List Nat} {k : Nat} (h : w'.ownsRow base 3 1 v' (l.length + 1) (l.map (fun k => Value.int .i64 ((k : Nat) : Int)) ++ [.int .i64 (k : Nat)])) : OwN w' base v' (l ++ [k]) := by
  unfold OwN
  rw [List.map_append, List.length_append]
  exact h
theorem OwNN.mono {w : World} {b b' : Nat} {v : Value} {l : List (List Nat)} (h : OwNN w b v l) (hb : b' ≤ b) : OwNN w b' v l := by
  obtain ⟨us, h1, h2, h3⟩ := h
  exact ⟨us, h1, World.ownsRow.mono h2 hb, fun i hi => World.ownsRow.mono (h3 i hi) hb⟩
theorem own_len {w : World} {base : Nat} {e : TypeId} {size n : Nat} {v : Value} {xs : List Value} (h : w.ownsRow base e size v n xs) : ∃ A c, v = .slice A n c := by
  rcases h.2 with ⟨rfl, rfl⟩ | ⟨g, cap, cur, rfl, _⟩
  · exact ⟨none, 0, rfl⟩
  · exact ⟨_, cap, rfl⟩

set_option maxRecDepth 100000 in
set_option maxHeartbeats 4000000 in
theorem pools40_any (w : World) (va vf vs vm : Value) (n m : Nat) (area floor am : Nat → Int) (S : Nat → Slu.Sill) (hb : Bs w va vf vs n m area floor S) (hM : RdI w vm n am) (ham : ∀ k, 0 ≤ am k ∧ am k ≤ 1000000) :
    Calls Try.prog 40 #[.agg #[va, vf, vs], vm] w fun e w' => PoolRes n m area floor S am w e w' := by
  have ok := hb.ok
  have hn8 := ok.n8
  obtain ⟨q, rfl⟩ : ∃ q, n = q + 1 := ⟨n - 1, by have := ok.n1; omega⟩
  unfold PoolRes
  rw [Nat.add_sub_cancel]
  obtain ⟨M, cm, rfl, lm, rm⟩ := id hM
  obtain ⟨AA, ca, rfl, la, ra⟩ := id hb.a
  obtain ⟨V, cs, rfl, ls, rs⟩ := id hb.s
  clear ra rs rm
  refine (callsIn_wide (n := 6)).1 ?_
  refine callsIn_of_wp_marks Try.func40 rfl trivial ?_ rfl
  simp only [Try.ntmps40, List.size_toArray, List.length_cons, List.length_nil, Nat.reduceAdd, Nat.reduceSub, Array.replicate_succ, Array.replicate_zero, List.push_toArray, List.append_toArray, List.nil_append, List.cons_append]
  refine wpIn_wide.2 ?_
  go_upto_region 1 with (fail)
  refine wp_world fun W hW => ?_
  have hB : Below w.heap.size w W := by rw [hW]; exact (Below.refl _ _).alloc (Nat.le_refl _) _
  have k1 : Blk W w.heap.size #[.slice AA (q + 1) ca, vf, .slice V m cs] 25 := by rw [hW]; exact Blk.new _ _ _
  clear hW
  have c0 : W.cell? ⟨w.heap.size, 0, none⟩ = some (.slice AA (q + 1) ca) := k1.cell 0 rfl
  have c1 : W.cell? ⟨w.heap.size, 1, none⟩ = some vf := k1.cell 1 rfl
  have c2 : W.cell? ⟨w.heap.size, 2, none⟩ = some (.slice V m cs) := k1.cell 2 rfl
  have hBm : Below W.heap.size W (W.alloc (.cells #[.slice M (q + 1) cm] 22)) := (Below.refl _ _).alloc (Nat.le_refl _) _
  have hB1 := hB.trans (hBm.mono hB.size)
  have RL1 : RdL (W.alloc (.cells #[.slice M (q + 1) cm] 22)) (.slice (some ⟨W.heap.size, 0, none⟩) 1 1) 1 (fun _ => q + 1) (fun _ => am) := ⟨W.heap.size, 1, rfl, by omega, by omega, fun i hi => by
    obtain rfl : i = 0 := by omega
    exact ⟨M, cm, (Blk.new W #[.slice M (q + 1) cm] 22).cell 0 rfl, hM.below hB1⟩⟩
  have OPC := open53_ok _ _ vf _ _ (q + 1) m 1 area floor _ _ _ _ (hb.a.below hB1) (hb.f.below hB1) (hb.s.below hB1) hb.ck RL1 (fun _ => ham)
  clear RL1 hBm hB1
  go_wp2_with (go_at_call 53; (with_reducible refine OPC.mono ?_); rintro e w1 ⟨rfl, hb1⟩; have k2 := (k1.alloc (.cells #[.slice M (q + 1) cm] 22)).below hb1; have c0 : w1.cell? ⟨w.heap.size, 0, none⟩ = some (.slice AA (q + 1) ca) := k2.cell 0 rfl; have c1 : w1.cell? ⟨w.heap.size, 1, none⟩ = some vf := k2.cell 1 rfl; have c2 : w1.cell? ⟨w.heap.size, 2, none⟩ = some (.slice V m cs) := k2.cell 2 rfl)
  have hB2 : Below w.heap.size w w1 := (hB.alloc hB.size (.cells #[.slice M (q + 1) cm] 22)).trans (hb1.mono (by have := hB.size; simp; omega))
  have hBm : Below w1.heap.size w1 (w1.alloc (.cells #[.slice M (q + 1) cm] 22)) := (Below.refl _ _).alloc (Nat.le_refl _) _
  have hB3 := hB2.trans (hBm.mono hB2.size)
  have RL2 : RdL (w1.alloc (.cells #[.slice M (q + 1) cm] 22)) (.slice (some ⟨w1.heap.size, 0, none⟩) 1 1) 1 (fun _ => q + 1) (fun _ => am) := ⟨w1.heap.size, 1, rfl, by omega, by omega, fun i hi => by
    obtain rfl : i = 0 := by omega
    exact ⟨M, cm, (Blk.new w1 #[.slice M (q + 1) cm] 22).cell 0 rfl, hM.below hB3⟩⟩
  have hb3 := hb.below hB3
  go_at_call 54
  (with_reducible refine (poured54_any _ _ vf _ _ (q + 1) m 1 area floor (fun _ => am) S hb3.ok hb3.a hb3.f hb3.s RL2 (by omega) (fun _ => ham)).mono ?_)
  rintro e w4 ⟨X, rfl, hX0, hbw, p, s, lost, st, hx, hps, hends⟩
  have hends' : Slu.Ends (mkBas (q + 1) m area floor S) (st0 (q + 1) am) st := by
    rw [st0_congr (g := am) (fun k _ => by simp [Slu.sumN])] at hends; exact hends
  have hB4 : Below w.heap.size w w4 := hB3.trans (hbw.mono hB3.size)
  have hb4 := hb.below hB4
  have gd : Slu.Good (mkBas (q + 1) m area floor S) st := (st0_good hb.ok.ok (am := am) (fun k => (ham k).1)).star hb.ok.ok hends'.1
  have k24 : Blk w4 w.heap.size #[.slice AA (q + 1) ca, vf, .slice V m cs] 25 := (k2.below hBm).below hbw
  have HEN := Lib.hid hends'
  have hpl := hps.le
  have hbd := hps.bd
  have HPS := Lib.hid hps
  clear hends hends' hps c0 c1 c2 k1 k2 hb1 hBm RL2 hb3 hB2 hB3 hbw hM OPC hB hX0
  go_upto_region 6 with (go_at_call 63; (with_reducible refine (alone63_any _).mono ?_); rintro e w5 ⟨rfl, hb5⟩; unfold nine)
  refine wp_world fun W3 hW3 => ?_
  have hB5 : Below w.heap.size w w5 := (hB4.alloc hB4.size _).trans (hb5.mono (by have := hB4.size; simp; omega))
  have hB35 : Below w5.heap.size w5 W3 := by rw [hW3]; exact (Below.refl _ _).alloc (Nat.le_refl _) _
  have hB43 : Below w4.heap.size w4 W3 := (((Below.refl _ _).alloc (Nat.le_refl _) _).trans (hb5.mono (by simp))).trans (hB35.mono (by have := hb5.size; simp at this; omega))
  have hB3 : Below w.heap.size w W3 := hB5.trans (hB35.mono hB5.size)
  have kj : Blk W3 w5.heap.size (nine fun i => i) 101 := by rw [hW3]; exact Blk.new _ _ _
  have k7 : Blk W3 w4.heap.size #[.pointer (some ⟨X, 0, none⟩)] 97 := ((Blk.new w4 _ _).below hb5).below hB35
  have k3 := k24.below hB43
  have hx3 := hx.below hB43
  have hb3 := hb4.below hB43
  have hjw : w.heap.size ≤ w5.heap.size := hB5.size
  generalize w4.heap.size = B7 at *
  clear hW3 hB35 hB43 hb5 hB5 hB4 hb4 hx k24
  generalize w5.heap.size = Bj at *
  have c0 : W3.cell? ⟨w.heap.size, 0, none⟩ = some (.slice AA (q + 1) ca) := k3.cell 0 rfl
  have c1 : W3.cell? ⟨w.heap.size, 1, none⟩ = some vf := k3.cell 1 rfl
  have c2 : W3.cell? ⟨w.heap.size, 2, none⟩ = some (.slice V m cs) := k3.cell 2 rfl
  go_wp2_with (go_at_call 64; refine (rising64_any _ _ _ _).mono ?_; rintro e w6 ⟨rfl, rfl⟩)
  have hB0 : Below W3.heap.size W3 (W3.alloc (.cells #[.slice AA (q + 1) ca, vf, .slice V m cs] 25)) := (Below.refl _ _).alloc (Nat.le_refl _) _
  have hBb : Blk (W3.alloc (.cells #[.slice AA (q + 1) ca, vf, .slice V m cs] 25)) W3.heap.size #[.slice AA (q + 1) ca, vf, .slice V m cs] 25 := Blk.new _ _ _
  obtain ⟨LA, hLA⟩ : ∃ f, f = lvA area floor (rootN 9 p) s (q + 1) := ⟨_, rfl⟩
  obtain ⟨LB, hLB⟩ : ∃ f, f = lvB area floor (rootN 9 p) s (q + 1) := ⟨_, rfl⟩
  have HLA := Lib.hid hLA
  have HLB := Lib.hid hLB
  clear hLA hLB
  have hPI : PI (q := q) w (W3.alloc (.cells #[.slice AA (q + 1) ca, vf, .slice V m cs] 25)).heap.size (.slice AA (q + 1) ca) vf (.slice V m cs) B7 Bj X (q + 1) LA LB p s lost [] (W3.alloc (.cells #[.slice AA (q + 1) ca, vf, .slice V m cs] 25)) :=
    ⟨hB3.trans (hB0.mono hB3.size), k3.below hB0, k7.below hB0, kj.below hB0, hx3.below hB0, Nat.le_refl _⟩
  have hb0 := hb3.below hB0
  have hD0 : RdT (W3.alloc (.cells #[.slice AA (q + 1) ca, vf, .slice V m cs] 25)) (.slice V m cs) (dOf q m S).size (AB (dOf q m S)) (BB (dOf q m S)) (HB (dOf q m S)) := ok.rdt hb0.s
  have hs0 : W3.heap.size < (W3.alloc (.cells #[.slice AA (q + 1) ca, vf, .slice V m cs] 25)).heap.size := by simp
  have hjl : Bj < W3.heap.size := kj.lt
  obtain ⟨W0, hW0⟩ : ∃ W0, W3.alloc (.cells #[.slice AA (q + 1) ca, vf, .slice V m cs] 25) = W0 := ⟨_, rfl⟩
  rw [hW0] at hBb hPI hD0 hs0 hb0 ⊢
  have hw0 : w.heap.size ≤ W0.heap.size := by have := hB3.size; omega
  have hj0 : Bj < W0.heap.size := by omega
  clear hW0 hB0 c0 c1 c2 k3 k7 kj hB3 hs0 hx3 hb3
  have hm : (dOf q m S).size ≤ 1000 := by rw [dOf_size]; have := ok.m20; omega
  refine (wpIn_wide (n := 6)).1 ?_
  refine wpIn_act fun aF hF => ?_
  refine wpIn_rangeFunc_ownH rfl (by decide) (gf := 82) (lb := #[.pointer (some ⟨W3.heap.size, 0, none⟩)]) (by rw [hF]; rfl) trivial (enters_of Try.func82 (by kernel_rfl) rfl)
    (rising82_stops 5 (by decide) W0 W3.heap.size (.slice AA (q + 1) ca) vf (.slice V m cs) (dOf q m S) hm hBb hD0 (fun _ => none) (outNone W0)) KpB.trans (KpB.put (outNone W0)) (Below.refl _ _) (fun _ => rfl)
    (PI w W0.heap.size (.slice AA (q + 1) ca) vf (.slice V m cs) B7 Bj X (q + 1) LA LB p s lost) (fun c pre W => False) (PI.own hw0) (fun c pre W W' row h hg hr => h) hPI
    (AxB W0.heap.size (fun Bx x => frB aF 28 9 Bx x)) (fun x a' => AxB.own)
    ?assign ?body ?done ?stop
  case assign =>
    rintro l pre s W1 K hi hK
    unfold encB
    rw [hF]
    gi_wp2
    have hb1 : Below W1.heap.size W1 (W1.alloc (.cells (encB s).toArray 75)) := (Below.refl _ _).alloc (Nat.le_refl _) _
    exact hK _ _ ((KeepsOthers.alloc _ _).from _) (KpB.of_below (outNone W0) hi.z hb1) (hi.below hb1) ⟨W1.heap.size, hi.z, Blk.new _ _ _, by rw [hF]; rfl⟩
  case body =>
    rintro l pre t a' W1 hl hr hi ⟨Bx, hBx, bX, rfl⟩ hlt
    have e7 := hi.k7.cell 0 rfl
    have x0 : W1.cell? ⟨Bx, 0, none⟩ = some (.int .i64 (t.1.a : Nat)) := bX.cell 0 rfl
    have x1 : W1.cell? ⟨Bx, 1, none⟩ = some (.int .i64 (t.1.b : Nat)) := bX.cell 1 rfl
    have x2 : W1.cell? ⟨Bx, 2, none⟩ = some (.int .i64 t.1.h) := bX.cell 2 rfl
    have hq : q ≤ 7 := by omega
    have tb := t.2
    have hbB := hb.below hi.b
    have xf := hi.x
    have hs12 : ∀ k, 0 ≤ s k ∧ s k ≤ 1000000000000 := fun k => by have := hbd k; omega
    have SEA := fun n : Ext W1 => sea74_any (W1.ext n) X _ vf _ p s lost (q + 1) area (xf.below n.below) (hbB.a.below n.below)
    have LVA := fun n : Ext W1 => level58_any (W1.ext n) X _ vf _ p s lost (q + 1) area floor (xf.below n.below) hpl (hbB.a.below n.below) (hbB.f.below n.below) hn8 ok.rng hs12 t.1.a (by omega)
    have HIA := fun n : Ext W1 => higher62_any (W1.ext n) (LA t.1.a) (LB t.1.a) t.1.h (by omega) (by rw [HLB.out]; exact lvB_bd ok.rng _ _ _ _ hn8)
    rw [← HLA.out, ← HLB.out] at LVA
    have E7 := fun x => Ext.cell e7 x
    have X0 := fun x => Ext.cell x0 x
    have X1 := fun x => Ext.cell x1 x
    have X2 := fun x => Ext.cell x2 x
    clear e7 x0 x1 hbB
    by_cases c1 : t.1.b < q + 1
    · have g1 : decide ((t.1.b : Int) < ((q + 1 : Nat) : Int)) = true := decide_eq_true (by omega)
      have g1' : decide (t.1.b < q + 1) = true := decide_eq_true c1
      have g1'' : decide ((t.1.b : Int) < (q : Int) + 1) = true := decide_eq_true (by omega)
      have LVB := fun n : Ext W1 => level58_any (W1.ext n) X _ vf _ p s lost (q + 1) area floor (xf.below n.below) hpl ((hb.below (hi.b.trans (n.below.mono hi.b.size))).a) ((hb.below (hi.b.trans (n.below.mono hi.b.size))).f) hn8 ok.rng hs12 t.1.b c1
      have HIB := fun n : Ext W1 => higher62_any (W1.ext n) (LA t.1.b) (LB t.1.b) t.1.h (by omega) (by rw [HLB.out]; exact lvB_bd ok.rng _ _ _ _ hn8)
      rw [← HLA.out, ← HLB.out] at LVB
      by_cases c2 : t.1.h * LB t.1.a < LA t.1.a
      · rw [show decide (t.1.h * LB t.1.a < LA t.1.a) = true from decide_eq_true c2] at HIA
        by_cases c3 : t.1.h * LB t.1.b < LA t.1.b
        · rw [show decide (t.1.h * LB t.1.b < LA t.1.b) = true from decide_eq_true c3] at HIB
          rw [hF]
          unfold frB
          gi_wp2
          refine wpIn_region_quiet_round (C := fun w' => ∃ n : Ext W1, w' = W1.ext n) (by kernel_rfl) (by kernel_rfl) (by kernel_rfl) ⟨⟨_, (Below.refl _ W1).drew⟩, rfl⟩ ?_
          repeat (go_big_quiet_step (first | (go_at_call 74; with_reducible exact calls_ext_same (SEA _)) | (go_at_call 58; with_reducible exact calls_ext (LVA _)) | (go_at_call 62; with_reducible exact calls_ext (HIA _)) | (go_at_call 58; with_reducible exact calls_ext (LVB _)) | (go_at_call 62; with_reducible exact calls_ext (HIB _))))
          refine wpQuiet_nil ?_
          rintro _ ⟨nq, rfl⟩
          have hbd1 := Ext.below nq
          have K5 := wetL_yes (n := q + 1) (LA := LA) (LB := LB) (pre := pre) (s := t) (by unfold wetB; exact decide_eq_true ⟨c1, c2, c3⟩)
          have hi5 := hi.below hbd1
          have KF2 : KeepsFrom W0.heap.size W1 (W1.ext nq) := keeps_below hbd1 _
          have KP2 := KpB.of_below (outNone W0) hi.z hbd1
          have bX5 := bX.below hbd1
          refine world_name fun W5 hW5 => ?_
          rw [← hW5] at hi5 KF2 KP2 bX5
          clear hW5 hbd1 X0 X1 X2 E7 SEA LVA HIA LVB HIB xf x2
          have gok := joinL_ok GOk.id (wetL (q + 1) LA LB pre) hq
          have JC := join_any Bj 0 (joinL (fun i => i) (sOf (wetL (q + 1) LA LB pre))) W5 gok.le (nine_pool hi5.kj) (fun k hk => hi5.kj.frozen (0 + k)) t.1.a (by omega) t.1.b (by omega)
          have y0 : W5.cell? ⟨Bx, 0, none⟩ = some (.int .i64 (t.1.a : Nat)) := bX5.cell 0 rfl
          have y1 : W5.cell? ⟨Bx, 1, none⟩ = some (.int .i64 (t.1.b : Nat)) := bX5.cell 1 rfl
          clear hi
          gi_wp2_with (refine ⟨trivial, ?_⟩; gi_at_call 65; refine (CallsIn.inRound l (callsIn_wide.2 JC)).mono ?_; rintro e w' ⟨rfl, hw'⟩; have HW' := Lib.hid hw'; clear hw')
          have n2 := hi5.kj.ne hi5.k2 (by decide)
          have n7 := hi5.kj.ne hi5.k7 (by decide)
          have nx := hi5.kj.ne hi5.x (by decide)
          have kj : Blk w' Bj (nine (joinP (joinL (fun i => i) (sOf (wetL (q + 1) LA LB pre))) t.1.a t.1.b)) 101 := by rw [HW'.out]; exact nine_join hi5.kj gok (by omega) (by omega)
          have k2 : Blk w' w.heap.size #[.slice AA (q + 1) ca, vf, .slice V m cs] 25 := by rw [HW'.out]; exact hi5.k2.other (Ne.symm n2) _
          have k7 : Blk w' B7 #[.pointer (some ⟨X, 0, none⟩)] 97 := by rw [HW'.out]; exact hi5.k7.other (Ne.symm n7) _
          have kx : SX w' X (.slice AA (q + 1) ca) vf (.slice V m cs) p s lost := by rw [HW'.out]; exact Blk.other hi5.x (Ne.symm nx) _
          have B2 : Below w.heap.size w w' := by rw [HW'.out]; exact hi5.b.setCell (p := ⟨Bj, _, none⟩) hjw _
          have Z2 : W0.heap.size ≤ w'.heap.size := by rw [HW'.out]; simpa using hi5.z
          have KF1 : KeepsFrom W0.heap.size W5 w' := by rw [HW'.out]; exact (KeepsOthers.setCell _ _ _).from _
          have KP1 : KpB W0.heap.size (fun _ => none) W5 w' := by rw [HW'.out]; exact KpB.set hj0 _
          gi_wp2
          refine ⟨KF2.trans KF1, KP2.trans KP1, B2, k2, k7, ?_, kx, Z2⟩
          rw [K5, sOf_snoc, joinL_snoc]
          exact kj
        · rw [show decide (t.1.h * LB t.1.b < LA t.1.b) = false from decide_eq_false c3] at HIB
          rw [hF]
          unfold frB
          gi_wp2
          refine wpIn_region_quiet_round (C := fun w' => ∃ n : Ext W1, w' = W1.ext n) (by kernel_rfl) (by kernel_rfl) (by kernel_rfl) ⟨⟨_, (Below.refl _ W1).drew⟩, rfl⟩ ?_
          repeat (go_big_quiet_step (first | (go_at_call 74; with_reducible exact calls_ext_same (SEA _)) | (go_at_call 58; with_reducible exact calls_ext (LVA _)) | (go_at_call 62; with_reducible exact calls_ext (HIA _)) | (go_at_call 58; with_reducible exact calls_ext (LVB _)) | (go_at_call 62; with_reducible exact calls_ext (HIB _))))
          refine wpQuiet_nil ?_
          rintro _ ⟨nq, rfl⟩
          have hbd1 := Ext.below nq
          have K5 := wetL_no (n := q + 1) (LA := LA) (LB := LB) (pre := pre) (s := t) (by unfold wetB; exact decide_eq_false (by omega))
          have hi5 := hi.below hbd1
          have KF2 : KeepsFrom W0.heap.size W1 (W1.ext nq) := keeps_below hbd1 _
          have KP2 := KpB.of_below (outNone W0) hi.z hbd1
          gi_wp2
          exact ⟨KF2, KP2, hi5.b, hi5.k2, hi5.k7, by rw [K5]; exact hi5.kj, hi5.x, hi5.z⟩
      · rw [show decide (t.1.h * LB t.1.a < LA t.1.a) = false from decide_eq_false c2] at HIA
        rw [hF]
        unfold frB
        gi_wp2
        refine wpIn_region_quiet_round (C := fun w' => ∃ n : Ext W1, w' = W1.ext n) (by kernel_rfl) (by kernel_rfl) (by kernel_rfl) ⟨⟨_, (Below.refl _ W1).drew⟩, rfl⟩ ?_
        repeat (go_big_quiet_step (first | (go_at_call 74; with_reducible exact calls_ext_same (SEA _)) | (go_at_call 58; with_reducible exact calls_ext (LVA _)) | (go_at_call 62; with_reducible exact calls_ext (HIA _)) | (go_at_call 58; with_reducible exact calls_ext (LVB _)) | (go_at_call 62; with_reducible exact calls_ext (HIB _))))
        refine wpQuiet_nil ?_
        rintro _ ⟨nq, rfl⟩
        have hbd1 := Ext.below nq
        have K5 := wetL_no (n := q + 1) (LA := LA) (LB := LB) (pre := pre) (s := t) (by unfold wetB; exact decide_eq_false (by omega))
        have hi5 := hi.below hbd1
        have KF2 : KeepsFrom W0.heap.size W1 (W1.ext nq) := keeps_below hbd1 _
        have KP2 := KpB.of_below (outNone W0) hi.z hbd1
        gi_wp2
        exact ⟨KF2, KP2, hi5.b, hi5.k2, hi5.k7, by rw [K5]; exact hi5.kj, hi5.x, hi5.z⟩
    · have g1 : decide ((t.1.b : Int) < ((q + 1 : Nat) : Int)) = false := decide_eq_false (by omega)
      have g1' : decide (t.1.b < q + 1) = false := decide_eq_false c1
      have g1'' : decide ((t.1.b : Int) < (q : Int) + 1) = false := decide_eq_false (by omega)
      rw [hF]
      unfold frB
      gi_wp2
      refine wpIn_region_quiet_round (C := fun w' => ∃ n : Ext W1, w' = W1.ext n) (by kernel_rfl) (by kernel_rfl) (by kernel_rfl) ⟨⟨_, (Below.refl _ W1).drew⟩, rfl⟩ ?_
      repeat (go_big_quiet_step (first | (go_at_call 74; with_reducible exact calls_ext_same (SEA _)) | (go_at_call 58; with_reducible exact calls_ext (LVA _)) | (go_at_call 62; with_reducible exact calls_ext (HIA _))))
      refine wpQuiet_nil ?_
      rintro _ ⟨nq, rfl⟩
      have hbd1 := Ext.below nq
      have K5 := wetL_no (n := q + 1) (LA := LA) (LB := LB) (pre := pre) (s := t) (by unfold wetB; exact decide_eq_false (by omega))
      have hi5 := hi.below hbd1
      have KF2 : KeepsFrom W0.heap.size W1 (W1.ext nq) := keeps_below hbd1 _
      have KP2 := KpB.of_below (outNone W0) hi.z hbd1
      gi_wp2
      exact ⟨KF2, KP2, hi5.b, hi5.k2, hi5.k7, by rw [K5]; exact hi5.kj, hi5.x, hi5.z⟩
  case done =>
    rintro D ys W5 hD hS hi hK
    have hB5 := hi.b
    have k2 := hi.k2
    have kj := hi.kj
    have gok := joinL_ok GOk.id (wetL (q + 1) LA LB ys) (show q ≤ 7 by omega)
    have hfin : wetL (q + 1) (lvA area floor st.rep st.vol (q + 1)) (lvB area floor st.rep st.vol (q + 1)) ys = wetL (q + 1) LA LB ys := by
      unfold wetL
      refine List.filter_congr fun x hx => ?_
      have hr : ∀ k, k < q + 1 → lvA area floor st.rep st.vol (q + 1) k = LA k ∧ lvB area floor st.rep st.vol (q + 1) k = LB k := fun k hk => by
        rw [HLA.out, HLB.out, ← HPS.out.repf]
        refine lv_congr ?_
        have := gd.iv.le k
        exact (HPS.out.vol _ (by omega) (gd.iv.idem k)).symm
      have xb := x.2.2
      unfold wetB
      by_cases c : x.1.b < q + 1
      · rw [(hr _ c).1, (hr _ c).2, (hr x.1.a (by omega)).1, (hr x.1.a (by omega)).2]
      · rw [decide_eq_false (fun h => c h.1), decide_eq_false (fun h => c h.1)]
    have HFI := Lib.hid (And.intro hS (And.intro HEN.out hfin))
    clear hfin hS hi
    generalize hP : joinL (fun i => i) (sOf (wetL (q + 1) LA LB ys)) = P at *
    have HP := Lib.hid hP
    clear hP
    have HGO := Lib.hid gok
    have HKJ := Lib.hid kj
    have HK2 := Lib.hid k2
    have HB5 := Lib.hid hB5
    have HKD := Lib.hid hK
    have hs5 : w.heap.size ≤ W5.heap.size := hB5.size
    have c0 : W5.cell? ⟨w.heap.size, 0, none⟩ = some (.slice AA (q + 1) ca) := k2.cell 0 rfl
    clear gok kj k2 hB5 hK
    rw [hF]
    go_wp2
    go_loopg [10, 11, 12, 13, 60] (q + 1) (fun gk v y11 y12 y13 x wr => ∃ k : Nat, k ≤ q + 1 ∧ gk = q + 1 - k ∧ x = .int .i64 k ∧ OwNN wr W5.heap.size v (groups P (q + 1) k) ∧ Below W5.heap.size W5 wr)
    case atStart => exact ⟨0, by omega, rfl, rfl, OwNN.nil _ _, Below.refl _ _⟩
    case round =>
      obtain ⟨i, hik, hgk, rfl, ho, hbi⟩ := hrel
      have HGK := Lib.hid hgk
      clear hgk
      obtain ⟨wo, hwo⟩ : ∃ x, x = wr := ⟨_, rfl⟩
      rw [← hwo] at ho hbi ⊢
      clear hwo
      have HO := Lib.hid ho
      have HBI := Lib.hid hbi
      have hsz : W5.heap.size ≤ wo.heap.size := hbi.size
      clear ho
      by_cases hlt : i < q + 1
      · have c0 := cell_up hbi c0
        have kjr := HKJ.out.below hbi
        have hd0 : decide ((i : Int) < ((q + 1 : Nat) : Int)) = true := decide_eq_true (by omega)
        have hd1 : decide ((i : Int) < (q : Int) + 1) = true := decide_eq_true (by omega)
        go_wp2
        go_loopg [12, 13, 66] (q + 1) (fun gk2 v2 y13 x2 wr2 => ∃ k2 : Nat, k2 ≤ q + 1 ∧ gk2 = q + 1 - k2 ∧ x2 = .int .i64 k2 ∧ OwN wr2 wo.heap.size v2 (memb P i k2) ∧ Below wo.heap.size wo wr2)
        case atStart => exact ⟨0, by omega, rfl, rfl, World.ownsRow_nil _ _ _ _, Below.refl _ _⟩
        case round =>
          obtain ⟨k2, hk2, hgk2, rfl, ho2, hb2⟩ := hrel
          have HGK2 := Lib.hid hgk2
          have HM := Lib.hid (memb_succ P i k2)
          have HL2 := Lib.hid (memb_len P i k2)
          clear hgk2
          by_cases hlt2 : k2 < q + 1
          · have FC := first_any Bj 0 P wr HGO.out.le (nine_pool (kjr.below hb2)) k2 (by omega)
            by_cases e : rootN 9 P k2 = i
            · have e1 : ((rootN 9 P k2 : Int) == (i : Int)) = true := by simp [e]
              have HR : Hid (memb P i (k2 + 1) = memb P i k2 ++ [k2]) := by have := HM.out; rw [if_pos e] at this; exact this
              generalize rootN 9 P k2 = r at *
              have HE := Lib.hid e
              have hl2 := HL2.out
              have HO2 := Lib.hid ho2
              have HB2 := Lib.hid hb2
              clear e HM ho2 hb2
              go_wp2_with (first | (go_at_call 66; (with_reducible refine FC.mono ?_); rintro e w' ⟨rfl, rfl⟩) | (at_builtin; refine app_one (news := [.int .i64 k2]) 22 3 (.int .i64 0) 1 8 Try.underlying22 (by kernel_rfl) rfl (by decide) (by decide) rfl (.tmp 73) (.tmp 75) rfl wo.heap.size _ _ _ rfl HO2.out rfl rfl (by simp [Value.oneCell']) (by omega) HB2.out.size ?_; intro v' w1 h1 h2 h3))
              have hB7 := HB2.out.grown h2 HB2.out.size (own_base HO2.out)
              go_roundg (q + 1 - (k2 + 1))
              case measure => have := HGK2.out; omega
              case rel => exact ⟨k2 + 1, by omega, rfl, by go_num, by rw [HR.out]; exact OwN.snoc h1, hB7⟩
            · have e1 : ((rootN 9 P k2 : Int) == (i : Int)) = false := by simp; omega
              have HR : Hid (memb P i (k2 + 1) = memb P i k2) := by have := HM.out; rw [if_neg e] at this; exact this
              generalize rootN 9 P k2 = r at *
              have HE := Lib.hid e
              clear e HM
              go_wp2_with (go_at_call 66; (with_reducible refine FC.mono ?_); rintro e w' ⟨rfl, rfl⟩)
              go_roundg (q + 1 - (k2 + 1))
              case measure => have := HGK2.out; omega
              case rel => exact ⟨k2 + 1, by omega, rfl, by go_num, by rw [HR.out]; exact ho2, hb2⟩
          · obtain rfl : k2 = q + 1 := by omega
            have ho2' := ho2
            obtain ⟨A2, z2, rfl⟩ := own_len ho2'
            clear ho2'
            have HOB : Hid (OwNN wr W5.heap.size u10 (groups P (q + 1) i)) := HO.out.below hb2
            have hbase : w.heap.size ≤ wo.heap.size := Nat.le_trans hs5 hsz
            have HOM : Hid (OwN wr W5.heap.size (.slice A2 (memb P i (q + 1)).length z2) (memb P i (q + 1))) := World.ownsRow.mono ho2 hsz
            have HGS := Lib.hid (groups_succ P (q + 1) i)
            have HGL := Lib.hid (groups_len P (q + 1) i)
            have hb7 := HBI.out.trans (hb2.mono hsz)
            have HB7 := Lib.hid hb7
            clear HO ho2 hb2 hb7 kjr
            by_cases hl : 1 < (memb P i (q + 1)).length
            · have HR : Hid (groups P (q + 1) (i + 1) = groups P (q + 1) i ++ [memb P i (q + 1)]) := by have := HGS.out; rw [if_pos hl] at this; exact this
              have hll : (memb P i (q + 1)).length ≤ q + 1 := memb_len P i (q + 1)
              have hgl := HGL.out
              generalize hlg : (memb P i (q + 1)).length = lg at *
              have HLG := Lib.hid hlg
              have d1 : decide ((1 : Int) < (lg : Int)) = true := decide_eq_true (by omega)
              have hws : W5.heap.size ≤ wr.heap.size := HB7.out.size
              obtain ⟨us, hus1, hus2, hus3⟩ := HOB.out
              have HUS := Lib.hid hus2
              have HU3 := Lib.hid (And.intro hus1 hus3)
              clear hlg hus1 hus2 hus3
              go_wp2_with (at_builtin; refine app_one (news := [.slice A2 lg z2]) 79 22 (.slice none 0 0) 1 24 Try.underlying79 (by kernel_rfl) rfl (by decide) (by decide) rfl (.tmp 81) (.tmp 83) rfl W5.heap.size _ _ _ rfl HUS.out rfl rfl (by simp [Value.oneCell']) (by omega) hws ?_; intro v' w1 h1 h2 h3)
              have hB8 := HB7.out.grown h2 HB7.out.size (own_base HUS.out)
              go_roundg (q + 1 - (i + 1))
              case measure => have := HGK.out; omega
              case rel =>
                refine ⟨i + 1, by omega, rfl, by go_num, ?_, hB8⟩
                rw [HR.out]
                exact OwNN.snoc' HU3.out.1 HUS.out HU3.out.2 HOM.out h2 h1
            · have HR : Hid (groups P (q + 1) (i + 1) = groups P (q + 1) i) := by have := HGS.out; rw [if_neg hl] at this; exact this
              generalize hlg : (memb P i (q + 1)).length = lg at *
              have HLG := Lib.hid hlg
              have d1 : decide ((1 : Int) < (lg : Int)) = false := decide_eq_false (by omega)
              clear hlg
              go_wp2
              go_roundg (q + 1 - (i + 1))
              case measure => have := HGK.out; omega
              case rel => exact ⟨i + 1, by omega, rfl, by go_num, by rw [HR.out]; exact HOB.out, HB7.out⟩
      · obtain rfl : i = q + 1 := by omega
        have hK' : wo.heap[D]? = some (Obj.deferred (some [])) := (HBI.out.block D (Array.getElem?_eq_some_iff.1 HKD.out).1).trans HKD.out
        have HKW := Lib.hid hK'
        have HOF : Hid (OwNN wo w.heap.size u10 (groups P (q + 1) (q + 1))) := HO.out.mono hs5
        go_wp2
        refine ⟨by simp, .inl ⟨_, _, rfl, run_takeDeferred HKW.out, ?_⟩⟩
        refine ⟨.tuple #[u10, .int .i64 0], by simp [results, Try.f40, go_sem], ?_, u10, st, ys, HFI.out.1, HFI.out.2.1, rfl, ?_⟩
        · exact (HB5.out.trans (HBI.out.mono hs5)).trans (belowK_b (w := w) (Nat.le_refl _) _ D _ _ (by omega) HKW.out rfl rfl)
        · rw [HFI.out.2.2, HP.out]
          exact HOF.out.put HKW.out rfl
  case stop =>
    rintro D c pre W5 hD hS hF
    exact hF.elim
end Go.Proofs.Ytjhididnmkbgoaa
