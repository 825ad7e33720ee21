import Derived.Test.YtjhididnmkbgoaaLp
import Derived.Test.YtjhididnmkbgoaaUf
import Derived.Test.YtjhididnmkbgoaaCl
import Derived.Test.YtjhididnmkbgoaaPr
set_option linter.unusedVariables false
set_option linter.unusedSimpArgs false
namespace Go.Proofs.Ytjhididnmkbgoaa
open Go.RowKit Go.Shelf
attribute [local go_sem] Oper.semAt_some
variable {q : Nat}

/-- The frame gets a name. -/
theorem wpIn_act {F : Fence} {n : Nat} {P : Program} {c : Code} {Q : Exit → Act → World → Prop} {a0 : Act} {w : World} (h : ∀ a, a = a0 → c.wpIn F n P Q a w) : c.wpIn F n P Q a0 w := h _ rfl

/-- A round's frame: the loop's parameter in slot i, its box in slot j. -/
def frB (a : Act) (i j : Nat) (Bx : Nat) (x : BQ q) : Act := { tmps := (a.tmps.setIfInBounds i (.agg #[.int .i64 (x.1.a : Nat), .int .i64 (x.1.b : Nat), .int .i64 x.1.h])).setIfInBounds j (.pointer (some ⟨Bx, 0, none⟩)), defers := [] }

theorem Blk.ne {w : World} {b b' : Nat} {cs cs' : Array Value} {t t' : TypeId} (h : Blk w b cs t) (h' : Blk w b' cs' t') (ht : t ≠ t') : b ≠ b' := fun e => by
  subst e
  unfold Blk at h h'
  rw [h] at h'
  cases h'
  exact ht rfl

theorem KpB.set {w A : World} {Bj j : Nat} (hj : Bj < w.heap.size) (v : Value) : KpB w.heap.size (fun _ => none) A (A.setCell ⟨Bj, j, none⟩ v) := by
  refine ⟨(grown_setCell A Bj j v).size, .inl rfl, fun b o hb ho hc _ => ?_⟩
  exact ((grown_setCell A Bj j v).block b (Array.getElem?_eq_some_iff.1 ho).1 (fun e => by cases e; omega)).trans ho

theorem nine_pool {w : World} {Bj : Nat} {p : Nat → Nat} (h : Blk w Bj (nine p) 101) : ∀ k, k < 9 → w.cell? ⟨Bj, 0 + k, none⟩ = some (.int .i64 (p k : Nat)) := fun k hk => by
  rw [Nat.zero_add]; exact h.cell k (nine_get p k hk)

theorem nine_join {w : World} {Bj : Nat} {p : Nat → Nat} (h : Blk w Bj (nine p) 101) (ok : GOk p) {i k : Nat} (hi : i < 9) (hk : k < 9) :
    Blk (w.setCell ⟨Bj, 0 + max (rootN 9 p i) (rootN 9 p k), none⟩ (.int .i64 (min (rootN 9 p i) (rootN 9 p k) : Nat))) Bj (nine (joinP p i k)) 101 := by
  have a := rootN_le p ok.le 9 i
  have b := rootN_le p ok.le 9 k
  have := h.set (max (rootN 9 p i) (rootN 9 p k)) (.int .i64 (min (rootN 9 p i) (rootN 9 p k) : Nat))
  rw [nine_set _ _ (by omega)] at this
  rw [Nat.zero_add]
  exact this

def sOf (l : List (BQ q)) : List Slu.Sill := l.map fun x => x.1
theorem sOf_snoc (l : List (BQ q)) (x : BQ q) : sOf (l ++ [x]) = sOf l ++ [x.1] := by simp [sOf]

theorem joinL_ok {p : Nat → Nat} (h : GOk p) (l : List (BQ q)) (hq : q ≤ 7) : GOk (joinL p (sOf l)) := by
  induction l generalizing p with
  | nil => exact h
  | cons s l ih => exact ih (h.join (show s.1.a < 9 by have := s.2.2; omega) (show s.1.b < 9 by have := s.2.2; omega))

/-- No sill has joined x and y. -/
def NoHit (x y : Nat) (pre : List (BQ q)) : Prop := ∀ l2 : List Slu.Sill, lipF x y (fun i => i) (sOf pre ++ l2) = lipF x y (joinL (fun i => i) (sOf pre)) l2

theorem NoHit.nil (x y : Nat) : NoHit (q := q) x y [] := fun l2 => rfl
theorem NoHit.snoc {x y : Nat} {pre : List (BQ q)} (h : NoHit x y pre) {s : BQ q} (hn : rootN 9 (joinP (joinL (fun i => i) (sOf pre)) s.1.a s.1.b) x ≠ rootN 9 (joinP (joinL (fun i => i) (sOf pre)) s.1.a s.1.b) y) : NoHit x y (pre ++ [s]) := fun l2 => by
  rw [sOf_snoc, List.append_assoc, h, joinL_snoc]
  show lipF x y _ (s.1 :: l2) = _
  simp only [lipF]
  rw [if_neg hn]
theorem NoHit.hit {x y : Nat} {pre : List (BQ q)} (h : NoHit x y pre) {s : BQ q} (hn : rootN 9 (joinP (joinL (fun i => i) (sOf pre)) s.1.a s.1.b) x = rootN 9 (joinP (joinL (fun i => i) (sOf pre)) s.1.a s.1.b) y) (l2 : List Slu.Sill) : lipF x y (fun i => i) (sOf (pre ++ [s]) ++ l2) = s.1.h := by
  rw [sOf_snoc, List.append_assoc, h]
  show lipF x y _ (s.1 :: l2) = _
  simp only [lipF]
  rw [if_pos hn]

/-- The loop's invariant: n0 the heap's size ahead of it. -/
structure JI (w : World) (n0 x y : Nat) (va vf vs : Value) (Bj Bl : Nat) (pre : List (BQ q)) (W : World) : Prop where
  b : Below w.heap.size w W
  k3 : Blk W w.heap.size #[va, vf, vs] 25
  k4 : Blk W (w.heap.size + 1) #[.int .i64 (x : Nat)] 3
  k5 : Blk W (w.heap.size + 1 + 1) #[.int .i64 (y : Nat)] 3
  kj : Blk W Bj (nine (joinL (fun i => i) (sOf pre))) 101
  kl : Blk W Bl #[.int .i64 0] 3
  no : NoHit x y pre
  z : n0 ≤ W.heap.size

theorem JI.own {w : World} {n0 x y : Nat} {va vf vs : Value} {Bj Bl : Nat} (hn : w.heap.size ≤ n0) : OwnFrom n0 (JI (q := q) w n0 x y va vf vs Bj Bl) := fun pre W W' row h hg hr =>
  have hr' := fun r e => (hr r e).2
  ⟨h.b.grown hg h.b.size (fun k e => Nat.le_trans hn (hr k e).1), h.k3.ownk hg hr', h.k4.ownk hg hr', h.k5.ownk hg hr', h.kj.ownk hg hr', h.kl.ownk hg hr', h.no, Nat.le_trans h.z hg.size⟩

theorem JI.below {w : World} {n0 x y : Nat} {va vf vs : Value} {Bj Bl : Nat} {pre : List (BQ q)} {W W' : World} (h : JI w n0 x y va vf vs Bj Bl pre W) (hb : Below W.heap.size W W') : JI w n0 x y va vf vs Bj Bl pre W' :=
  ⟨h.b.trans (hb.mono h.b.size), h.k3.below hb, h.k4.below hb, h.k5.below hb, h.kj.below hb, h.kl.below hb, h.no, Nat.le_trans h.z hb.size⟩

/-- The two are joined. -/
structure JX (w : World) (x y Bl : Nat) (id : Nat) (c : Code) (pre : List (BQ q)) (W : World) : Prop where
  b : Below w.heap.size w W
  c : c = .exit id
  f : ∃ v : Int, Blk W Bl #[.int .i64 v] 3 ∧ ∀ l2 : List Slu.Sill, lipF x y (fun i => i) (sOf pre ++ l2) = v

theorem JX.own {w : World} {x y Bl id : Nat} {c : Code} {n0 : Nat} (hn : w.heap.size ≤ n0) : OwnFrom n0 (JX (q := q) w x y Bl id c) := fun pre W W' row h hg hr => by
  have hr' := fun r e => (hr r e).2
  obtain ⟨v, h1, h2⟩ := h.f
  exact ⟨h.b.grown hg h.b.size (fun k e => Nat.le_trans hn (hr k e).1), h.c, v, h1.ownk hg hr', h2⟩

/-- What Lip hands back. -/
def LipRes (q m : Nat) (S : Nat → Slu.Sill) (x y : Nat) (w : World) (e : Ending) (w' : World) : Prop :=
  ∃ xs : List (BQ q), SB (dOf q m S) xs ∧ e = .returned (.tuple #[.int .i64 (lipF x y (fun i => i) (sOf xs)), .int .i64 (if lipF x y (fun i => i) (sOf xs) = 0 then 4 else 0)]) ∧ Below w.heap.size w w'

set_option maxRecDepth 100000 in
set_option maxHeartbeats 4000000 in
theorem lip28_any (w : World) (va vf vs : Value) (n m : Nat) (area floor : Nat → Int) (S : Nat → Slu.Sill) (hb : Bs w va vf vs n m area floor S) (x y : Nat) (hx : x < n) (hy : y ≤ n) (hxy : x ≠ y) :
    Calls Try.prog 28 #[.agg #[va, vf, vs], .int .i64 x, .int .i64 y] w fun e w' => LipRes (n - 1) m S x y w e w' := by
  have ok := hb.ok
  have hn8 := ok.n8
  obtain ⟨q, rfl⟩ : ∃ q, n = q + 1 := ⟨n - 1, by have := ok.n1; omega⟩
  rw [Nat.add_sub_cancel]
  obtain ⟨AA, ca, rfl, la, ra⟩ := id hb.a
  obtain ⟨V, cs, rfl, ls, rs⟩ := id hb.s
  clear ra rs
  refine (callsIn_wide (n := 6)).1 ?_
  refine callsIn_of_wp_marks Try.func28 rfl trivial ?_ rfl
  simp only [Try.ntmps28, List.size_toArray, List.length_cons, List.length_nil, Nat.reduceAdd, Nat.reduceSub, Array.replicate_succ, Array.replicate_zero, List.push_toArray, List.append_toArray, List.nil_append, List.cons_append]
  refine wpIn_wide.2 ?_
  go_upto_region 1 with (fail)
  refine wp_world fun W hW => ?_
  have hB : Below w.heap.size w W := by rw [hW]; exact (((Below.refl _ _).alloc (Nat.le_refl _) _).alloc (by simp) _).alloc (by simp; omega) _
  have k3 : Blk W w.heap.size #[.slice AA (q + 1) ca, vf, .slice V m cs] 25 := by rw [hW]; exact ((Blk.new _ _ _).alloc _).alloc _
  have k4 : Blk W (w.heap.size + 1) #[.int .i64 (x : Nat)] 3 := by
    rw [hW]; have := Blk.new (w.alloc (.cells #[.slice AA (q + 1) ca, vf, .slice V m cs] 25)) #[.int .i64 (x : Nat)] 3; simp only [World.size_alloc] at this; exact this.alloc _
  have k5 : Blk W (w.heap.size + 1 + 1) #[.int .i64 (y : Nat)] 3 := by
    rw [hW]; have := Blk.new ((w.alloc (.cells #[.slice AA (q + 1) ca, vf, .slice V m cs] 25)).alloc (.cells #[.int .i64 (x : Nat)] 3)) #[.int .i64 (y : Nat)] 3; simp only [World.size_alloc] at this; exact this
  clear hW
  have c0 : W.cell? ⟨w.heap.size, 0, none⟩ = some (.slice AA (q + 1) ca) := k3.cell 0 rfl
  have c1 : W.cell? ⟨w.heap.size, 1, none⟩ = some vf := k3.cell 1 rfl
  have c2 : W.cell? ⟨w.heap.size, 2, none⟩ = some (.slice V m cs) := k3.cell 2 rfl
  have hb1 := hb.below hB
  have CK := check47_ok W _ vf _ (q + 1) m area floor _ _ _ hb1.a hb1.f hb1.s hb1.ck
  have d1 : decide ((x : Int) < 0) = false := decide_eq_false (by omega)
  have d2 : decide (((q + 1 : Nat) : Int) ≤ (x : Int)) = false := decide_eq_false (by omega)
  have d2' : decide ((q + 1 : Nat) ≤ x) = false := decide_eq_false (by omega)
  have d2'' : decide ((q : Int) + 1 ≤ (x : Int)) = false := decide_eq_false (by omega)
  have d3 : decide ((y : Int) < 0) = false := decide_eq_false (by omega)
  have d4 : decide (((q + 1 : Nat) : Int) < (y : Int)) = false := decide_eq_false (by omega)
  have d4' : decide ((q + 1 : Nat) < y) = false := decide_eq_false (by omega)
  have d4'' : decide ((q : Int) + 1 < (y : Int)) = false := decide_eq_false (by omega)
  have d5 : ((x : Int) == (y : Int)) = false := by simp; omega
  go_step3
  go_upto_region 7 with (go_at_call 47; (with_reducible refine CK.mono ?_); rintro e w1 ⟨rfl, hb1'⟩; have k3' := k3.below hb1'; have c0 : w1.cell? ⟨w.heap.size, 0, none⟩ = some (.slice AA (q + 1) ca) := k3'.cell 0 rfl; have e4 := (k4.below hb1').cell 0 rfl; have e5 := (k5.below hb1').cell 0 rfl)
  have hB1 := hB.trans (hb1'.mono hB.size)
  have k4' := k4.below hb1'
  have k5' := k5.below hb1'
  clear CK d1 d2 d2' d2'' d3 d4 d4' d4'' d5 c0 c1 c2 e4 e5 k3 k4 k5 hB hb1 hb1'
  go_upto_region 9 with (go_at_call 63; (with_reducible refine (alone63_any _).mono ?_); rintro e w2 ⟨rfl, hb2⟩; unfold nine)
  refine wp_world fun W3 hW3 => ?_
  have hB2 := hB1.trans (hb2.mono hB1.size)
  have hB3 : Below w.heap.size w W3 := by rw [hW3]; exact (hB2.alloc hB2.size _).alloc (by have := hB2.size; simp; omega) _
  have kj : Blk W3 w2.heap.size (nine fun i => i) 101 := by rw [hW3]; exact (Blk.new _ _ _).alloc _
  have kl : Blk W3 (w2.heap.size + 1) #[.int .i64 0] 3 := by
    rw [hW3]; have := Blk.new (w2.alloc (.cells (nine fun i => i) 101)) #[.int .i64 0] 3; simp only [World.size_alloc] at this; exact this
  have k3 : Blk W3 w.heap.size #[.slice AA (q + 1) ca, vf, .slice V m cs] 25 := by rw [hW3]; exact ((k3'.below hb2).alloc _).alloc _
  have k4 : Blk W3 (w.heap.size + 1) #[.int .i64 (x : Nat)] 3 := by rw [hW3]; exact ((k4'.below hb2).alloc _).alloc _
  have k5 : Blk W3 (w.heap.size + 1 + 1) #[.int .i64 (y : Nat)] 3 := by rw [hW3]; exact ((k5'.below hb2).alloc _).alloc _
  have hjw : w.heap.size ≤ w2.heap.size := hB2.size
  clear hW3 hB1 hB2 hb2 k3' k4' k5'
  generalize w2.heap.size = Bj at *
  have c0 : W3.cell? ⟨w.heap.size, 0, none⟩ = some (.slice AA (q + 1) ca) := k3.cell 0 rfl
  have c1 : W3.cell? ⟨w.heap.size, 1, none⟩ = some vf := k3.cell 1 rfl
  have c2 : W3.cell? ⟨w.heap.size, 2, none⟩ = some (.slice V m cs) := k3.cell 2 rfl
  go_step3
  go_wp2_with (go_at_call 64; refine (rising64_any _ _ _ _).mono ?_; rintro e w4 ⟨rfl, rfl⟩)
  have hB0 : Below W3.heap.size W3 (W3.alloc (.cells #[.slice AA (q + 1) ca, vf, .slice V m cs] 25)) := (Below.refl _ _).alloc (Nat.le_refl _) _
  have hBb : Blk (W3.alloc (.cells #[.slice AA (q + 1) ca, vf, .slice V m cs] 25)) W3.heap.size #[.slice AA (q + 1) ca, vf, .slice V m cs] 25 := Blk.new _ _ _
  have hJI : JI (q := q) w (W3.alloc (.cells #[.slice AA (q + 1) ca, vf, .slice V m cs] 25)).heap.size x y (.slice AA (q + 1) ca) vf (.slice V m cs) Bj (Bj + 1) [] (W3.alloc (.cells #[.slice AA (q + 1) ca, vf, .slice V m cs] 25)) :=
    ⟨hB3.trans (hB0.mono hB3.size), k3.below hB0, k4.below hB0, k5.below hB0, kj.below hB0, kl.below hB0, NoHit.nil x y, Nat.le_refl _⟩
  have hD0 : RdT (W3.alloc (.cells #[.slice AA (q + 1) ca, vf, .slice V m cs] 25)) (.slice V m cs) (dOf q m S).size (AB (dOf q m S)) (BB (dOf q m S)) (HB (dOf q m S)) := ((ok.rdt hb.s).below hB3).below hB0
  have hs0 : W3.heap.size < (W3.alloc (.cells #[.slice AA (q + 1) ca, vf, .slice V m cs] 25)).heap.size := by simp
  have hjl : Bj + 1 < W3.heap.size := kl.lt
  obtain ⟨W0, hW0⟩ : ∃ W0, W3.alloc (.cells #[.slice AA (q + 1) ca, vf, .slice V m cs] 25) = W0 := ⟨_, rfl⟩
  rw [hW0] at hBb hJI hD0 hs0 ⊢
  have hw0 : w.heap.size ≤ W0.heap.size := by omega
  have hj0 : Bj < W0.heap.size := by omega
  have hl0 : Bj + 1 < W0.heap.size := by omega
  clear hW0 hB0 c0 c1 c2 k3 k4 k5 kj kl hB3 hs0
  have hm : (dOf q m S).size ≤ 1000 := by rw [dOf_size]; have := ok.m20; omega
  refine (wpIn_wide (n := 6)).1 ?_
  refine wpIn_act fun aF hF => ?_
  refine wpIn_rangeFunc_ownH rfl (by decide) (gf := 82) (lb := #[.pointer (some ⟨W3.heap.size, 0, none⟩)]) (by rw [hF]; rfl) trivial (enters_of Try.func82 (by kernel_rfl) rfl)
    (rising82_stops 5 (by decide) W0 W3.heap.size (.slice AA (q + 1) ca) vf (.slice V m cs) (dOf q m S) hm hBb hD0 (fun _ => none) (outNone W0)) KpB.trans (KpB.put (outNone W0)) (Below.refl _ _) (fun _ => rfl)
    (JI w W0.heap.size x y (.slice AA (q + 1) ca) vf (.slice V m cs) Bj (Bj + 1)) (JX w x y (Bj + 1) 0) (JI.own hw0) (fun c => JX.own hw0) hJI
    (AxB W0.heap.size (fun Bx x => frB aF 45 12 Bx x)) (fun x a' => AxB.own)
    ?assign ?body ?done ?stop
  case assign =>
    rintro l pre s W1 K hi hK
    unfold encB
    rw [hF]
    gi_wp2
    have hb1 : Below W1.heap.size W1 (W1.alloc (.cells (encB s).toArray 75)) := (Below.refl _ _).alloc (Nat.le_refl _) _
    exact hK _ _ ((KeepsOthers.alloc _ _).from _) (KpB.of_below (outNone W0) hi.z hb1) (hi.below hb1) ⟨W1.heap.size, hi.z, Blk.new _ _ _, by rw [hF]; rfl⟩
  case body =>
    rintro l pre s a' W1 hl hr hi ⟨Bx, hBx, bX, rfl⟩ hlt
    have x0 : W1.cell? ⟨Bx, 0, none⟩ = some (.int .i64 (s.1.a : Nat)) := bX.cell 0 rfl
    have x1 : W1.cell? ⟨Bx, 1, none⟩ = some (.int .i64 (s.1.b : Nat)) := bX.cell 1 rfl
    have hq : q ≤ 7 := by omega
    have sb := s.2.2
    have gok := joinL_ok GOk.id pre hq
    have JC := join_any Bj 0 (joinL (fun i => i) (sOf pre)) W1 gok.le (nine_pool hi.kj) (fun k hk => hi.kj.frozen (0 + k)) s.1.a (by omega) s.1.b (by omega)
    rw [hF]
    unfold frB
    gi_wp2_with (refine ⟨trivial, ?_⟩; gi_at_call 65; refine (CallsIn.inRound l (callsIn_wide.2 JC)).mono ?_; rintro e w' ⟨rfl, hw'⟩; have HW' := Lib.hid hw'; clear hw')
    have n3 := hi.kj.ne hi.k3 (by decide)
    have n4 := hi.kj.ne hi.k4 (by decide)
    have n5 := hi.kj.ne hi.k5 (by decide)
    have nl := hi.kj.ne hi.kl (by decide)
    have nx := hi.kj.ne bX (by decide)
    have kj : Blk w' Bj (nine (joinP (joinL (fun i => i) (sOf pre)) s.1.a s.1.b)) 101 := by rw [HW'.out]; exact nine_join hi.kj gok (by omega) (by omega)
    have k3 : Blk w' w.heap.size #[.slice AA (q + 1) ca, vf, .slice V m cs] 25 := by rw [HW'.out]; exact hi.k3.other (Ne.symm n3) _
    have k4 : Blk w' (w.heap.size + 1) #[.int .i64 (x : Nat)] 3 := by rw [HW'.out]; exact hi.k4.other (Ne.symm n4) _
    have k5 : Blk w' (w.heap.size + 1 + 1) #[.int .i64 (y : Nat)] 3 := by rw [HW'.out]; exact hi.k5.other (Ne.symm n5) _
    have kl : Blk w' (Bj + 1) #[.int .i64 0] 3 := by rw [HW'.out]; exact hi.kl.other (Ne.symm nl) _
    have bX2 : Blk w' Bx (encB s).toArray 75 := by rw [HW'.out]; exact bX.other (Ne.symm nx) _
    have B2 : Below w.heap.size w w' := by rw [HW'.out]; exact hi.b.setCell (p := ⟨Bj, _, none⟩) hjw _
    have Z2 : W0.heap.size ≤ w'.heap.size := by rw [HW'.out]; simpa using hi.z
    have KF1 : KeepsFrom W0.heap.size W1 w' := by rw [HW'.out]; exact (KeepsOthers.setCell _ _ _).from _
    have KP1 : KpB W0.heap.size (fun _ => none) W1 w' := by rw [HW'.out]; exact KpB.set hj0 _
    have gok' := gok.join (i := s.1.a) (k := s.1.b) (by omega) (by omega)
    have HNO := Lib.hid hi.no
    clear HW' JC x0 x1 hi bX n3 n4 n5 nl nx hr
    have JS := joinL_snoc (fun i => i) (sOf pre) s.1
    have HS1 : Hid (∀ (h : rootN 9 (joinP (joinL (fun i => i) (sOf pre)) s.1.a s.1.b) x ≠ rootN 9 (joinP (joinL (fun i => i) (sOf pre)) s.1.a s.1.b) y), NoHit x y (pre ++ [s])) := fun h => HNO.out.snoc h
    have HS2 : Hid (∀ (h : rootN 9 (joinP (joinL (fun i => i) (sOf pre)) s.1.a s.1.b) x = rootN 9 (joinP (joinL (fun i => i) (sOf pre)) s.1.a s.1.b) y), ∀ l2, lipF x y (fun i => i) (sOf (pre ++ [s]) ++ l2) = s.1.h) := fun h => HNO.out.hit h
    rw [← sOf_snoc] at JS
    rw [← JS] at kj gok' HS1 HS2
    clear JS HNO gok
    have FX := fun nn => (first_any Bj 0 (joinL (fun i => i) (sOf (pre ++ [s]))) (w'.drewN nn) gok'.le (nine_pool (kj.drewN nn)) x (by omega)).mono (R' := fun e w2 => e = .returned (.int .i64 (rootN 9 (joinL (fun i => i) (sOf (pre ++ [s]))) x)) ∧ w2 = w'.drewN nn) fun _ _ ⟨a, b⟩ => ⟨a, b.symm⟩
    have FY := fun nn => (first_any Bj 0 (joinL (fun i => i) (sOf (pre ++ [s]))) (w'.drewN nn) gok'.le (nine_pool (kj.drewN nn)) y (by omega)).mono (R' := fun e w2 => e = .returned (.int .i64 (rootN 9 (joinL (fun i => i) (sOf (pre ++ [s]))) y)) ∧ w2 = w'.drewN nn) fun _ _ ⟨a, b⟩ => ⟨a, b.symm⟩
    generalize rootN 9 (joinL (fun i => i) (sOf (pre ++ [s]))) x = rx at *
    generalize rootN 9 (joinL (fun i => i) (sOf (pre ++ [s]))) y = ry at *
    have e4 := k4.cell 0 rfl
    have e5 := k5.cell 0 rfl
    refine wpIn_region_drawn (by kernel_rfl) (by kernel_rfl) (by kernel_rfl) ?_
    repeat (go_big_quiet_step ((go_at_call 66; first | (with_reducible exact Calls.quiet_of_same (FX _)) | (with_reducible exact Calls.quiet_of_same (FY _)))))
    refine wpQuiet_nil ?_
    rintro _ ⟨nq, rfl⟩
    have hbd : Below w'.heap.size w' (w'.drewN nq) := below_drewN (Below.refl _ _) nq
    have KF2 : KeepsFrom W0.heap.size W1 (w'.drewN nq) := KF1.trans ⟨Nat.le_refl _, fun k o _ h _ => h⟩
    have KP2 := KP1.trans (KpB.of_below (outNone W0) Z2 hbd)
    have kj2 := kj.below hbd
    have k32 := k3.below hbd
    have k42 := k4.below hbd
    have k52 := k5.below hbd
    have kl2 := kl.below hbd
    have B3 := B2.trans (hbd.mono B2.size)
    have Z3 := Nat.le_trans Z2 hbd.size
    have x2 : (w'.drewN nq).cell? ⟨Bx, 2, none⟩ = some (.int .i64 s.1.h) := (bX2.below hbd).cell 2 rfl
    have el := kl2.cell 0 rfl
    have fl := kl2.frozen 0
    refine world_name fun W5 hW5 => ?_
    rw [← hW5] at KF2 KP2 kj2 k32 k42 k52 kl2 B3 Z3 x2 el fl
    clear hW5 hbd KF1 KP1 kj k3 k4 k5 kl B2 Z2 bX2 FX FY e4 e5
    by_cases hh : rx = ry
    · have d1 : ((rx : Int) == (ry : Int)) = true := by simp [hh]
      have HV := Lib.hid (HS2.out hh)
      clear hh HS1 HS2
      gi_wp2
      refine ⟨KF2.trans ((KeepsOthers.setCell _ _ _).from _), B3.setCell (p := ⟨Bj + 1, 0, none⟩) (by show w.heap.size ≤ Bj + 1; omega) _, ?_, s.1.h, kl2.set 0 _, HV.out⟩
      rfl
    · have d1 : ((rx : Int) == (ry : Int)) = false := by simp; omega
      have HV := Lib.hid (HS1.out hh)
      clear hh HS1 HS2
      gi_wp2
      exact ⟨KF2, KP2, B3, k32, k42, k52, kj2, kl2, HV.out, Z3⟩
  case done =>
    rintro D ys W5 hD hS hi hK
    have el := hi.kl.cell 0 rfl
    have HNO := Lib.hid (hi.no [])
    have hB5 := hi.b
    clear hi
    have HV : Hid (lipF x y (fun i => i) (sOf ys) = 0) := by
      have := HNO.out
      rw [List.append_nil] at this
      exact this
    rw [hF]
    go_wp2
    rw [Exit.noGoto_ret]
    refine ⟨by simp, .inl ⟨_, _, rfl, run_takeDeferred hK, ?_⟩⟩
    refine ⟨.tuple #[.int .i64 0, .int .i64 4], by simp [results, Try.f28, go_sem], ys, hS, by rw [HV.out, if_pos rfl], hB5.trans (belowK_b (w := w) (Nat.le_refl _) _ D _ _ (by omega) hK rfl rfl)⟩
  case stop =>
    rintro D c pre W5 hD hS ⟨hB5, rfl, v, kl, hv⟩ hK
    obtain ⟨xs, hxs, tl, htl⟩ := hS
    have HV : Hid (lipF x y (fun i => i) (sOf xs) = v) := by
      have := hv (sOf tl)
      rw [← htl]
      show lipF x y _ (List.map _ _) = v
      rw [List.map_append]
      exact this
    have el := kl.cell 0 rfl
    clear hv
    refine wpIn_wide.2 ?_
    rw [hF]
    by_cases h0 : v = 0
    · have d0 : (v == 0) = true := by simp [h0]
      have H0 := Lib.hid h0
      clear h0
      go_wp2
      rw [Exit.noGoto_ret]
      refine ⟨by simp, .inl ⟨_, _, rfl, run_takeDeferred hK, ?_⟩⟩
      refine ⟨.tuple #[.int .i64 0, .int .i64 4], by simp [results, Try.f28, go_sem], xs, hxs, by rw [HV.out, if_pos H0.out, H0.out], hB5.trans (belowK_b (w := w) (Nat.le_refl _) _ D _ _ (by omega) hK rfl rfl)⟩
    · have d0 : (v == 0) = false := by simp [h0]
      have H0 := Lib.hid h0
      clear h0
      go_wp2
      rw [Exit.noGoto_ret]
      refine ⟨by simp, .inl ⟨_, _, rfl, run_takeDeferred hK, ?_⟩⟩
      refine ⟨.tuple #[.int .i64 v, .int .i64 0], by simp [results, Try.f28, go_sem], xs, hxs, by rw [HV.out, if_neg H0.out], hB5.trans (belowK_b (w := w) (Nat.le_refl _) _ D _ _ (by omega) hK rfl rfl)⟩
end Go.Proofs.Ytjhididnmkbgoaa
