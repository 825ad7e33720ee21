import Derived.Test.YtjhididnmkbgoaaGp
set_option linter.unusedVariables false
set_option linter.unusedSimpArgs false
namespace Go.Proofs.Ytjhididnmkbgoaa
open Go.RowKit

set_option maxRecDepth 100000 in
set_option maxHeartbeats 1000000 in
theorem judges4_any (w : World) (va vf vs v0 vl : Value) (na nf ns n0 r : Nat) (la lf A B H l0 LA LB : Nat → Int) (lost : Int) (hA : RdI w va na la) (hF : RdI w vf nf lf) (hS : RdT w vs ns A B H) (h0 : RdI w v0 n0 l0) (hL : RdP w vl r LA LB) :
    Calls Try.prog 4 #[.agg #[va, vf, vs], .agg #[v0, vl, .int .i64 lost]] w fun e w' => e = .returned (.bool true) ∧ Below w.heap.size w w' := by
  obtain ⟨L, cl, rfl, ll, _⟩ := id hL
  go_enter Try.func4, Try.ntmps4
  go_upto_region 1 with (fail)
  refine wp_world fun W hW => ?_
  have hB : Below w.heap.size w W := by rw [hW]; exact ((Below.refl _ _).alloc (Nat.le_refl _) _).alloc (by simp) _
  have k2 : Blk W w.heap.size #[va, vf, vs] 25 := by rw [hW]; exact (Blk.new _ _ _).alloc _
  have k3 : Blk W (w.heap.size + 1) #[v0, .slice L r cl, .int .i64 lost] 44 := by rw [hW]; have := Blk.new (w.alloc (.cells #[va, vf, vs] 25)) #[v0, .slice L r cl, .int .i64 lost] 44; simp only [World.size_alloc] at this; exact this
  clear hW
  have c0 := k2.cell 0 rfl
  have c1 := k2.cell 1 rfl
  have c2 := k2.cell 2 rfl
  have T := tameb_any W va vf vs na nf ns la lf A B H (hA.below hB) (hF.below hB) (hS.below hB)
  go_upto_region 2 with (go_at_call 14; (with_reducible refine T.mono ?_); rintro e w1 ⟨ua, uf, us, n, m, area, floor, S, rfl, hM, hz, hb⟩; obtain ⟨A1, z1, rfl⟩ := own_len hM.a; obtain ⟨A2, z2, rfl⟩ := own_len hM.f; obtain ⟨A3, z3, rfl⟩ := own_len hM.s)
  refine wp_world fun W2 hW2 => ?_
  have hB1 := hB.trans (hb.mono hB.size)
  have hb2 : Below w1.heap.size w1 W2 := by rw [hW2]; exact (Below.refl _ _).alloc (Nat.le_refl _) _
  have k5 : Blk W2 w1.heap.size #[.slice A1 n z1, .slice A2 n z2, .slice A3 m z3] 27 := by rw [hW2]; exact Blk.new _ _ _
  have k3 := (k3.below hb).below hb2
  have hB := hB1.trans (hb2.mono hB1.size)
  have hM := hM.below hb2
  have HZ := Lib.hid hz
  clear hW2 hb2 hb hB1 c0 c1 c2 T k2 hz
  generalize w1.heap.size = B5 at *
  have n8 := hM.ok.n8
  have n1' := hM.ok.n1
  have r0 := k5.cell 0 rfl
  have r1 := k5.cell 1 rfl
  have r2 := k5.cell 2 rfl
  have GV := givenb_any W2 _ _ _ _ n m area floor S hM HZ.out
  go_upto_region 3 with (go_at_call 18; (with_reducible refine GV.mono ?_); rintro e w2 ⟨ga, gf, gs, rfl, hG, hb⟩; obtain ⟨G1, y1, rfl⟩ := own_len hG.a; obtain ⟨G2, y2, rfl⟩ := own_len hG.f; obtain ⟨G3, y3, rfl⟩ := own_len hG.s)
  refine wp_world fun W3 hW3 => ?_
  have hb3 : Below w2.heap.size w2 W3 := by rw [hW3]; exact (Below.refl _ _).alloc (Nat.le_refl _) _
  have k6 : Blk W3 w2.heap.size #[.slice G1 n y1, .slice G2 n y2, .slice G3 m y3] 25 := by rw [hW3]; exact Blk.new _ _ _
  have hb' := hb.trans (hb3.mono hb.size)
  have hB := hB.trans (hb'.mono hB.size)
  have hM := hM.below hb'
  have hG := hG.below hb3
  have k3 := k3.below hb'
  have k5 := k5.below hb'
  clear hW3 hb hb3 hb' r0 r1 r2 GV
  generalize w2.heap.size = B6 at *
  have r0 := k5.cell 0 rfl
  have s0 := k3.cell 0 rfl
  have am0 := fun k => amt_bd (len := n0) (l := l0) (most := 3000) (by omega) (by omega) k
  have PA := poured_any W3 v0 n0 l0 n 3000 (h0.below hB) (by omega) (by omega) (by omega)
  go_upto_region 4 with (go_at_call 15; (with_reducible refine PA.mono ?_); rintro e w4 ⟨p, rfl, hp, hb⟩)
  have hB := hB.trans (hb.mono hB.size)
  have hM := hM.below hb
  have hG := hG.below hb
  have k3 := k3.below hb
  have k5 := k5.below hb
  have k6 := k6.below hb
  clear hb r0 s0 PA
  obtain ⟨aq, haq⟩ : ∃ f, f = amt n0 l0 3000 := ⟨_, rfl⟩
  rw [← haq] at hp am0
  clear haq
  have r0 := k5.cell 0 rfl
  have r1 := k5.cell 1 rfl
  have r2 := k5.cell 2 rfl
  have hbs := hM.bs
  have RP := rpour_any w4 _ _ _ _ n m area floor aq S hM.ok hbs.a hbs.f hbs.s (hp.reads (by omega)) (fun i => by have := am0 i; omega)
  go_upto_region 5 with (go_at_call 16; (with_reducible refine RP.mono ?_); rintro e w5 ⟨ug, uv, st, cv, rfl, hE, hug, huv, hcv, hcb, hb⟩; obtain ⟨A4, z4, rfl⟩ := own_len hug; obtain ⟨A5, z5, rfl⟩ := own_len huv; replace hug : OwI w5 w4.heap.size (.slice A4 n z4) n (fun i => (st.rep i : Int)) := hug; replace huv : OwI w5 w4.heap.size (.slice A5 n z5) n cv := huv)
  refine wp_world fun W5 hW5 => ?_
  have hb5 : Below w5.heap.size w5 W5 := by rw [hW5]; exact (Below.refl _ _).alloc (Nat.le_refl _) _
  have k8 : Blk W5 w5.heap.size #[.slice A4 n z4, .slice A5 n z5, .int .i64 (st.vol n)] 32 := by rw [hW5]; exact Blk.new _ _ _
  have hb' := hb.trans (hb5.mono hb.size)
  have hB := hB.trans (hb'.mono hB.size)
  have hM := hM.below hb'
  have hG := hG.below hb'
  have k3 := k3.below hb'
  have k5 := k5.below hb'
  have k6 := k6.below hb'
  have hp := hp.below hb'
  have hug := hug.below hb5
  have huv := huv.below hb5
  have g0 : Slu.Good (mkBas n m area floor S) (st0 n aq) := st0_good hM.ok.ok (am := aq) (fun i => (am0 i).1)
  have gd : Slu.Good (mkBas n m area floor S) st := g0.star hM.ok.ok hE.1
  have hlsb : 0 ≤ st.vol n ∧ st.vol n ≤ 16000000 := by
    have h1 := tot_star hM.ok.ok g0 hE.1
    have h2 := st0_tot (B := mkBas n m area floor S) (am := aq) n8 (fun k => by have := am0 k; omega)
    have h3 := vol_le_tot gd (i := n) (Nat.le_refl _)
    have h4 := gd.iv.nonneg n
    have h2' : tot (mkBas n m area floor S) (st0 n aq) ≤ 16000000 := h2
    omega
  clear hW5 hb hb5 hb' r0 r1 r2 hbs RP
  generalize w5.heap.size = B8 at *
  -- the levels, told of the plain state
  obtain ⟨VA, hVA⟩ : ∃ f, f = lvA area floor st.rep st.vol n := ⟨_, rfl⟩
  obtain ⟨VB, hVB⟩ : ∃ f, f = lvB area floor st.rep st.vol n := ⟨_, rfl⟩
  have hVB1 : ∀ k, k < n → 1 ≤ VB k := fun k hk => by rw [hVB]; exact lvB_one hM.ok.rng _ _ _ _ hk
  have hVB2 : ∀ k, VB k ≤ 1000000 := fun k => by rw [hVB]; exact (lvB_bd hM.ok.rng _ _ _ _ n8).2
  have hVA2 : ∀ k, k < n → 0 ≤ VA k ∧ VA k ≤ 16080000 := fun k hk => by
    rw [hVA]
    refine lvA_bd hM.ok.rng _ _ _ _ n8 ?_
    have h1 := tot_star hM.ok.ok g0 hE.1
    have h2 := st0_tot (B := mkBas n m area floor S) (am := aq) n8 (fun k => by have := am0 k; omega)
    have h5 := gd.iv.le k
    have h3 := vol_le_tot gd (i := st.rep k) (by show st.rep k ≤ n; omega)
    have h4 := gd.iv.nonneg (st.rep k)
    have h2' : tot (mkBas n m area floor S) (st0 n aq) ≤ 16000000 := h2
    omega
  have LVS : ∀ W' (hb : Below W5.heap.size W5 W'), Calls Try.prog 20 #[.agg #[.slice A1 n z1, .slice A2 n z2, .slice A3 m z3], .agg #[.slice A4 n z4, .slice A5 n z5, .int .i64 (st.vol n)]] W' fun e w' => ∃ u, e = .returned u ∧ OwP w' W'.heap.size u n VA VB ∧ Below W'.heap.size W' w' := fun W' hb => by
    have hbs := (hM.below hb).bs
    refine (rlevels_any W' (.slice A1 n z1) (.slice A2 n z2) (.slice A3 m z3) (.slice A4 n z4) (.slice A5 n z5) (.int .i64 (st.vol n)) area floor cv st.rep n hbs.a hbs.f ((hug.reads (by omega)).below hb) ((huv.reads (by omega)).below hb) (by omega) hM.ok.rng (fun i => gd.iv.le i) hcb).mono ?_
    rintro e w' ⟨u, rfl, hu, hb'⟩
    refine ⟨u, rfl, ?_, hb'⟩
    rw [hVA, hVB]
    refine hu.congr fun i hi => lv_congr ?_
    have := gd.iv.le i
    exact hcv _ (by show st.rep i < n; omega) (gd.iv.idem i)
  -- AreLevels, told of them
  have ARL : ∀ W' (hb : Below W5.heap.size W5 W') u q (XA XB : Nat → Int) (x : Int) (hu : RdP W' u q XA XB), Calls Try.prog 22 #[.agg #[.slice G1 n y1, .slice G2 n y2, .slice G3 m y3], p, u, .int .i64 x] W' fun e w' => e = .returned (.tuple #[.bool (sameP q XA XB n VA VB && decide (st.vol n = x)), .int .i64 0]) ∧ Below W'.heap.size W' w' := fun W' hb u q XA XB x hu => by
    refine (areLevels22_any W' _ _ _ p u n m q area floor aq XA XB S x (hG.below hb).bs ((hp.reads (by omega)).below hb) (fun k => by have := am0 k; omega) hu).mono ?_
    rintro e w' ⟨st2, hE2, rfl, hb'⟩
    have hst : st2 = st := Slu.Ends.unique hM.ok.ok g0 hE2 hE
    subst hst
    rw [hVA, hVB]
    exact ⟨rfl, hb'⟩
  have SAM : ∀ W' u q XA XB u' (h1 : RdP W' u q XA XB) (h2 : RdP W' u' n VA VB), Calls Try.prog 19 #[u, u'] W' fun e w' => e = .returned (.bool (sameP q XA XB n VA VB)) ∧ Below W'.heap.size W' w' := fun W' u q XA XB u' h1 h2 => by
    refine (same_any W' u u' q n XA XB VA VB h1 h2).mono ?_
    rintro e w' ⟨rfl, j, rfl⟩
    exact ⟨rfl, below_drewN (Below.refl _ _) j⟩
  have HVA := Lib.hid hVA
  have HVB := Lib.hid hVB
  clear hVA hVB hug huv hcv hcb hE hM hG hp
  generalize st.vol n = ls at *
  have r0 := k5.cell 0 rfl
  have r1 := k5.cell 1 rfl
  have r2 := k5.cell 2 rfl
  have q0 := k8.cell 0 rfl
  have q1 := k8.cell 1 rfl
  have q2 := k8.cell 2 rfl
  go_upto_region 7 with (go_at_call 20; (with_reducible refine (LVS W5 (Below.refl _ _)).mono ?_); rintro e w6 ⟨u9, rfl, h9, hb6⟩)
  have k3 := k3.below hb6
  have hB6 := hB.trans (hb6.mono hB.size)
  have s1 := k3.cell 1 rfl
  have hLr := hL.below hB6
  clear r0 r1 r2 q0 q1 q2
  go_cut [10] from 37 to 45 (fun x wx => OwP wx w6.heap.size x (min r 9) LA LB ∧ Below w6.heap.size w6 wx)
  case first =>
    have hr := hLr.take (min (r : Int) 9).toNat (by omega)
    have hq : (min (r : Int) 9).toNat = min r 9 := by omega
    have HQ := Lib.hid hq
    clear hq
    go_wp2_with (at_builtin; (refine app_pairs0 rfl _ _ rfl w6.heap.size _ (min (r : Int) 9).toNat _ _ rfl rfl hr (Below.refl _ _) (by omega) (Nat.le_refl _) ?_); intro v1 w7 ho1 hb1 hg1)
    go_meet
    rw [HQ.out] at ho1
    exact ⟨ho1, hb1⟩
  case rest =>
    obtain ⟨h10, hb7⟩ := hcut
    obtain ⟨w7, hw7⟩ : ∃ x, x = wc := ⟨_, rfl⟩
    rw [← hw7] at h10 hb7 ⊢
    clear hw7
    have hb57 : Below W5.heap.size W5 w7 := hb6.trans (hb7.mono hb6.size)
    have hB7 := hB6.trans (hb7.mono hB6.size)
    have h9 := own_up hb7 h9
    have h9 : OwP w7 W5.heap.size u9 n VA VB := h9
    have k3 := k3.below hb7
    have k5 := (k5.below hb6).below hb7
    have k6 := (k6.below hb6).below hb7
    have k8 := (k8.below hb6).below hb7
    have r0 := k6.cell 0 rfl
    have r1 := k6.cell 1 rfl
    have r2 := k6.cell 2 rfl
    have s2 := k3.cell 2 rfl
    clear hb7 hLr s1 hL hB6 hB hb6 h0
    have A8 := ARL w7 hb57 u10 (min r 9) LA LB lost (h10.reads (by omega))
    generalize hbv : (sameP (min r 9) LA LB n VA VB && decide (ls = lost)) = bv at A8
    have HBV := Lib.hid hbv
    clear hbv
    go_upto_region 9 with (go_at_call 22; (with_reducible refine A8.mono ?_); rintro e w8 ⟨rfl, hb8⟩)
    have hb58 := hb57.trans (hb8.mono hb57.size)
    have hB8 := hB7.trans (hb8.mono hB7.size)
    have h9 : OwP w8 W5.heap.size u9 n VA VB := own_up hb8 h9
    have h10 : OwP w8 w6.heap.size u10 (min r 9) LA LB := own_up hb8 h10
    have k3 := k3.below hb8
    have k5 := k5.below hb8
    have k6 := k6.below hb8
    have k8 := k8.below hb8
    clear r0 r1 r2 s2 A8 hb57 hB7 hb8
    have s2 := k3.cell 2 rfl
    have q2 := k8.cell 2 rfl
    have S9 := SAM w8 u10 (min r 9) LA LB u9 (h10.reads (by omega)) (h9.reads (by omega))
    go_cut [70] from 55 to 70 (fun x wx => x = .bool false ∧ Below w8.heap.size w8 wx)
    case first =>
      by_cases hl : ls = lost
      · have e1 : (lost == ls) = true := by simp [hl]
        have hbv := HBV.out
        rw [decide_eq_true hl] at hbv
        clear HBV hl
        generalize sameP (min r 9) LA LB n VA VB = sm at *
        cases sm <;> simp only [Bool.true_and, Bool.false_and, Bool.and_true, Bool.and_false] at hbv
        · subst hbv
          go_wp2_with (go_at_call 19; (with_reducible refine S9.mono ?_); rintro e w9 ⟨rfl, hb9⟩; have s2 := cell_up hb9 s2; have q2 := cell_up hb9 q2)
          go_meet
          exact ⟨rfl, hb9⟩
        · subst hbv
          go_wp2_with (go_at_call 19; (with_reducible refine S9.mono ?_); rintro e w9 ⟨rfl, hb9⟩; have s2 := cell_up hb9 s2; have q2 := cell_up hb9 q2)
          go_meet
          exact ⟨rfl, hb9⟩
      · have e1 : (lost == ls) = false := by simp; omega
        have hbv := HBV.out
        rw [decide_eq_false hl] at hbv
        clear HBV hl
        generalize sameP (min r 9) LA LB n VA VB = sm at *
        cases sm <;> simp only [Bool.true_and, Bool.false_and, Bool.and_true, Bool.and_false] at hbv
        · subst hbv
          go_wp2_with (go_at_call 19; (with_reducible refine S9.mono ?_); rintro e w9 ⟨rfl, hb9⟩; have s2 := cell_up hb9 s2; have q2 := cell_up hb9 q2)
          go_meet
          exact ⟨rfl, hb9⟩
        · subst hbv
          go_wp2_with (go_at_call 19; (with_reducible refine S9.mono ?_); rintro e w9 ⟨rfl, hb9⟩; have s2 := cell_up hb9 s2; have q2 := cell_up hb9 q2)
          go_meet
          exact ⟨rfl, hb9⟩
    case rest =>
      obtain ⟨rfl, hb9⟩ := hcut
      obtain ⟨w9, hw9⟩ : ∃ x, x = wc := ⟨_, rfl⟩
      rw [← hw9] at hb9 ⊢
      clear hw9
      have hb59 := hb58.trans (hb9.mono hb58.size)
      have hB9 := hB8.trans (hb9.mono hB8.size)
      have h9 : OwP w9 W5.heap.size u9 n VA VB := own_up hb9 h9
      have k3 := k3.below hb9
      have k5 := k5.below hb9
      have k6 := k6.below hb9
      have k8 := k8.below hb9
      clear s2 q2 S9 hb58 hB8 hb9 h10 SAM
      have r0 := k6.cell 0 rfl
      have r1 := k6.cell 1 rfl
      have r2 := k6.cell 2 rfl
      have q2 := k8.cell 2 rfl
      have A11 := ARL w9 hb59 u9 n VA VB ls (h9.reads (by omega))
      rw [show (sameP n VA VB n VA VB && decide (ls = ls)) = true from by rw [sameP_true (fun _ _ => ⟨rfl, rfl⟩)]; simp] at A11
      go_upto_region 12 with (go_at_call 22; (with_reducible refine A11.mono ?_); rintro e w10 ⟨rfl, hb10⟩)
      have hb510 := hb59.trans (hb10.mono hb59.size)
      have hB10 := hB9.trans (hb10.mono hB9.size)
      have h9 : OwP w10 W5.heap.size u9 n VA VB := own_up hb10 h9
      have k3 := k3.below hb10
      have k5 := k5.below hb10
      have k6 := k6.below hb10
      have k8 := k8.below hb10
      clear r0 r1 r2 q2 A11 hb59 hB9 hb10
      have r0 := k6.cell 0 rfl
      have r1 := k6.cell 1 rfl
      have r2 := k6.cell 2 rfl
      have q2 := k8.cell 2 rfl
      have hls1 : IntKind.i64.wrap (ls + 1) = ls + 1 := IntWalk.i64_in _ (by omega)
      have A12 := ARL w10 hb510 u9 n VA VB (ls + 1) (h9.reads (by omega))
      rw [show (sameP n VA VB n VA VB && decide (ls = ls + 1)) = false from by rw [decide_eq_false (by omega)]; simp] at A12
      go_upto_region 13 with (go_at_call 22; (with_reducible refine A12.mono ?_); rintro e w11 ⟨rfl, hb11⟩)
      have hb511 := hb510.trans (hb11.mono hb510.size)
      have hB11 := hB10.trans (hb11.mono hB10.size)
      have k3 := k3.below hb11
      have k5 := k5.below hb11
      have k6 := k6.below hb11
      have k8 := k8.below hb11
      clear r0 r1 r2 q2 A12 hb510 hB10 hb11 hls1 h9
      have r0 := k5.cell 0 rfl
      have r1 := k5.cell 1 rfl
      have r2 := k5.cell 2 rfl
      have q0 := k8.cell 0 rfl
      have q1 := k8.cell 1 rfl
      have q2 := k8.cell 2 rfl
      go_upto_region 14 with (go_at_call 20; (with_reducible refine (LVS w11 hb511).mono ?_); rintro e w12 ⟨u17, rfl, h17, hb12⟩)
      have k3' := k3.below hb12
      clear r0 r1 r2 q0 q1 q2
      have s2 := k3'.cell 2 rfl
      obtain ⟨g, cap, rfl⟩ := h17.form n1'
      obtain ⟨kk, hkk, hkn⟩ : ∃ kk : Nat, (IntKind.u64.wrap lost).tmod (n : Int) = kk ∧ kk < n := by
        have h := tmod_range (IntKind.u64.wrap lost) (n : Int) (u64_range _).1 (by omega)
        exact ⟨((IntKind.u64.wrap lost).tmod (n : Int)).toNat, by omega, by omega⟩
      have hwn : IntKind.u64.wrap (n : Int) = n := by rw [IntKind.wrap_u64]; omega
      have hkw : wrap64 ((IntKind.u64.wrap lost).tmod (n : Int)) = (IntKind.u64.wrap lost).tmod (n : Int) := by rw [hkk]; unfold wrap64; omega
      have hn0 : ((n : Int) == 0) = false := by simp; omega
      have hn0' : (n : Int) ≠ 0 := by omega
      go_upto_region 15 with (fail)
      try rw [hkk]
      have HKK := Lib.hid hkk
      clear hkk hwn hkw hn0
      obtain ⟨_, _, e17, _, c17⟩ := h17.reads (by omega)
      cases e17
      obtain ⟨_, _, e, d1, d2⟩ := c17 kk hkn
      cases e
      rw [Nat.zero_add] at d1 d2
      have f1 := own_frozen h17 (kk * 2)
      have f2 := own_frozen h17 (kk * 2 + 1)
      have i0 : (0 : Int) ≤ (kk : Int) := Int.natCast_nonneg _
      have i1 : (kk : Int) < (n : Int) := by omega
      have hva := hVA2 kk hkn
      have hvb := hVB1 kk hkn
      have hvb2 := hVB2 kk
      have hwv : IntKind.i64.wrap (VA kk + VB kk) = VA kk + VB kk := IntWalk.i64_in _ (by omega)
      have hg := (World.ownsRow.lt h17 g rfl).1
      clear c17 s2
      refine wp_region_still_tail 20 (by kernel_rfl) (by kernel_rfl) ?_
      simp only [List.take_succ_cons, List.take_zero, List.drop_succ_cons, List.drop_zero]
      repeat still_step
      refine wpStill_nil ?_
      change wpList _ _ _ _ _ w12.drew
      go_upto_region 16 with (fail)
      refine wp_world fun W13 hW13 => ?_
      have hd12 : Below w11.heap.size w11 w12.drew := hb12.drew
      have hb1113 : Below w11.heap.size w11 W13 := by rw [hW13]; exact (hd12.setCell (p := ⟨g, kk * 2, none⟩) hg _).setCell (p := ⟨g, kk * 2 + 1, none⟩) hg _
      have hr13 : RdP W13 (.slice (some ⟨g, 0, none⟩) n cap) n (fun i => if i = kk then VA kk + VB kk else VA i) (fun i => if i = kk then VB kk else VB i) := by
        rw [hW13]
        exact ((h17.reads (by omega)).below ((Below.refl _ w12).drew)).put kk hkn _ _
      clear hW13
      have hb513 := hb511.trans (hb1113.mono hb511.size)
      have hB13 := hB11.trans (hb1113.mono hB11.size)
      have k6 := k6.below hb1113
      have k8 := k8.below hb1113
      have r0 := k6.cell 0 rfl
      have r1 := k6.cell 1 rfl
      have r2 := k6.cell 2 rfl
      have q2 := k8.cell 2 rfl
      have A16 := ARL W13 hb513 (.slice (some ⟨g, 0, none⟩) n cap) n _ _ ls hr13
      rw [sameP_false hkn (fun h => by have := h.1; rw [if_pos rfl] at this; omega), Bool.false_and] at A16
      clear d1 d2 f1 f2 hd12 hr13
      go_upto_region 17 with (go_at_call 22; (with_reducible refine A16.mono ?_); rintro e w14 ⟨rfl, hb14⟩)
      have hB14 := hB13.trans (hb14.mono hB13.size)
      clear r0 r1 r2 q2 A16
      go_wp2_with (go_at_call 21; (with_reducible refine (awake21_any _).mono ?_); rintro e w15 ⟨rfl, hb15⟩)
      go_ret
      exact ⟨rfl, hB14.trans (hb15.mono hB14.size)⟩
end Go.Proofs.Ytjhididnmkbgoaa
