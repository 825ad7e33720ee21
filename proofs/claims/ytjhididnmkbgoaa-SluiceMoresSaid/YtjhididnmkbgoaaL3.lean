import Derived.Test.YtjhididnmkbgoaaLa
set_option linter.unusedVariables false
set_option linter.unusedSimpArgs false
namespace Go.Proofs.Ytjhididnmkbgoaa
open Go.RowKit

set_option maxRecDepth 100000 in
set_option maxHeartbeats 1000000 in
theorem mores3_any (w : World) (va vf vs v0 v1 : Value) (na nf ns n0 n1 : Nat) (la lf A B H l0 l1 : Nat → Int) (most : Int) (hA : RdI w va na la) (hF : RdI w vf nf lf) (hS : RdT w vs ns A B H) (h0 : RdI w v0 n0 l0) (h1 : RdI w v1 n1 l1) :
    Calls Try.prog 3 #[.agg #[va, vf, vs], .agg #[v0, v1], .int .i64 most] w fun e w' => e = .returned (.bool true) ∧ Below w.heap.size w w' := by
  have hinfo : (Try.prog.info? 3).map (fun i => (i.zero, i.size, i.bytes)) = some (some (.int .i64 0), 1, 8) := by kernel_rfl
  obtain ⟨inf, hi0, hz0, hz1, hz2⟩ := info_parts hinfo
  go_enter Try.func3, Try.ntmps3
  go_upto_region 1 with (fail)
  refine wp_world fun W hW => ?_
  have hB : Below w.heap.size w W := by rw [hW]; exact ((Below.refl _ _).alloc (Nat.le_refl _) _).alloc (by simp) _
  have k3 : Blk W w.heap.size #[va, vf, vs] 25 := by rw [hW]; exact (Blk.new _ _ _).alloc _
  have k4 : Blk W (w.heap.size + 1) #[v0, v1] 26 := by rw [hW]; have := Blk.new (w.alloc (.cells #[va, vf, vs] 25)) #[v0, v1] 26; simp only [World.size_alloc] at this; exact this
  clear hW
  have c0 := k3.cell 0 rfl
  have c1 := k3.cell 1 rfl
  have c2 := k3.cell 2 rfl
  have T := tameb_any W va vf vs na nf ns la lf A B H (hA.below hB) (hF.below hB) (hS.below hB)
  go_upto_region 2 with (go_at_call 14; (with_reducible refine T.mono ?_); rintro e w1 ⟨ua, uf, us, n, m, area, floor, S, rfl, hM, hz, hb⟩; obtain ⟨A1, z1, rfl⟩ := own_len hM.a; obtain ⟨A2, z2, rfl⟩ := own_len hM.f; obtain ⟨A3, z3, rfl⟩ := own_len hM.s)
  refine wp_world fun W2 hW2 => ?_
  have hB1 := hB.trans (hb.mono hB.size)
  have hb2 : Below w1.heap.size w1 W2 := by rw [hW2]; exact (Below.refl _ _).alloc (Nat.le_refl _) _
  have k7 : Blk W2 w1.heap.size #[.slice A1 n z1, .slice A2 n z2, .slice A3 m z3] 27 := by rw [hW2]; exact Blk.new _ _ _
  have k4 := (k4.below hb).below hb2
  have hB := hB1.trans (hb2.mono hB1.size)
  have hM := hM.below hb2
  have HZ := Lib.hid hz
  clear hW2 hb2 hb hB1 c0 c1 c2 T k3 hz
  generalize w1.heap.size = B7 at *
  have n8 := hM.ok.n8
  have n1' := hM.ok.n1
  obtain ⟨mo, hmo⟩ : ∃ x, x = 1 + (IntKind.u64.wrap most).tmod 1000000 := ⟨_, rfl⟩
  have hmo1 : 1 ≤ mo ∧ mo ≤ 1000000 := by
    have h := tmod_range (IntKind.u64.wrap most) 1000000 (u64_range _).1 (by omega)
    omega
  have hmw : wrap64 ((IntKind.u64.wrap most).tmod 1000000) = (IntKind.u64.wrap most).tmod 1000000 := by
    have h := tmod_range (IntKind.u64.wrap most) 1000000 (u64_range _).1 (by omega)
    exact wrap64_id _ (by omega) (by omega)
  have hmx : IntKind.i64.wrap (1 + (IntKind.u64.wrap most).tmod 1000000) = 1 + (IntKind.u64.wrap most).tmod 1000000 := IntWalk.i64_in _ (by omega)
  go_upto_region 3 with (fail)
  rw [← hmo]
  clear hmo hmw hmx
  have am0 := fun k => amt_bd (len := n0) (l := l0) (most := mo) (by omega) (by omega) k
  have am1 := fun k => amt_bd (len := n1) (l := l1) (most := mo) (by omega) (by omega) k
  have b0 := h0.below hB
  have b1 := h1.below hB
  have e0 := k4.cell 0 rfl
  have e1 := k4.cell 1 rfl
  have e2 := k7.cell 0 rfl
  go_cut [9, 10] from 24 to 37 (fun x y wx => OwI wx W2.heap.size x n (amt n0 l0 mo) ∧ OwI wx W2.heap.size y n (amt n1 l1 mo) ∧ Below W2.heap.size W2 wx)
  case first =>
    have P0 := fun W' (hb : Below W2.heap.size W2 W') => poured_any W' v0 n0 l0 n mo (b0.below hb) (by omega) (by omega) (by omega)
    have P1 := fun W' (hb : Below W2.heap.size W2 W') => poured_any W' v1 n1 l1 n mo (b1.below hb) (by omega) (by omega) (by omega)
    have D0 := (Below.refl W2.heap.size W2).drew
    go_region_held3 (fun w' => w'.cell? ⟨w.heap.size + 1, 0, none⟩ = some v0 ∧ w'.cell? ⟨w.heap.size + 1, 1, none⟩ = some v1 ∧ w'.cell? ⟨B7, 0, none⟩ = some (.slice A1 n z1))
      (go_keep)
      (first
      | (go_at_call 15; (with_reducible refine (P1 w4 hb4).mono ?_); rintro e w6 ⟨q, rfl, hq, hb6⟩; have hp := hp.below hb6; have y0 := cell_up hb6 x0; have y1 := cell_up hb6 x1; have y2 := cell_up hb6 x2; have hb6 := hb4.trans (hb6.mono hb4.size); clear x0 x1 x2)
      | (go_at_call 15; (with_reducible refine (P0 w5 hb5).mono ?_); rintro e w6 ⟨p, rfl, hp, hb6⟩; have hq := hq.below hb6; have y0 := cell_up hb6 x0; have y1 := cell_up hb6 x1; have y2 := cell_up hb6 x2; have hb6 := hb5.trans (hb6.mono hb5.size); clear x0 x1 x2)
      | (go_at_call 15; (with_reducible refine (P0 W2.drew D0).mono ?_); rintro e w4 ⟨p, rfl, hp, hb4⟩; have hb4 : Below W2.heap.size W2 w4 := undrew hb4; have x0 := cell_up hb4 e0; have x1 := cell_up hb4 e1; have x2 := cell_up hb4 e2; clear e0 e1 e2)
      | (go_at_call 15; (with_reducible refine (P1 W2.drew D0).mono ?_); rintro e w5 ⟨q, rfl, hq, hb5⟩; have hb5 : Below W2.heap.size W2 w5 := undrew hb5; have x0 := cell_up hb5 e0; have x1 := cell_up hb5 e1; have x2 := cell_up hb5 e2; clear e0 e1 e2))
    all_goals
      go_wp2_with fail
      go_meet
      first | exact ⟨hp, hq.mono hb4.size, hb6⟩ | exact ⟨hp.mono hb5.size, hq, hb6⟩
  case rest =>
    obtain ⟨hp, hq, hb6⟩ := hcut
    obtain ⟨wo, hwo⟩ : ∃ x, x = wc := ⟨_, rfl⟩
    rw [← hwo] at hp hq hb6 ⊢
    clear hwo
    obtain ⟨P1, y1, rfl⟩ := own_len hp
    obtain ⟨P2, y2, rfl⟩ := own_len hq
    obtain ⟨_, _, ep, _, rp⟩ := hp.reads (by omega)
    cases ep
    obtain ⟨_, _, eq, _, rq⟩ := hq.reads (by omega)
    cases eq
    have RP := Lib.hid rp
    have RQ := Lib.hid rq
    have hBo := hB.trans (hb6.mono hB.size)
    have hM := hM.below hb6
    have k7 := k7.below hb6
    obtain ⟨aq, haq⟩ : ∃ f, f = fun k => amt n0 l0 mo k + amt n1 l1 mo k := ⟨_, rfl⟩
    have HAQ := Lib.hid haq
    have hsz0 : w.heap.size ≤ wo.heap.size := hBo.size
    clear rp rq haq hB hb6 k4 e0 e1 e2 b0 b1 h0 h1 hA hF hS
    go_wp2
    go_loopg [11, 12] n (fun gk v x wr => ∃ k : Nat, k ≤ n ∧ gk = n - k ∧ x = .int .i64 k ∧ OwI wr wo.heap.size v k aq ∧ Below wo.heap.size wo wr)
    case atStart => exact ⟨0, by omega, rfl, rfl, OwI.nil _ _ _, Below.refl _ _⟩
    case round =>
      obtain ⟨k, hk, hgk, rfl, ho, hbw⟩ := hrel
      have HGK := Lib.hid hgk
      clear hgk
      by_cases hlt : k < n
      · obtain ⟨g1, o1, rfl, c1⟩ := RP.out k hlt
        obtain ⟨g2, o2, rfl, c2⟩ := RQ.out k hlt
        have ne1 : some g1 ≠ u11.ownBlock := fun e => by have := (World.ownsRow.lt ho _ e.symm).1; have h3 : g1 < wo.heap.size := World.block_lt_of_cell? wo _ c1; omega
        have ne2 : some g2 ≠ u11.ownBlock := fun e => by have := (World.ownsRow.lt ho _ e.symm).1; have h3 : g2 < wo.heap.size := World.block_lt_of_cell? wo _ c2; omega
        have h63 : k + 1 ≤ maxLen := by unfold maxLen; omega
        have h16 : (k + 1) * 8 ≤ 140737488355328 := by omega
        have hone : ∀ y : Int, ∀ u ∈ [Value.int .i64 y], u.oneCell' = true := fun y => by simp [Value.oneCell']
        have c1 := cell_up hbw c1
        have c2 := cell_up hbw c2
        have i0 : (0 : Int) ≤ (k : Int) := Int.natCast_nonneg _
        have i1 : (k : Int) < (n : Int) := by omega
        have hwr : IntKind.i64.wrap (amt n0 l0 mo k + amt n1 l1 mo k) = amt n0 l0 mo k + amt n1 l1 mo k := IntWalk.i64_in _ (by have := am0 k; have := am1 k; omega)
        have HQ : Hid (amt n0 l0 mo k + amt n1 l1 mo k = aq k) := by show _ = _; rw [HAQ.out]
        have HO := Lib.hid ho
        have HBW := Lib.hid hbw
        generalize amt n0 l0 mo k = x0 at *
        generalize amt n1 l1 mo k = x1 at *
        clear ho hbw
        go_upto_region 8 with (fail)
        have hsw : wo.heap.size ≤ wr.heap.size := HBW.out.size
        have ho' : World.ownsRow (wr.alloc (.cells #[.int .i64 (x0 + x1)] 3)).drew wo.heap.size 3 1 u11 k ((List.range k).map fun k => .int .i64 (aq k)) := World.ownsRow.alloc HO.out _
        go_region_held3 (fun w' => w'.cell? ⟨g1, o1 + k, none⟩ = some (.int .i64 x0) ∧ w'.cell? ⟨g2, o2 + k, none⟩ = some (.int .i64 x1))
          (go_keep)
          (first | ((refine step_append_lies _ (by rfl) _ _ _ (by rfl) wo.heap.size 3 inf _ 1 8 Try.underlying22 hi0 hz0 hz1 hz2 rfl (by decide) u11 k _ (by rfl) ho' ⟨wr.heap.size, 0, none⟩ 1 1 [.int .i64 (x0 + x1)] (by rfl) (by rfl) (World.news_of_block (t := 3) (fr := (0, 0)) (heap_new wr _)) (hone _) (by decide) h63 h16 (size_up hsw _) (wr.heap.size + 1) (World.size_alloc _ _) ?_); intro gg cap w5 hown1 hgrow hat hlt1; have hgrow2 : (wr.alloc (.cells #[.int .i64 (x0 + x1)] 3)).grownBy w5 u11.ownBlock := ⟨hgrow.os, hgrow.tape, hgrow.output, hgrow.size, hgrow.block⟩; have z1 := grown_cell hgrow2 c1 ne1; have z2 := grown_cell hgrow2 c2 ne2; clear c1 c2 hgrow))
        go_wp2
        have hB8 := (HBW.out.alloc hsw (.cells #[.int .i64 (x0 + x1)] 3)).grown hgrow2 (size_up hsw _) (own_base HO.out)
        go_roundg (n - (k + 1))
        case measure => have := HGK.out; omega
        case rel =>
          refine ⟨k + 1, by omega, rfl, by go_num, ?_, hB8⟩
          unfold OwI
          rw [List.range_succ, List.map_append, List.map_cons, List.map_nil, ← HQ.out]
          exact hown1
      · obtain rfl : k = n := by omega
        obtain ⟨P3, y3, rfl⟩ := own_len ho
        have hMr := ho.reads (by omega)
        have hBr := hBo.trans (hbw.mono hsz0)
        have hM := hM.below hbw
        have k7 := k7.below hbw
        have hp := hp.below hbw
        have hq := hq.below hbw
        have hsr : w.heap.size ≤ wr.heap.size := hBr.size
        obtain ⟨w3, hw3⟩ : ∃ x, x = wr := ⟨_, rfl⟩
        rw [← hw3] at hMr hBr hM k7 hp hq hsr ⊢
        clear hw3 ho hbw hBo
        have r0 := k7.cell 0 rfl
        have r1 := k7.cell 1 rfl
        have r2 := k7.cell 2 rfl
        have hbs := hM.bs
        have RP := rpour_any w3 _ _ _ _ k m area floor aq S hM.ok hbs.a hbs.f hbs.s hMr (fun i => by rw [HAQ.out]; have := am0 i; have := am1 i; show 0 ≤ amt n0 l0 mo i + amt n1 l1 mo i ∧ amt n0 l0 mo i + amt n1 l1 mo i ≤ 2000000; omega)
        go_upto_region 10 with (go_at_call 16; (with_reducible refine RP.mono ?_); rintro e w4 ⟨ug, uv, st, cv, rfl, hE, hug, huv, hcv, hcb, hb⟩; obtain ⟨A4, z4, rfl⟩ := own_len hug; obtain ⟨A5, z5, rfl⟩ := own_len huv; replace hug : OwI w4 w3.heap.size (.slice A4 k z4) k (fun i => (st.rep i : Int)) := hug; replace huv : OwI w4 w3.heap.size (.slice A5 k z5) k cv := huv)
        refine wp_world fun W5 hW5 => ?_
        have hb5 : Below w4.heap.size w4 W5 := by rw [hW5]; exact (Below.refl _ _).alloc (Nat.le_refl _) _
        have k13 : Blk W5 w4.heap.size #[.slice A4 k z4, .slice A5 k z5, .int .i64 (st.vol k)] 32 := by rw [hW5]; exact Blk.new _ _ _
        have hb' := hb.trans (hb5.mono hb.size)
        have hB := hBr.trans (hb'.mono hBr.size)
        have hM := hM.below hb'
        have k7 := k7.below hb'
        have hp := hp.below hb'
        have hq := hq.below hb'
        have hug := hug.below hb5
        have huv := huv.below hb5
        have gd : Slu.Good (mkBas k m area floor S) st := (st0_good hM.ok.ok (am := aq) (fun i => by rw [HAQ.out]; have := am0 i; have := am1 i; show 0 ≤ amt n0 l0 mo i + amt n1 l1 mo i; omega)).star hM.ok.ok hE.1
        clear hW5 hb hb5 hb' hBr r0 r1 r2 hbs RP hMr
        generalize w4.heap.size = B13 at *
        have r0 := k7.cell 0 rfl
        have r1 := k7.cell 1 rfl
        have r2 := k7.cell 2 rfl
        have GV := givenb_any W5 _ _ _ _ k m area floor S hM HZ.out
        have MC := fun W' (hb : Below W5.heap.size W5 W') ga gf gs (hG : Bs W' ga gf gs k m area floor S) => more17_any W' ga gf gs (.slice P1 k y1) (.slice P2 k y2) k m area floor (amt n0 l0 mo) (amt n1 l1 mo) S hG ((hp.reads (by omega)).below hb) ((hq.reads (by omega)).below hb) (fun i => by have := am0 i; omega) (fun i => by have := am1 i; omega)
        go_upto_region 11 with (first
          | (go_at_call 18; (with_reducible refine GV.mono ?_); rintro e w6 ⟨ga, gf, gs, rfl, hG, hb6⟩)
          | (go_at_call 17; (with_reducible refine (MC w6 hb6 ga gf gs hG.bs).mono ?_); rintro e w7 ⟨u, st2, rfl, hE2, hu, hb7⟩))
        have hst : st2 = st := by
          rw [HAQ.out] at hE
          exact Slu.Ends.unique hM.ok.ok (st0_good hM.ok.ok (am := fun i => amt n0 l0 mo i + amt n1 l1 mo i) (fun i => by have := am0 i; have := am1 i; omega)) hE2 hE
        subst hst
        have hb' := hb6.trans (hb7.mono hb6.size)
        have hB := hB.trans (hb'.mono hB.size)
        have hM := hM.below hb'
        have k7 := k7.below hb'
        have k13 := k13.below hb'
        have hug := hug.below hb'
        have huv := huv.below hb'
        clear hb6 hb7 hb' r0 r1 r2 GV MC hG hp hq hE2
        have r0 := k7.cell 0 rfl
        have r1 := k7.cell 1 rfl
        have r2 := k7.cell 2 rfl
        have q0 := k13.cell 0 rfl
        have q1 := k13.cell 1 rfl
        have q2 := k13.cell 2 rfl
        have hbs := hM.bs
        have LV := rlevels_any w7 (.slice A1 k z1) (.slice A2 k z2) (.slice A3 m z3) (.slice A4 k z4) (.slice A5 k z5) (.int .i64 (st2.vol k)) area floor cv st2.rep k hbs.a hbs.f (hug.reads (by omega)) (huv.reads (by omega)) (by omega) hM.ok.rng (fun i => gd.iv.le i) hcb
        have SM : ∀ W' u2 (hb : Below w7.heap.size w7 W') (h2 : OwP W' w7.heap.size u2 k (lvA area floor st2.rep cv k) (lvB area floor st2.rep cv k)), Calls Try.prog 19 #[u, u2] W' fun e w' => e = .returned (.bool true) ∧ Below W'.heap.size W' w' := fun W' u2 hb h2 => by
          refine (same_any W' u u2 k k _ _ _ _ ((hu.reads (by omega)).below hb) (h2.reads (by omega))).mono ?_
          rintro e w' ⟨rfl, q, rfl⟩
          have : sameP k (lvA area floor st2.rep st2.vol k) (lvB area floor st2.rep st2.vol k) k (lvA area floor st2.rep cv k) (lvB area floor st2.rep cv k) = true := by
            unfold sameP
            refine decide_eq_true ⟨rfl, fun i hi => lv_congr ?_⟩
            have := gd.iv.le i
            exact (hcv _ (by show st2.rep i < k; omega) (gd.iv.idem i)).symm
          rw [this]
          exact ⟨rfl, below_drewN (Below.refl _ _) q⟩
        have hE0 := Lib.hid hE
        generalize hls : st2.vol k = ls at *
        have hlb : (ls == ls) = true := by simp
        clear hls hE
        go_wp2_with (first
          | (go_at_call 20; (with_reducible refine LV.mono ?_); rintro e w8 ⟨u2, rfl, h2, hb8⟩; have q2 := cell_up hb8 q2)
          | (go_at_call 19; (with_reducible refine (SM w8 u2 hb8 h2).mono ?_); rintro e w9 ⟨rfl, hb9⟩; have q2 := cell_up hb9 q2)
          | (go_at_call 21; (with_reducible refine (awake21_any _).mono ?_); rintro e w10 ⟨rfl, hb10⟩))
        go_ret
        exact ⟨rfl, hB.trans ((hb8.trans ((hb9.trans (hb10.mono hb9.size)).mono hb8.size)).mono hB.size)⟩
end Go.Proofs.Ytjhididnmkbgoaa
