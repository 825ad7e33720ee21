import Derived.Test.YtjhididnmkbgoaaWv
set_option linter.unusedVariables false
set_option linter.unusedSimpArgs false
namespace Go.Proofs.Ytjhididnmkbgoaa
open Go.RowKit

theorem stA_pos {area floor LA LB : Nat → Int} {k : Nat} (ha : 1 ≤ area k) (hb : 1 ≤ LB k) (h : 0 ≤ LA k - floor k * LB k) : 0 < LA k - floor k * LB k ↔ 0 < stA area floor LA LB k := by
  unfold stA stN
  generalize LA k - floor k * LB k = D at *
  generalize LB k = y at *
  generalize area k = a at *
  rcases Int.lt_or_eq_of_le h with hp | h0
  · refine ⟨fun _ => ?_, fun _ => hp⟩
    have hN : 0 < a * D := Int.mul_pos (by omega) hp
    generalize a * D = N at *
    have hg : 0 < Int.gcd N y := Int.gcd_pos_of_ne_zero_right _ (by omega)
    obtain ⟨c, hc⟩ : (Int.gcd N y : Int) ∣ N := Int.gcd_dvd_left ..
    generalize Int.gcd N y = q at *
    rw [Int.ediv_eq_of_eq_mul_right (by omega) hc]
    rcases Int.lt_or_le 0 c with h | h
    · exact h
    · have := Int.mul_nonpos_of_nonneg_of_nonpos (show 0 ≤ (q : Int) by omega) h
      omega
  · subst h0
    simp

theorem sameI_list {l l' : List Nat} (h : l = l') : sameI l.length (fun i => ((l[i]! : Nat) : Int)) l'.length (fun i => ((l'[i]! : Nat) : Int)) = true := by
  subst h
  unfold sameI
  exact decide_eq_true ⟨rfl, fun _ _ => rfl⟩

set_option maxRecDepth 100000 in
set_option maxHeartbeats 1000000 in
theorem wets5_any (w : World) (va vf vs : Value) (na nf ns : Nat) (la lf A B H : Nat → Int) (g0 x0 : Int) (hA : RdI w va na la) (hF : RdI w vf nf lf) (hS : RdT w vs ns A B H) :
    Calls Try.prog 5 #[.agg #[va, vf, vs], .int .i64 g0, .int .i64 x0] w fun e w' => e = .returned (.bool true) ∧ Below w.heap.size w w' := by
  go_enter Try.func5, Try.ntmps5
  go_upto_region 1 with (fail)
  refine wp_world fun W hW => ?_
  have hB : Below w.heap.size w W := by rw [hW]; exact (Below.refl _ _).alloc (Nat.le_refl _) _
  have k2 : Blk W w.heap.size #[va, vf, vs] 25 := by rw [hW]; exact Blk.new _ _ _
  clear hW
  have c0 := k2.cell 0 rfl
  have c1 := k2.cell 1 rfl
  have c2 := k2.cell 2 rfl
  have T := tameb_any W va vf vs na nf ns la lf A B H (hA.below hB) (hF.below hB) (hS.below hB)
  go_upto_region 2 with (go_at_call 14; (with_reducible refine T.mono ?_); rintro e w1 ⟨ua, uf, us, n, m, area, floor, S, rfl, hM, hz, hb⟩; obtain ⟨A1, z1, rfl⟩ := own_len hM.a; obtain ⟨A2, z2, rfl⟩ := own_len hM.f; obtain ⟨A3, z3, rfl⟩ := own_len hM.s)
  refine wp_world fun W2 hW2 => ?_
  have hB1 := hB.trans (hb.mono hB.size)
  have hb2 : Below w1.heap.size w1 W2 := by rw [hW2]; exact (Below.refl _ _).alloc (Nat.le_refl _) _
  have k5 : Blk W2 w1.heap.size #[.slice A1 n z1, .slice A2 n z2, .slice A3 m z3] 27 := by rw [hW2]; exact Blk.new _ _ _
  have hB := hB1.trans (hb2.mono hB1.size)
  have hM := hM.below hb2
  have HZ := Lib.hid hz
  clear hW2 hb2 hb hB1 c0 c1 c2 T k2 hz
  generalize w1.heap.size = B5 at *
  have n8 := hM.ok.n8
  have n1' := hM.ok.n1
  have r0 := k5.cell 0 rfl
  have r1 := k5.cell 1 rfl
  have r2 := k5.cell 2 rfl
  have GV := givenb_any W2 _ _ _ _ n m area floor S hM HZ.out
  go_upto_region 3 with (go_at_call 18; (with_reducible refine GV.mono ?_); rintro e w2 ⟨ga, gf, gs, rfl, hG, hb⟩; obtain ⟨G1, y1, rfl⟩ := own_len hG.a; obtain ⟨G2, y2, rfl⟩ := own_len hG.f; obtain ⟨G3, y3, rfl⟩ := own_len hG.s)
  refine wp_world fun W3 hW3 => ?_
  have hb3 : Below w2.heap.size w2 W3 := by rw [hW3]; exact (Below.refl _ _).alloc (Nat.le_refl _) _
  have k6 : Blk W3 w2.heap.size #[.slice G1 n y1, .slice G2 n y2, .slice G3 m y3] 25 := by rw [hW3]; exact Blk.new _ _ _
  have hb' := hb.trans (hb3.mono hb.size)
  have hB := hB.trans (hb'.mono hB.size)
  have hM := hM.below hb'
  have hG := hG.below hb3
  have k5 := k5.below hb'
  clear hW3 hb hb3 hb' r0 r1 r2 GV
  generalize w2.heap.size = B6 at *
  have HK5 := Lib.hid k5
  have HK6 := Lib.hid k6
  have hsW : w.heap.size ≤ W3.heap.size := hB.size
  clear k5 k6
  go_wp2
  go_loopg [1, 2, 9, 10, 11] 3 (fun gk g x i y10 y11 wr => ∃ (k : Nat) (gv xv : Int), k ≤ 3 ∧ gk = 3 - k ∧ i = .int .i64 k ∧ g = .int .i64 gv ∧ x = .int .i64 xv ∧ Below W3.heap.size W3 wr)
  case atStart => exact ⟨0, g0, x0, by omega, rfl, rfl, rfl, rfl, Below.refl _ _⟩
  case round =>
    obtain ⟨k, gv, xv, hk, hgk, rfl, rfl, rfl, hbw⟩ := hrel
    have HGK := Lib.hid hgk
    clear hgk
    by_cases hlt : k < 3
    · have k5 := HK5.out.below hbw
      have k6 := HK6.out.below hbw
      have s0 := k6.cell 0 rfl
      have s1 := k6.cell 1 rfl
      have s2 := k6.cell 2 rfl
      have r0 := k5.cell 0 rfl
      have hGb := (hG.below hbw).bs
      have hwn : IntKind.u64.wrap (n : Int) = n := by rw [IntKind.wrap_u64]; omega
      have hn0 : ((n : Int) == 0) = false := by simp; omega
      have hn0' : (n : Int) ≠ 0 := by omega
      by_cases hbad : ¬ (0 ≤ gv ∧ gv < n ∧ 0 ≤ xv ∧ xv ≤ 1000000)
      · have WE := wet23_err wr _ _ _ n m area floor S hGb gv xv hbad
        go_upto_region 7 with (go_at_call 23; (with_reducible refine WE.mono ?_); rintro e w5 ⟨rfl, hb5⟩; have r0 := cell_up hb5 r0)
        have hb35 := hbw.trans (hb5.mono hbw.size)
        clear s0 s1 s2 WE hb5 hbw k5 k6 hGb
        have hc : decide (gv < 0) = true ∨ (decide (gv < 0) = false ∧ decide ((n : Int) ≤ gv) = true) ∨ (decide (gv < 0) = false ∧ decide ((n : Int) ≤ gv) = false ∧ decide (xv < 0) = true) ∨ (decide (gv < 0) = false ∧ decide ((n : Int) ≤ gv) = false ∧ decide (xv < 0) = false ∧ decide ((1000000 : Int) < xv) = true) := by
          simp only [decide_eq_true_eq, decide_eq_false_iff_not]
          omega
        have hk1 : ((k : Int) == 1) = true ∨ ((k : Int) == 1) = false := by cases h : ((k : Int) == 1) <;> simp
        clear hbad
        rcases hc with d1 | ⟨d1, d2⟩ | ⟨d1, d2, d3⟩ | ⟨d1, d2, d3, d4⟩ <;> rcases hk1 with e1 | e1
        all_goals
          go_wp2
          go_roundg (3 - (k + 1))
          case measure => have := HGK.out; omega
          case rel => exact ⟨k + 1, _, _, by omega, rfl, by go_num, rfl, rfl, hb35⟩
      · have hok : 0 ≤ gv ∧ gv < n ∧ 0 ≤ xv ∧ xv ≤ 1000000 := Classical.not_not.1 hbad
        obtain ⟨g, rfl⟩ : ∃ g : Nat, gv = g := ⟨gv.toNat, by omega⟩
        have hg : g < n := by omega
        have d1 : decide ((g : Int) < 0) = false := decide_eq_false (by omega)
        have d2 : decide ((n : Int) ≤ (g : Int)) = false := decide_eq_false (by omega)
        have d2' : decide (n ≤ g) = false := decide_eq_false (by omega)
        have d3 : decide (xv < 0) = false := decide_eq_false (by omega)
        have d4 : decide ((1000000 : Int) < xv) = false := decide_eq_false (by omega)
        have WO := wet23_ok wr _ _ _ n m area floor S hGb g hg xv (by omega) (by omega)
        clear hbad
        go_upto_region 10 with (go_at_call 23; (with_reducible refine WO.mono ?_); rintro e w5 ⟨u10, st, hE, rfl, h10, hb5⟩; have r0 := cell_up hb5 r0)
        have hb35 := hbw.trans (hb5.mono hbw.size)
        have k5' := k5.below hb5
        clear s0 s1 s2 WO hb5 hbw k5 k6 hGb r0 d1 d2 d2' d3 d4
        have r0 := k5'.cell 0 rfl
        have r1 := k5'.cell 1 rfl
        have r2 := k5'.cell 2 rfl
        have hM5 := hM.below hb35
        have g0' : Slu.Good (mkBas n m area floor S) (st0 n (aloneF g xv)) := st0_good hM.ok.ok (am := aloneF g xv) (fun k => by unfold aloneF; split <;> omega)
        have gd := g0'.star hM.ok.ok hE.1
        have hund := (UndAll.start (B := mkBas n m area floor S) (n := n) (aloneF g xv)).star hM.ok.ok g0' hE.1
        go_cut [65] from 51 to 65 (fun x wx => x = .bool false ∧ Below w5.heap.size w5 wx)
        case first =>
          have hbs := hM5.bs
          have AL := alone_any w5.drew (.slice A1 n z1) (.slice A2 n z2) (.slice A3 m z3) n g area xv (hbs.a.below ((Below.refl _ w5).drew)) hg n8
          have PRW := fun W' (hb : Below w5.heap.size w5 W') vm (hM' : RdI W' vm n (aloneF g xv)) => rpour_any W' (.slice A1 n z1) (.slice A2 n z2) (.slice A3 m z3) vm n m area floor (aloneF g xv) S hM.ok (hbs.a.below hb) (hbs.f.below hb) (hbs.s.below hb) hM' (fun i => by unfold aloneF; split <;> omega)
          have hVv : ∀ i, 0 ≤ st.vol (st.rep i) ∧ (i < n → st.vol (st.rep i) ≤ 16000000) := fun i => by
            have h1 := tot_star hM.ok.ok g0' hE.1
            have h2 := st0_tot (B := mkBas n m area floor S) (am := aloneF g xv) n8 (fun k => by unfold aloneF; split <;> omega)
            have h4 := gd.iv.nonneg (st.rep i)
            have h5 := gd.iv.le i
            have h2' : tot (mkBas n m area floor S) (st0 n (aloneF g xv)) ≤ 16000000 := h2
            refine ⟨h4, fun hi => ?_⟩
            have h3 := vol_le_tot gd (i := st.rep i) (by show st.rep i ≤ n; omega)
            omega
          have RW := fun W' (hb : Below w5.heap.size w5 W') ug uv lost (cv : Nat → Int) (hug : RdI W' ug n (fun k => (st.rep k : Int))) (huv : RdI W' uv n cv) (hcv : ∀ i, i < n → st.rep i = i → cv i = st.vol i) (hcb : ∀ i, 0 ≤ cv i ∧ cv i ≤ 1000000000000) =>
            have hl : ∀ k, k < n → lvA area floor st.rep cv n k = lvA area floor st.rep st.vol n k ∧ lvB area floor st.rep cv n k = lvB area floor st.rep st.vol n k := fun k hk => lv_congr (by
              have := gd.iv.le k
              exact hcv _ (by omega) (gd.iv.idem k))
            rwet25_any W' (.slice A1 n z1) (.slice A2 n z2) (.slice A3 m z3) ug uv lost area floor cv (lvA area floor st.rep cv n) (lvB area floor st.rep cv n) st.rep n (hbs.a.below hb) (hbs.f.below hb) hug huv (by omega) hM.ok.rng (fun i => gd.iv.le i) hcb rfl rfl
              (fun k hk => by rw [(hl k hk).1]; have := lvA_bd hM.ok.rng st.rep st.vol n k n8 ⟨(hVv k).1, (hVv k).2 hk⟩; omega)
              (fun k hk => by rw [(hl k hk).2]; exact ⟨lvB_one hM.ok.rng _ _ _ _ hk, (lvB_bd hM.ok.rng _ _ _ _ n8).2⟩)
              (fun k hk => by rw [(hl k hk).1, (hl k hk).2]; exact level_floor' hM.ok gd hund hk)
          have IN := fun W' u62 base (cv : Nat → Int) (h1 : OwN W' wr.heap.size u10 (wets (ovF area floor st.rep st.vol n) n)) (h2 : OwN W' base u62 (wets (stA area floor (lvA area floor st.rep cv n) (lvB area floor st.rep cv n)) n)) (hcv : ∀ i, i < n → st.rep i = i → cv i = st.vol i) =>
            have hl : ∀ k, k < n → lvA area floor st.rep cv n k = lvA area floor st.rep st.vol n k ∧ lvB area floor st.rep cv n k = lvB area floor st.rep st.vol n k := fun k hk => lv_congr (by
              have := gd.iv.le k
              exact hcv _ (by omega) (gd.iv.idem k))
            have he : wets (ovF area floor st.rep st.vol n) n = wets (stA area floor (lvA area floor st.rep cv n) (lvB area floor st.rep cv n)) n := wets_congr fun k hk => by
              have h3 := level_floor' hM.ok gd hund hk
              have h4 := lvB_one hM.ok.rng st.rep st.vol n k hk
              rw [← (hl k hk).1, ← (hl k hk).2] at h3
              rw [← (hl k hk).2] at h4
              unfold ovF
              rw [← (hl k hk).1, ← (hl k hk).2]
              exact stA_pos (hM.ok.rng.a1 k) h4 (by omega)
            (ints_any W' u10 u62 _ _ _ _ (h1.reads (by have := wets_len (ovF area floor st.rep st.vol n) n; omega)) (h2.reads (by have := wets_len (stA area floor (lvA area floor st.rep cv n) (lvB area floor st.rep cv n)) n; omega))).mono (R' := fun e w' => e = .returned (.bool true) ∧ Below W'.heap.size W' w') (by
              rintro e w' ⟨rfl, q, rfl⟩
              rw [sameI_list he]
              exact ⟨rfl, below_drewN (Below.refl _ _) q⟩)
          go_region_held3 (fun w' => w'.cell? ⟨B5, 0, none⟩ = some (.slice A1 n z1) ∧ w'.cell? ⟨B5, 1, none⟩ = some (.slice A2 n z2) ∧ w'.cell? ⟨B5, 2, none⟩ = some (.slice A3 m z3))
            (go_keep)
            (first
              | (go_at_call 24; (with_reducible refine (IN w8 u62 _ cv h10c h62 hcv').mono ?_); rintro e w9 ⟨rfl, hb9⟩; have r0 := cell_up hb9 x0; have r1 := cell_up hb9 x1; have r2 := cell_up hb9 x2; have hb59 := hb58.trans (hb9.mono hb58.size); clear x0 x1 x2)
              | (go_at_call 25; (with_reducible refine (RW w7 hb57 ug uv _ cv hug' huv' hcv' hcb).mono ?_); rintro e w8 ⟨u62, rfl, h62, hb8⟩; have x0 := cell_up hb8 y0; have x1 := cell_up hb8 y1; have x2 := cell_up hb8 y2; have h10c := h10b.below hb8; have hb58 := hb57.trans (hb8.mono hb57.size); clear y0 y1 y2)
              | (go_at_call 16; (with_reducible refine (PRW w6 hb6 ua6 hrd6).mono ?_); rintro e w7 ⟨ug, uv, st2, cv, rfl, hE2, hug, huv, hcv, hcb, hb7⟩; obtain rfl := Slu.Ends.unique hM.ok.ok g0' hE2 hE; have hug' : RdI w7 ug n (fun k => (st2.rep k : Int)) := OwI.reads hug (by show n ≤ _; omega); have huv' : RdI w7 uv n cv := OwI.reads huv (by show n ≤ _; omega); have hcv' : ∀ i, i < n → st2.rep i = i → cv i = st2.vol i := hcv; have y0 := cell_up hb7 z0; have y1 := cell_up hb7 z1'; have y2 := cell_up hb7 z2'; have h10b := (h10a.below hb7); have hb57 := hb6.trans (hb7.mono hb6.size); clear z0 z1' z2')
              | (go_at_call 26; (with_reducible refine AL.mono ?_); rintro e w6 ⟨ua6, rfl, ho6, hb6'⟩; have hb6 : Below w5.heap.size w5 w6 := undrew hb6'; clear hb6'; have hrd6 : RdI w6 ua6 n (aloneF g xv) := ho6.reads (by omega); have z0 := cell_up hb6 r0; have z1' := cell_up hb6 r1; have z2' := cell_up hb6 r2; have h10a := h10.below hb6; clear r0 r1 r2))
          go_wp2_with fail
          go_meet
          exact ⟨rfl, hb59⟩
        case rest =>
          obtain ⟨rfl, hb6⟩ := hcut
          have hb36 := hb35.trans (hb6.mono hb35.size)
          have r0 := (k5'.below hb6).cell 0 rfl
          have hk1 : ((k : Int) == 1) = true ∨ ((k : Int) == 1) = false := by cases h : ((k : Int) == 1) <;> simp
          clear r1 r2
          rcases hk1 with e1 | e1
          all_goals
            go_wp2
            go_roundg (3 - (k + 1))
            case measure => have := HGK.out; omega
            case rel => exact ⟨k + 1, _, _, by omega, rfl, by go_num, rfl, rfl, hb36⟩
    · obtain rfl : k = 3 := by omega
      go_wp2_with (go_at_call 21; (with_reducible refine (awake21_any _).mono ?_); rintro e w15 ⟨rfl, hb15⟩)
      go_ret
      exact ⟨rfl, hB.trans ((hbw.trans (hb15.mono hbw.size)).mono hsW)⟩
end Go.Proofs.Ytjhididnmkbgoaa
