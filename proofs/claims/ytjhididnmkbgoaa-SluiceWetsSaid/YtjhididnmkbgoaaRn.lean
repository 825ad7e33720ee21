import Derived.Test.YtjhididnmkbgoaaPm
import Derived.Test.YtjhididnmkbgoaaLp
import Derived.Deep.RegionWith
set_option linter.unusedVariables false
set_option linter.unusedSimpArgs false
namespace Go.Proofs.Ytjhididnmkbgoaa
open Go.RowKit

/-- The memory of a pouring. -/
structure RM (w0 w : World) (bx br X : Nat) (va vf vs : Value) (p : Nat → Nat) (s : Nat → Int) (lost : Int) : Prop where
  b : Below w0.heap.size w0 w
  x0 : w0.heap.size ≤ X
  kx : Blk w bx #[.pointer (some ⟨X, 0, none⟩)] 97
  kr : Blk w br #[.func (.func 78) #[] #[.pointer (some ⟨bx, 0, none⟩), .pointer (some ⟨br, 0, none⟩)]] 111
  x : SX w X va vf vs p s lost

section
variable {w0 w w' : World} {bx br X : Nat} {va vf vs : Value} {p : Nat → Nat} {s : Nat → Int} {lost : Int}
theorem RM.below (h : RM w0 w bx br X va vf vs p s lost) (hb : Below w.heap.size w w') : RM w0 w' bx br X va vf vs p s lost :=
  ⟨h.b.trans (hb.mono h.b.size), h.x0, h.kx.below hb, h.kr.below hb, h.x.below hb⟩
theorem RM.nx (h : RM w0 w bx br X va vf vs p s lost) : bx ≠ X := fun e => by
  have h1 := h.kx
  have h2 : Blk w X _ 104 := h.x
  rw [e] at h1
  unfold Blk at h1 h2
  rw [h1] at h2
  cases h2
theorem RM.nr (h : RM w0 w bx br X va vf vs p s lost) : br ≠ X := fun e => by
  have h1 := h.kr
  have h2 : Blk w X _ 104 := h.x
  rw [e] at h1
  unfold Blk at h1 h2
  rw [h1] at h2
  cases h2
theorem RM.grown {p' : Nat → Nat} {s' : Nat → Int} {lost' : Int} (h : RM w0 w bx br X va vf vs p s lost) (hg : w.grownBy w' (some X)) (hx : SX w' X va vf vs p' s' lost') : RM w0 w' bx br X va vf vs p' s' lost' :=
  ⟨h.b.grown hg h.b.size (fun k e => by cases e; exact h.x0), h.x0, h.kx.kept hg (fun e => h.nx (by cases e; rfl)), h.kr.kept hg (fun e => h.nr (by cases e; rfl)), hx⟩
theorem RM.stored (h : RM w0 w bx br X va vf vs p s lost) (k : Nat) (hk : k < 9) (x : Int) : RM w0 (w.setCell ⟨X, 12 + k, none⟩ (.int .i64 x)) bx br X va vf vs p (fun i => if i = k then x else s i) lost :=
  h.grown (grown_setCell w X _ _) (h.x.setstored k hk x)
theorem RM.pool (h : RM w0 w bx br X va vf vs p s lost) (k : Nat) (hk : k < 9) (x : Nat) : RM w0 (w.setCell ⟨X, 3 + k, none⟩ (.int .i64 (x : Nat))) bx br X va vf vs (fun i => if i = k then x else p i) s lost :=
  h.grown (grown_setCell w X _ _) (h.x.setpool k hk x)
theorem RM.lst (h : RM w0 w bx br X va vf vs p s lost) (x : Int) : RM w0 (w.setCell ⟨X, 21, none⟩ (.int .i64 x)) bx br X va vf vs p s x :=
  h.grown (grown_setCell w X _ _) (h.x.setlost x)
end

/-- What pouring leaves. -/
def RunPost (w : World) (X n m : Nat) (area floor : Nat → Int) (S : Nat → Slu.Sill) (va vf vs : Value) (a : Slu.St) (e : Ending) (w' : World) : Prop :=
  e = .returned (.tuple #[]) ∧ ∃ (p' : Nat → Nat) (s' : Nat → Int) (lost' : Int) (st' : Slu.St), SX w' X va vf vs p' s' lost' ∧ PS n p' s' lost' st' ∧ Slu.Ends (mkBas n m area floor S) a st' ∧ w.grownBy w' (some X)

theorem vol_bd {n m : Nat} {area floor : Nat → Int} {S : Nat → Slu.Sill} (ok : SOk n m area floor S) {st : Slu.St} {i : Nat} {x : Int} (gd : Slu.Good (mkBas n m area floor S) st) (hi : i ≤ n) (hx : 0 ≤ x) (ht : tot (mkBas n m area floor S) st + x ≤ 16000000) :
    0 ≤ st.vol i ∧ st.vol i + x ≤ 16000000 := by
  have h1 := vol_le_tot gd (i := i) hi
  have h2 := gd.iv.nonneg i
  omega

theorem tot_add {B : Slu.Bas} {st : Slu.St} (gd : Slu.Good B st) {i : Nat} (hi : i ≤ B.n) (x : Int) : tot B (Slu.add st i x) = tot B st + x := by
  unfold tot
  have hle := gd.iv.le i
  have key : ∀ k, st.rep i < k → Slu.sumN k (Slu.add st i x).vol = Slu.sumN k st.vol + x := by
    intro k hk
    induction k with
    | zero => omega
    | succ k ih =>
      simp only [Slu.sumN]
      by_cases e : st.rep i = k
      · have hk' : Slu.sumN k (Slu.add st i x).vol = Slu.sumN k st.vol := Slu.sumN_congr fun j hj => add_vol_ne st i x (by omega)
        have := add_vol_at st i x
        rw [e] at this
        rw [hk', this]; omega
      · rw [ih (by omega), add_vol_ne st i x (Ne.symm e)]; omega
  exact key (B.n + 1) (by omega)

theorem add_zero' (st : Slu.St) (i : Nat) : Slu.add st i 0 = st := Slu.St.ext' (fun _ => rfl) (fun k => by unfold Slu.add; dsimp only; split <;> omega)

set_option maxRecDepth 100000 in
set_option maxHeartbeats 4000000 in
theorem run78_any (n m : Nat) (area floor : Nat → Int) (S : Nat → Slu.Sill) (ok : SOk n m area floor S) (w0 : World) (bx br X : Nat) (va vf vs : Value)
    (hA : RdI w0 va n area) (hF : RdI w0 vf n floor) (hS : RdT w0 vs m (fun k => ((S k).a : Int)) (fun k => ((S k).b : Int)) (fun k => (S k).h)) :
    ∀ N, ∀ (w : World) (p : Nat → Nat) (s : Nat → Int) (lost : Int) (st : Slu.St) (basin : Nat) (amount : Int), RM w0 w bx br X va vf vs p s lost → PS n p s lost st → Slu.Good (mkBas n m area floor S) st → Slu.Still (mkBas n m area floor S) st →
      basin ≤ n → 0 ≤ amount → tot (mkBas n m area floor S) st + amount ≤ 16000000 → Slu.rank (mkBas n m area floor S) (Slu.add st basin amount) < N →
      Calls Try.prog 78 #[.int .i64 basin, .int .i64 amount, .pointer (some ⟨bx, 0, none⟩), .pointer (some ⟨br, 0, none⟩)] w fun e w' => RunPost w X n m area floor S va vf vs (Slu.add st basin amount) e w' := by
  have OK := ok.ok
  have hn1 := ok.n1
  have hn8 := ok.n8
  intro N
  induction N with
  | zero => intros; omega
  | succ N ih =>
  intro w p s lost st basin amount hm hps gd hst hbn ha0 htot hrank
  have HRK := Lib.hid hrank
  clear hrank
  have IH := Lib.hid ih
  clear ih
  have SEA := sea74_any w X va vf vs p s lost n area hm.x (hA.below hm.b)
  have cx := hm.kx.cell 0 rfl
  by_cases hsea : basin = n
  · subst hsea
    have e1 : ((basin : Int) == (basin : Int)) = true := by simp
    have cl := hm.x.lst
    have fl := hm.x.frozen 21
    have vb := vol_bd ok gd (Nat.le_refl _) ha0 htot
    have hl := hps.lost
    have hw : IntKind.i64.wrap (lost + amount) = lost + amount := IntWalk.i64_in _ (by omega)
    clear hl
    have HRG := Lib.hid hps
    clear hps
    go_enter Try.func78, Try.ntmps78
    go_wp2
    go_step3
    go_wp2_with (go_at_call 74; (with_reducible refine SEA.mono ?_); rintro e w' ⟨rfl, rfl⟩)
    rw [Exit.noGoto_ret]
    go_end0
    have hr : st.rep basin = basin := (gd.iv.sea basin).2 rfl
    exact ⟨rfl, p, s, lost + amount, Slu.add st basin amount, hm.x.setlost _, HRG.out.addsea hr, ⟨.refl _, still_add hst (fun h => by rw [hr] at h; exact absurd h (Nat.lt_irrefl _))⟩, grown_setCell w X 21 _⟩
  · have e1 : ((basin : Int) == (n : Int)) = false := by simp; omega
    have HB := Lib.hid hsea
    clear hsea
    go_enter Try.func78, Try.ntmps78
    go_wp2
    go_step3
    go_wp2_with (go_at_call 74; (with_reducible refine SEA.mono ?_); rintro e w' ⟨rfl, rfl⟩)
    go_step3
    go_wp2
    have HE0 := Lib.hid (fun fin (h : Slu.Ends (mkBas n m area floor S) (Slu.add st basin amount) fin) => h)
    go_loopg [1] (Slu.rank (mkBas n m area floor S) (Slu.add st basin amount)) (fun gk x wr => ∃ (p : Nat → Nat) (s : Nat → Int) (lost : Int) (st1 : Slu.St) (amt : Int), x = .int .i64 amt ∧ gk = Slu.rank (mkBas n m area floor S) (Slu.add st1 basin amt) ∧ gk ≤ Slu.rank (mkBas n m area floor S) (Slu.add st basin amount) ∧
      RM w0 wr bx br X va vf vs p s lost ∧ Hid (PS n p s lost st1) ∧ Slu.Good (mkBas n m area floor S) st1 ∧ Slu.Still (mkBas n m area floor S) st1 ∧ 0 ≤ amt ∧ tot (mkBas n m area floor S) st1 + amt ≤ 16000000 ∧
      Hid (∀ fin, Slu.Ends (mkBas n m area floor S) (Slu.add st1 basin amt) fin → Slu.Ends (mkBas n m area floor S) (Slu.add st basin amount) fin) ∧ w.grownBy wr (some X))
    case atStart => exact ⟨p, s, lost, st, amount, rfl, rfl, Nat.le_refl _, hm, Lib.hid hps, gd, hst, ha0, htot, HE0, World.grownBy.refl _ _⟩
    case round =>
      clear hps hm gd hst ha0 htot HE0 SEA cx
      obtain ⟨p, s, lost, st1, amt, rfl, hgk, hgk2, hm, HPS, gd, hst, ha0, htot, HE, hgr⟩ := hrel
      have HGK := Lib.hid (And.intro hgk hgk2)
      clear hgk hgk2
      have hps_le := HPS.out.le
      by_cases hpos : 0 < amt
      · have hrl := gd.iv.le basin
        have FG := first_any X 3 p wr hps_le hm.x.pool basin (by omega)
        have hrb := HPS.out.rep basin
        have hgn : st1.rep basin < n := by
          have := (gd.iv.sea basin).1
          have := HB.out
          omega
        rw [← hrb] at FG
        have HRB := Lib.hid hrb
        clear hrb
        generalize hgg : st1.rep basin = g at *
        have HG := Lib.hid hgg
        clear hgg
        have LP := lip79_any wr X va vf vs p s lost n m area floor S ok hm.x hps_le (hS.below hm.b) g hgn
        have cx := hm.kx.cell 0 rfl
        go_wp2_with (go_at_call 66; (with_reducible refine FG.mono ?_); rintro e w' ⟨rfl, rfl⟩)
        go_at_call 79
        (with_reducible refine LP.mono ?_)
        rintro e w2 ⟨(⟨rfl, hno⟩ | ⟨ls, hlip, rfl⟩), hb2⟩
        · have hm2 := hm.below hb2
          have hg2 : w.grownBy w2 (some X) := hgr.trans (grown_below hb2 _)
          clear hm hgr hb2 LP FG cx
          have cx := hm2.kx.cell 0 rfl
          have cs := hm2.x.stored g (by omega)
          have fs := hm2.x.frozen (12 + g)
          have g0 : (0 : Int) ≤ (g : Int) := Int.natCast_nonneg _
          have g1 : (g : Int) < 9 := by omega
          have sb := HPS.out.bd g
          have hroot : st1.rep g = g := by rw [← HG.out]; exact gd.iv.idem basin
          have sv := HPS.out.vol g hgn hroot
          have vb := vol_bd ok gd (i := g) (by omega) ha0 htot
          have hw : IntKind.i64.wrap (s g + amt) = s g + amt := IntWalk.i64_in _ (by omega)
          have HSV := Lib.hid sv
          have sb2 : 0 ≤ s g + amt ∧ s g + amt ≤ 16000000 := by omega
          have HRT := Lib.hid hroot
          clear sv hroot
          go_wp2
          go_region
          go_wp2
          go_end0
          have hgn' := hgn
          have e := HG.out
          refine ⟨rfl, p, _, lost, Slu.add st1 basin amt, (hm2.x.setstored g (by omega) (s g + amt)).below (below_drewN (Below.refl _ _) 1), ?_, HE.out _ ⟨.refl _, still_add hst ?_⟩, (hg2.trans (grown_setCell w2 X _ _)).trans (grown_below (below_drewN (Below.refl _ _) 1) _)⟩
          · have := HPS.out.addroot (i := basin) (x := amt) (by rw [e]; omega) (by rw [e]; exact sb2)
            rw [e] at this
            exact this
          · intro _ u hu
            rw [e] at hu
            obtain ⟨k, hk, rfl⟩ := mem_mk.1 hu.mem
            have hc := hu.cr
            rw [HPS.out.repf] at hc
            exact absurd hc (hno k hk)
        · have hm2 := hm.below hb2
          have hg2 : w.grownBy w2 (some X) := hgr.trans (grown_below hb2 _)
          clear hm hgr hb2 LP FG cx
          have hlip' : Slu.IsLip (mkBas n m area floor S) st1.rep g ls := by rw [HPS.out.repf]; exact hlip
          have HLIP := Lib.hid hlip'
          clear hlip hlip'
          obtain ⟨kk, hkk, hls⟩ := mem_mk.1 HLIP.out.mem
          have h1 := ok.h1 kk hkk
          have h2 := ok.h2 kk hkk
          have h3 := ok.lt kk hkk
          have h4 := ok.le kk hkk
          rw [hls] at h1 h2 h3 h4
          clear hls
          have RC := fun nn => (room80_any (w2.drewN nn) X va vf vs p s lost n area floor (hm2.x.below (below_drewN (Below.refl _ _) nn)) hps_le ((hA.below hm2.b).below (below_drewN (Below.refl _ _) nn)) ((hF.below hm2.b).below (below_drewN (Below.refl _ _) nn)) hn8 ok.rng g ls.h (by omega) h2).mono (R' := fun e w' => e = .returned (.int .i64 (roomN area floor (rootN 9 p) g ls.h n)) ∧ w' = w2.drewN nn) fun _ _ ⟨a, b⟩ => ⟨a, b.symm⟩
          have ER : Hid (roomN area floor (rootN 9 p) g ls.h n = Slu.room (mkBas n m area floor S) st1.rep g ls.h) := by rw [HPS.out.repf]; rfl
          have RB := roomN_bd (rep := rootN 9 p) (g := g) ok.rng (show 0 ≤ ls.h by omega) h2 n hn8
          generalize roomN area floor (rootN 9 p) g ls.h n = R at *
          have hto : Hid ((if rootN 9 p ls.a = g then ls.b else ls.a) = (if st1.rep ls.a = g then ls.b else ls.a)) := by show _ = _; rw [HPS.out.repf]
          have htn : (if rootN 9 p ls.a = g then ls.b else ls.a) ≤ n := by split <;> omega
          generalize (if rootN 9 p ls.a = g then ls.b else ls.a) = tt at *
          have cx := hm2.kx.cell 0 rfl
          have cs := hm2.x.stored g (by omega)
          have g0 : (0 : Int) ≤ (g : Int) := Int.natCast_nonneg _
          have g1 : (g : Int) < 9 := by omega
          have sb := HPS.out.bd g
          have hroot : st1.rep g = g := by rw [← HG.out]; exact gd.iv.idem basin
          have sv := HPS.out.vol g hgn hroot
          have vb := vol_bd ok gd (i := g) (by omega) ha0 htot
          have hR : s g ≤ R := by
            have hov := over_of_still hst g ls
            rcases Int.lt_or_le R (s g) with hlt | hle
            · exact absurd ⟨hroot, hgn, HLIP.out, by rw [← ER.out, ← sv]; exact hlt⟩ hov
            · exact hle
          have HSV := Lib.hid sv
          have HRT := Lib.hid hroot
          clear sv hroot
          have hw : IntKind.i64.wrap (R - s g) = R - s g := IntWalk.i64_in _ (by omega)
          by_cases hle : amt ≤ R - s g
          · have hmin : min amt (R - s g) = amt := by omega
            have hw2 : IntKind.i64.wrap (s g + amt) = s g + amt := IntWalk.i64_in _ (by omega)
            have sb2 : 0 ≤ s g + amt ∧ s g + amt ≤ 16000000 := by omega
            have HLE := Lib.hid hle
            clear hle
            go_wp2
            go_quiet ((go_at_call 80; exact Calls.quiet_of_same (RC _)))
            refine world_name fun w3 hw3 => ?_
            have hm3 := hm2.below (w' := w3) (by rw [hw3]; exact below_drewN (Below.refl _ _) _)
            have hg3 : w.grownBy w3 (some X) := by rw [hw3]; exact hg2.trans (grown_below (below_drewN (Below.refl _ _) _) _)
            clear hw3 hm2 hg2 RC cx cs hw hmin
            have cx := hm3.kx.cell 0 rfl
            have cs := hm3.x.stored g (by omega)
            have fs := hm3.x.frozen (12 + g)
            go_wp2
            go_region
            go_wp2
            go_end0
            have e := HG.out
            refine ⟨rfl, p, _, lost, Slu.add st1 basin amt, (hm3.x.setstored g (by omega) (s g + amt)).below (below_drewN (Below.refl _ _) 1), ?_, HE.out _ ⟨.refl _, still_add hst ?_⟩, (hg3.trans (grown_setCell w3 X _ _)).trans (grown_below (below_drewN (Below.refl _ _) 1) _)⟩
            · have := HPS.out.addroot (i := basin) (x := amt) (by rw [e]; omega) (by rw [e]; exact sb2)
              rw [e] at this
              exact this
            · intro _ u hu
              rw [e] at hu ⊢
              obtain rfl := hu.unique OK HLIP.out
              rw [← ER.out, ← HSV.out]
              have := HLE.out
              omega
          · have hmin : min amt (R - s g) = R - s g := by omega
            have hw2 : IntKind.i64.wrap (s g + (R - s g)) = R := by rw [show s g + (R - s g) = R by omega]; exact IntWalk.i64_in _ (by omega)
            have hw3 : IntKind.i64.wrap (amt - (R - s g)) = amt - (R - s g) := IntWalk.i64_in _ (by omega)
            have hne : (amt - (R - s g) == 0) = false := by simp; omega
            go_wp2
            go_quiet ((go_at_call 80; exact Calls.quiet_of_same (RC _)))
            refine world_name fun w3 hw3 => ?_
            have hm3 := hm2.below (w' := w3) (by rw [hw3]; exact below_drewN (Below.refl _ _) _)
            have hg3 : w.grownBy w3 (some X) := by rw [hw3]; exact hg2.trans (grown_below (below_drewN (Below.refl _ _) _) _)
            clear hw3 hm2 hg2 RC cx cs hw hmin
            have cx := hm3.kx.cell 0 rfl
            have cs := hm3.x.stored g (by omega)
            have fs := hm3.x.frozen (12 + g)
            go_wp2
            go_region
            refine world_name fun w4 hw4 => ?_
            have hm4 : RM w0 w4 bx br X va vf vs p (fun i => if i = g then R else s i) lost := by
              rw [hw4]; exact (hm3.stored g (by omega) R).below (below_drewN (Below.refl _ _) 1)
            have hg4 : w.grownBy w4 (some X) := by rw [hw4]; exact (hg3.trans (grown_setCell w3 X _ _)).trans (grown_below (below_drewN (Below.refl _ _) 1) _)
            clear hw4 hm3 hg3 cx cs fs hw2
            obtain ⟨rest, hrest⟩ : ∃ rest, amt - (R - s g) = rest := ⟨_, rfl⟩
            go_upto_region 11 with (fail)
            clear hw3 hne
            have e := HG.out
            have st2r : (Slu.add st1 basin (R - s g)).rep = st1.rep := rfl
            have v2g : (Slu.add st1 basin (R - s g)).vol g = R := by
              have := add_vol_at st1 basin (R - s g)
              rw [e] at this
              rw [this, ← HSV.out]; omega
            have v2o : ∀ k, k ≠ g → (Slu.add st1 basin (R - s g)).vol k = st1.vol k := fun k hk => add_vol_ne st1 basin (R - s g) (by rw [e]; exact hk)
            have PS2 : Hid (PS n p (fun i => if i = g then R else s i) lost (Slu.add st1 basin (R - s g))) := by
              have := HPS.out.addroot (i := basin) (x := R - s g) (by rw [e]; omega) (by rw [e]; omega)
              rw [e, show s g + (R - s g) = R by omega] at this
              exact this
            have gd2 : Slu.Good (mkBas n m area floor S) (Slu.add st1 basin (R - s g)) := gd.add (by omega)
            have hst2 : Slu.Still (mkBas n m area floor S) (Slu.add st1 basin (R - s g)) := still_add hst (fun _ u hu => by
              rw [e] at hu ⊢
              obtain rfl := hu.unique OK HLIP.out
              rw [← ER.out, ← HSV.out]; omega)
            have ht2 : tot (mkBas n m area floor S) (Slu.add st1 basin (R - s g)) + rest ≤ 16000000 := by
              have := tot_add gd (i := basin) (by show basin ≤ n; omega) (R - s g)
              omega
            have OV : Slu.Over (mkBas n m area floor S) (Slu.add st1 basin amt) g ls := ⟨HRT.out, hgn, HLIP.out, by
              have h := add_vol_at st1 basin amt
              rw [e] at h
              have h2 : Slu.room (mkBas n m area floor S) (Slu.add st1 basin amt).rep g ls.h = R := ER.out.symm
              rw [h2, h, ← HSV.out]; omega⟩
            have gdA : Slu.Good (mkBas n m area floor S) (Slu.add st1 basin amt) := gd.add ha0
            have hne' := Slu.other_ne HLIP.out.cr
            have hrt : st1.rep tt = Slu.other st1.rep ls g := by rw [hto.out]; unfold Slu.other; split <;> rfl
            have MOVE : Hid (¬ Slu.Meets (mkBas n m area floor S) (Slu.add st1 basin amt) (Slu.other st1.rep ls g) ls → Slu.Step (mkBas n m area floor S) (Slu.add st1 basin amt) (Slu.add (Slu.add st1 basin (R - s g)) tt rest)) := fun mt => by
              have h1 := Slu.Step.move OV mt
              have h2 := move_eq (B := mkBas n m area floor S) (st := st1) (i := basin) (t := tt) (s := ls) (amount := amt) (stays := R - s g) (rest := rest) (by rw [e, ← ER.out, HSV.out]) (by omega) (by rw [e]; exact hrt) (by rw [e]; exact hne')
              rw [e] at h2
              rw [← h2]
              exact h1
            have hrt2 : rootN 9 p tt = Slu.other st1.rep ls g := by rw [← HPS.out.rep]; exact hrt
            have FT := first_any X 3 p w4 hps_le hm4.x.pool tt (by omega)
            rw [hrt2] at FT
            have hot : Slu.other st1.rep ls g ≤ n := Slu.other_le OK gd HLIP.out
            have hor : st1.rep (Slu.other st1.rep ls g) = Slu.other st1.rep ls g := by rw [← hrt]; exact gd.iv.idem tt
            have hom : tt = n ↔ Slu.other st1.rep ls g = n := by rw [← hrt]; exact (gd.iv.sea tt).symm
            have HO := Lib.hid (And.intro hrt2 (And.intro hrt (And.intro hor hom)))
            have hrp : 0 ≤ rest ∧ rest ≤ amt := by omega
            have hsr : amt = (R - s g) + rest := by omega
            have HX := Lib.hid (And.intro hrest (And.intro v2g (And.intro v2o hsr)))
            clear hrest hrt2 hrt hor hom v2g v2o st2r hsr e
            generalize hoth : Slu.other st1.rep ls g = t at *
            have HOT := Lib.hid hoth
            clear hoth
            have SEA4 := sea74_any w4 X va vf vs p (fun i => if i = g then R else s i) lost n area hm4.x (hA.below hm4.b)
            have cx := hm4.kx.cell 0 rfl
            have cr := hm4.kr.cell 0 rfl
            by_cases htn' : tt = n
            · have hb1 : ((tt : Int) != (n : Int)) = false := by simp [htn']
              have STEP := MOVE.out (fun mt => mt.1 (HO.out.2.2.2.1 htn'))
              have RL := Slu.rank_lt OK gdA STEP
              have IHc := IH.out w4 p _ lost (Slu.add st1 basin (R - s g)) tt rest hm4 PS2.out gd2 hst2 htn hrp.1 ht2 (by have := HGK.out; have := HRK.out; omega)
              clear RL htn'
              go_wp2_with (first | (go_at_call 66; (with_reducible refine FT.mono ?_); rintro e w' ⟨rfl, rfl⟩) | (go_at_call 74; (with_reducible refine SEA4.mono ?_); rintro e w' ⟨rfl, rfl⟩) | (go_at_call 78; (with_reducible refine IHc.mono ?_); rintro e w5 ⟨rfl, p', s', lost', st', hx5, hps5, hends, hg5⟩))
              go_end0
              exact ⟨rfl, p', s', lost', st', hx5, hps5, HE.out _ (ends_step STEP hends), hg4.trans hg5⟩
            · have hb1 : ((tt : Int) != (n : Int)) = true := by simp; omega
              have htlt : t < n := by
                have h := HO.out.2.2.2
                have : t ≠ n := fun e => htn' (h.2 e)
                omega
              have HTN := Lib.hid htn'
              clear htn'
              have FU := full81_any w4 X va vf vs p (fun i => if i = g then R else s i) lost n area floor hm4.x hps_le (hA.below hm4.b) (hF.below hm4.b) hn8 ok.rng t (by omega) ls.h (by omega) h2
              have hst' : (if t = g then R else s t) = s t := if_neg hne'
              rw [hst'] at FU
              have vt := HPS.out.vol t htlt HO.out.2.2.1
              have ET : Hid (roomN area floor (rootN 9 p) t ls.h n = Slu.room (mkBas n m area floor S) st1.rep t ls.h) := by show _ = _; rw [HPS.out.repf]; rfl
              have VT := Lib.hid vt
              clear vt hst'
              generalize roomN area floor (rootN 9 p) t ls.h n = RT at *
              by_cases hfull : RT ≤ s t
              · rw [decide_eq_true hfull] at FU
                have HF := Lib.hid hfull
                clear hfull
                have gr : st1.rep g = g := HRT.out
                have tr : st1.rep t = t := HO.out.2.2.1
                have fg := HPS.out.fix gr
                have ft := HPS.out.fix tr
                have JC := fun nn => join_any X 3 p (w4.drewN nn) hps_le (hm4.x.below (below_drewN (Below.refl _ _) nn)).pool (fun k hk => (hm4.x.below (below_drewN (Below.refl _ _) nn)).frozen (3 + k)) g (by omega) t (by omega)
                rw [rootN_fix p g fg, rootN_fix p t ft] at JC
                have HGT := Lib.hid (And.intro gr (And.intro tr hne'))
                clear gr tr fg ft
                go_wp2_with (first | (go_at_call 66; (with_reducible refine FT.mono ?_); rintro e w' ⟨rfl, rfl⟩) | (go_at_call 74; (with_reducible refine SEA4.mono ?_); rintro e w' ⟨rfl, rfl⟩) | (go_at_call 81; (with_reducible refine FU.mono ?_); rintro e w' ⟨rfl, nq, rfl⟩) | (go_at_call 65; (with_reducible refine (JC _).mono ?_); rintro e w5 ⟨rfl, hw5⟩; have HW5 := Lib.hid hw5; clear hw5))
                have hm5 : RM w0 w5 bx br X va vf vs (fun i => if i = max g t then min g t else p i) (fun i => if i = g then R else s i) lost := by
                  rw [HW5.out]; exact (hm4.below (below_drewN (Below.refl _ _) _)).pool (max g t) (by omega) (min g t)
                have hg5 : w.grownBy w5 (some X) := by rw [HW5.out]; exact (hg4.trans (grown_below (below_drewN (Below.refl _ _) _) _)).trans (grown_setCell _ X _ _)
                clear HW5 FT SEA4 FU JC cx cr
                have iv2 := gd2.iv.idem
                have FULL := full_lip OK hst HLIP.out gd.iv (t := t) HOT.out htlt (by rw [← ET.out, ← VT.out]; exact HF.out)
                have ME : Slu.Meets (mkBas n m area floor S) (Slu.add st1 basin amt) t ls := ⟨by show t ≠ n; omega, FULL.1, by
                  have e1 : (Slu.add st1 basin amt).vol t = st1.vol t := add_vol_ne st1 basin amt (by rw [HG.out]; exact HGT.out.2.2)
                  rw [e1, FULL.2]; exact Int.le_refl _⟩
                have STEP := Slu.step_merge OV (show Slu.other (Slu.add st1 basin amt).rep ls g = t from HOT.out) ME
                have MEQ : Slu.merged (Slu.add st1 basin amt) g t = Slu.add (Slu.merged (Slu.add st1 basin (R - s g)) g t) basin rest := by
                  have := merge_eq (st := st1) (i := basin) (t := t) (amount := amt) (stays := R - s g) (rest := rest) HX.out.2.2.2 gd.iv.idem (by rw [HG.out]; exact HGT.out.2.2)
                  rw [HG.out] at this
                  exact this
                have hsum : R + s t ≤ 16000000 := by
                  have t1 := tot_step OK gdA STEP
                  have g1 := gdA.step OK STEP
                  have t2 := vol_le_tot g1 (i := min g t) (by show min g t ≤ n; omega)
                  have t3 : (Slu.merged (Slu.add st1 basin amt) g t).vol (min g t) = (Slu.add st1 basin amt).vol g + (Slu.add st1 basin amt).vol t := by unfold Slu.merged; dsimp only; rw [if_pos rfl]
                  have e1 : (Slu.add st1 basin amt).vol t = st1.vol t := add_vol_ne st1 basin amt (by rw [HG.out]; exact HGT.out.2.2)
                  have e2 := add_vol_at st1 basin amt
                  rw [HG.out] at e2
                  have t4 := tot_add gd (i := basin) (by show basin ≤ n; omega) amt
                  have h1 := HSV.out
                  have h2 := VT.out
                  omega
                have PS3 := PS2.out.merge (g := g) (t := t) HGT.out.1 HGT.out.2.1 (Ne.symm HGT.out.2.2) hgn htlt hn8 iv2 (by rw [if_pos rfl, if_neg HGT.out.2.2]; exact hsum)
                rw [if_pos rfl, if_neg HGT.out.2.2] at PS3
                have gd3 : Slu.Good (mkBas n m area floor S) (Slu.merged (Slu.add st1 basin (R - s g)) g t) :=
                  ⟨gd2.iv.merged HGT.out.1 HGT.out.2.1 (by show g ≠ n; omega) (by show t ≠ n; omega), gd2.fl.merged OK HGT.out.1 HGT.out.2.1 HLIP.out FULL.1 (Ne.symm HGT.out.2.2)⟩
                have hst3 : Slu.Still (mkBas n m area floor S) (Slu.merged (Slu.add st1 basin (R - s g)) g t) :=
                  still_merged OK gd2 hst2 HGT.out.1 hgn HGT.out.2.1 htlt HLIP.out FULL.1 (Ne.symm HGT.out.2.2) (by rw [HX.out.2.1]; exact ER.out) (by rw [HX.out.2.2.1 t HGT.out.2.2]; exact FULL.2)
                have FM := (first_any X 3 (fun i => if i = max g t then min g t else p i) w5.drew PS3.le (fun k hk => hm5.x.pool k hk) g (by omega)).mono (R' := fun e w' => e = .returned (.int .i64 (min g t : Nat)) ∧ w' = w5.drew) fun _ _ ⟨a, b⟩ => ⟨by
                  rw [a, ← PS3.rep]
                  have : (Slu.merged (Slu.add st1 basin (R - s g)) g t).rep g = min g t := by
                    show (if st1.rep g = max g t then min g t else st1.rep g) = _
                    rw [HGT.out.1]; split <;> omega
                  rw [this], b.symm⟩
                have cx := hm5.kx.cell 0 rfl
                have csg := hm5.x.stored g (by omega)
                have cst := hm5.x.stored t (by omega)
                have csm := hm5.x.stored (min g t) (by omega)
                rw [if_pos rfl] at csg
                rw [if_neg HGT.out.2.2] at cst
                have fsm := hm5.x.frozen (12 + min g t)
                have t0 : (0 : Int) ≤ (t : Int) := Int.natCast_nonneg _
                have t1 : (t : Int) < 9 := by omega
                have mn : min g t < 9 := by omega
                have HPP := Lib.hid (And.intro STEP (And.intro MEQ (And.intro PS3 (And.intro gd3 hst3))))
                have sbt := HPS.out.bd t
                have hws : IntKind.i64.wrap (R + s t) = R + s t := IntWalk.i64_in _ (by omega)
                clear STEP MEQ PS3 gd3 hst3 FULL ME iv2
                obtain ⟨mm, hmm⟩ : ∃ mm, min g t = mm := ⟨_, rfl⟩
                rw [hmm] at FM csm fsm mn hm5
                have HMM := Lib.hid hmm
                have m0 : (0 : Int) ≤ (mm : Int) := Int.natCast_nonneg _
                have m1 : (mm : Int) < 9 := by omega
                clear hmm
                refine wp_region_still_tail 22 (by kernel_rfl) (by kernel_rfl) ?_
                simp only [List.take_succ_cons, List.take_zero, List.drop_succ_cons, List.drop_zero]
                repeat still_step
                still_call FM
                repeat still_step
                refine wpStill_nil ?_
                change wpList _ _ _ _ _ w5.drew
                go_wp2
                have HP := HPP.out
                rw [HMM.out] at HP
                have RL := Slu.rank_lt OK gdA HP.1
                rw [HP.2.1] at RL
                go_roundg (Slu.rank (mkBas n m area floor S) (Slu.add (Slu.merged (Slu.add st1 basin (R - s g)) g t) basin rest))
                case measure => have := HGK.out; omega
                case rel =>
                  have STEP := HP.1
                  rw [HP.2.1] at STEP
                  refine ⟨_, _, lost, Slu.merged (Slu.add st1 basin (R - s g)) g t, rest, rfl, rfl, by have := HGK.out; omega, (hm5.below (below_drewN (Below.refl _ _) 1)).stored mm mn (R + s t), HP.2.2.1, HP.2.2.2.1, HP.2.2.2.2, hrp.1, ?_, fun fin hf => HE.out fin (ends_step STEP hf), (hg5.trans (grown_below (below_drewN (Below.refl _ _) 1) _)).trans (grown_setCell _ X _ _)⟩
                  have t1 := tot_step OK gdA STEP
                  have t2 := tot_add HP.2.2.2.1 (i := basin) (by show basin ≤ n; omega) rest
                  have t4 := tot_add gd (i := basin) (by show basin ≤ n; omega) amt
                  omega
              · rw [decide_eq_false hfull] at FU
                have STEP := MOVE.out (fun mt => hfull (by
                  have h := mt.2.2
                  have e1 : (Slu.add st1 basin amt).vol t = st1.vol t := add_vol_ne st1 basin amt (by rw [HG.out]; exact hne')
                  rw [e1, ← VT.out] at h
                  have e2 : Slu.room (mkBas n m area floor S) (Slu.add st1 basin amt).rep t ls.h = RT := ET.out.symm
                  rw [e2] at h
                  exact h))
                have RL := Slu.rank_lt OK gdA STEP
                have IHc := fun nn => IH.out (w4.drewN nn) p _ lost (Slu.add st1 basin (R - s g)) tt rest (hm4.below (below_drewN (Below.refl _ _) nn)) PS2.out gd2 hst2 htn hrp.1 ht2 (by have := HGK.out; have := HRK.out; omega)
                clear RL hfull
                go_wp2_with (first | (go_at_call 66; (with_reducible refine FT.mono ?_); rintro e w' ⟨rfl, rfl⟩) | (go_at_call 74; (with_reducible refine SEA4.mono ?_); rintro e w' ⟨rfl, rfl⟩) | (go_at_call 81; (with_reducible refine FU.mono ?_); rintro e w' ⟨rfl, nq, rfl⟩) | (go_at_call 78; (with_reducible refine (IHc _).mono ?_); rintro e w5 ⟨rfl, p', s', lost', st', hx5, hps5, hends, hg5⟩))
                go_end0
                exact ⟨rfl, p', s', lost', st', hx5, hps5, HE.out _ (ends_step STEP hends), (hg4.trans (grown_below (below_drewN (Below.refl _ _) _) _)).trans hg5⟩
      · obtain rfl : amt = 0 := by omega
        go_wp2
        go_end0
        refine ⟨rfl, p, s, lost, st1, hm.x, HPS.out, HE.out st1 ⟨?_, hst⟩, hgr⟩
        rw [add_zero']
        exact .refl _
end Go.Proofs.Ytjhididnmkbgoaa
