import Derived.Test.YtjhididnmkbgoaaWt
set_option linter.unusedVariables false
set_option linter.unusedSimpArgs false
namespace Go.Proofs.Ytjhididnmkbgoaa
open Go.RowKit

/-- How far a level stands over its floor. -/
def ovF (area floor : Nat → Int) (rep : Nat → Nat) (vol : Nat → Int) (n : Nat) (k : Nat) : Int := lvA area floor rep vol n k - floor k * lvB area floor rep vol n k

def WetRes (n m : Nat) (area floor : Nat → Int) (S : Nat → Slu.Sill) (g : Nat) (x : Int) (w : World) (e : Ending) (w' : World) : Prop :=
  ∃ (u : Value) (st : Slu.St), Slu.Ends (mkBas n m area floor S) (st0 n (aloneF g x)) st ∧ e = .returned (.tuple #[u, .int .i64 0]) ∧ OwN w' w.heap.size u (wets (ovF area floor st.rep st.vol n) n) ∧ Below w.heap.size w w'

set_option maxRecDepth 100000 in
set_option maxHeartbeats 2000000 in
theorem wet23_ok (w : World) (va vf vs : Value) (n m : Nat) (area floor : Nat → Int) (S : Nat → Slu.Sill) (hb : Bs w va vf vs n m area floor S) (g : Nat) (hg : g < n) (x : Int) (hx0 : 0 ≤ x) (hx1 : x ≤ 1000000) :
    Calls Try.prog 23 #[.agg #[va, vf, vs], .int .i64 g, .int .i64 x] w fun e w' => WetRes n m area floor S g x w e w' := by
  have ok := hb.ok
  have hn8 := ok.n8
  obtain ⟨FF, cf, rfl, lf, rf⟩ := id hb.f
  have RF := Lib.hid rf
  clear rf
  go_enter Try.func23, Try.ntmps23
  go_upto_region 1 with (fail)
  refine wp_world fun W hW => ?_
  have hB : Below w.heap.size w W := by rw [hW]; exact (Below.refl _ _).alloc (Nat.le_refl _) _
  have k1 : Blk W w.heap.size #[va, .slice FF n cf, vs] 25 := by rw [hW]; exact Blk.new _ _ _
  clear hW
  have c0 := k1.cell 0 rfl
  have c1 := k1.cell 1 rfl
  have c2 := k1.cell 2 rfl
  have hb1 := hb.below hB
  have OB := openBasin59_ok W va _ vs n m area floor _ _ _ hb1.a hb1.f hb1.s hb1.ck (g : Int)
  rw [show obErr n (g : Int) = 0 by unfold obErr; rw [if_pos (by omega)]] at OB
  have d1 : decide (x < 0) = false := decide_eq_false (by omega)
  have d2 : decide ((1000000 : Int) < x) = false := decide_eq_false (by omega)
  go_upto_region 6 with (go_at_call 59; (with_reducible refine OB.mono ?_); rintro e w1 ⟨rfl, hb1'⟩)
  have hB1 := hB.trans (hb1'.mono hB.size)
  have k2 := k1.below hb1'
  clear OB hb1 hB k1 hb1' c0 c1 c2 d1 d2
  have c0 := k2.cell 0 rfl
  have c1 := k2.cell 1 rfl
  have c2 := k2.cell 2 rfl
  have NS := newState60_any w1 va (.slice FF n cf) vs
  go_upto_region 7 with (go_at_call 60; (with_reducible refine NS.mono ?_); rintro e w3 ⟨X, rfl, hX0, hX, hb3⟩)
  have hX1 : w1.heap.size ≤ X := hX0
  have hb2' := hb.below hB1
  have PC := water_pour ok hb2'.a hb2'.f hb2'.s hX1 (water_new ok hb3 hX) (fun _ => Int.le_refl _) g hg x hx0 (by rw [tot_zero]; omega)
  go_upto_region 8 with (go_at_call 61; (with_reducible refine PC.mono ?_); rintro e w4 ⟨rfl, hb4, p, s, lost, st, hx, hps, hends⟩)
  have hends' : Slu.Ends (mkBas n m area floor S) (st0 n (aloneF g x)) st := by
    rw [st0_congr (g := aloneF g x) (fun k _ => by unfold aloneF; split <;> simp)] at hends; exact hends
  have gd : Slu.Good (mkBas n m area floor S) st := (st0_good ok.ok (am := aloneF g x) (fun k => by unfold aloneF; split <;> omega)).star ok.ok hends'.1
  have hB4 := hB1.trans (hb4.mono hB1.size)
  have k4 := k2.below hb4
  have hb4' := hb.below hB4
  have hs12 : ∀ k, 0 ≤ s k ∧ s k ≤ 1000000000000 := fun k => by have := hps.bd k; omega
  have hpl := hps.le
  have hlv : ∀ k, k < n → lvA area floor st.rep st.vol n k = lvA area floor (rootN 9 p) s n k ∧ lvB area floor st.rep st.vol n k = lvB area floor (rootN 9 p) s n k := fun k hk => by
    rw [← hps.repf]
    refine lv_congr ?_
    have := gd.iv.le k
    exact (hps.vol _ (by omega) (gd.iv.idem k)).symm
  have HEN := Lib.hid (And.intro hends' hlv)
  have HK4 := Lib.hid k4
  have LV := fun W' (hbb : Below w4.heap.size w4 W') k (hk : k < n) => level58_any W' X va _ vs p s lost n area floor (hx.below hbb) hpl (hb4'.a.below hbb) (hb4'.f.below hbb) hn8 ok.rng hs12 k hk
  have hs4 : w.heap.size ≤ w4.heap.size := hB4.size
  obtain ⟨f, hf⟩ : ∃ f, f = ovF area floor st.rep st.vol n := ⟨_, rfl⟩
  have HF := Lib.hid hf
  have cc1 : w4.cell? ⟨w.heap.size, 1, none⟩ = some (.slice FF n cf) := k4.cell 1 rfl
  clear hf hlv hends hends' hps c0 c1 c2 k2 NS PC hb4 hX hb3 hX0 hX1 hb2' k4
  go_wp2
  go_loopg [10, 11, 12, 34] n (fun gk v y11 y12 x wr => ∃ k : Nat, k ≤ n ∧ gk = n - k ∧ x = .int .i64 k ∧ OwN wr w4.heap.size v (wets f k) ∧ Below w4.heap.size w4 wr)
  case atStart => exact ⟨0, by omega, rfl, rfl, World.ownsRow_nil _ _ _ _, Below.refl _ _⟩
  case round =>
    obtain ⟨k, hk, hgk, rfl, ho, hbw⟩ := hrel
    have HGK := Lib.hid hgk
    have HM := Lib.hid (wets_succ f k)
    have HWL := Lib.hid (wets_len f k)
    clear hgk
    by_cases hlt : k < n
    · obtain ⟨bl, ol, rfl, l0⟩ := RF.out k hlt
      have e5 := cell_up hbw (cell_up hB4 l0)
      have i2 : (0 : Int) ≤ (k : Int) := Int.natCast_nonneg _
      have i3 : (k : Int) < (n : Int) := by omega
      have LVk := LV wr hbw k hlt
      have hlvk := HEN.out.2 k hlt
      have HIk := fun W => higher62_any W (lvA area floor (rootN 9 p) s n k) (lvB area floor (rootN 9 p) s n k) (floor k) (by have := ok.rng.f1 k; have := ok.rng.f2 k; omega) (lvB_bd ok.rng _ _ _ _ hn8)
      have hfk : f k = lvA area floor (rootN 9 p) s n k - floor k * lvB area floor (rootN 9 p) s n k := by rw [HF.out]; unfold ovF; rw [hlvk.1, hlvk.2]
      generalize lvA area floor (rootN 9 p) s n k = y0 at *
      generalize lvB area floor (rootN 9 p) s n k = y1 at *
      clear l0 hlvk
      by_cases hp : 0 < f k
      · rw [show decide (floor k * y1 < y0) = true from decide_eq_true (by omega)] at HIk
        have HR : Hid (wets f (k + 1) = wets f k ++ [k]) := by have := HM.out; rw [if_pos hp] at this; exact this
        have hwl := HWL.out
        have HO := Lib.hid ho
        have HBW := Lib.hid hbw
        clear HM ho hbw hp hfk
        go_wp2_with (first | (go_at_call 58; (with_reducible refine LVk.mono ?_); rintro e w5 ⟨rfl, hb5⟩) | (go_at_call 62; (with_reducible refine (HIk _).mono ?_); rintro e w6 ⟨rfl, hb6⟩; have hb46 := HBW.out.trans ((hb5.trans (hb6.mono hb5.size)).mono HBW.out.size); have HO6 := (HO.out.below (hb5.trans (hb6.mono hb5.size)))) | (at_builtin; refine app_one (news := [.int .i64 k]) 22 3 (.int .i64 0) 1 8 Try.underlying22 (by kernel_rfl) rfl (by decide) (by decide) rfl (.tmp 44) (.tmp 46) rfl w4.heap.size _ _ _ rfl HO6 rfl rfl (by simp [Value.oneCell']) (by omega) hb46.size ?_; intro v' w7 h1 h2 h3))
        have hB7 := hb46.grown h2 hb46.size (own_base HO6)
        go_roundg (n - (k + 1))
        case measure => have := HGK.out; omega
        case rel => exact ⟨k + 1, by omega, rfl, by go_num, by rw [HR.out]; exact OwN.snoc h1, hB7⟩
      · rw [show decide (floor k * y1 < y0) = false from decide_eq_false (by omega)] at HIk
        have HR : Hid (wets f (k + 1) = wets f k) := by have := HM.out; rw [if_neg hp] at this; exact this
        have HO := Lib.hid ho
        have HBW := Lib.hid hbw
        clear HM ho hbw hp hfk
        go_wp2_with (first | (go_at_call 58; (with_reducible refine LVk.mono ?_); rintro e w5 ⟨rfl, hb5⟩) | (go_at_call 62; (with_reducible refine (HIk _).mono ?_); rintro e w6 ⟨rfl, hb6⟩))
        have hb56 := hb5.trans (hb6.mono hb5.size)
        go_roundg (n - (k + 1))
        case measure => have := HGK.out; omega
        case rel => exact ⟨k + 1, by omega, rfl, by go_num, by rw [HR.out]; exact HO.out.below hb56, HBW.out.trans (hb56.mono HBW.out.size)⟩
    · obtain rfl : k = n := by omega
      go_wp2
      go_ret2
      refine ⟨_, st, HEN.out.1, rfl, ?_, hB4.trans (hbw.mono hs4)⟩
      rw [← HF.out]
      exact World.ownsRow.mono ho hs4
end Go.Proofs.Ytjhididnmkbgoaa
