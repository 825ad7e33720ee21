import Derived.Test.YtjhididnmkbgoaaWb
import Derived.Deep.CutBlock
set_option linter.unusedVariables false
set_option linter.unusedSimpArgs false
namespace Go.Proofs.Ytjhididnmkbgoaa
open Go.RowKit

structure SillI (n : Nat) (floor A B H : Nat → Int) (i : Nat) : Prop where
  a0 : 0 ≤ A i
  ab : A i < B i
  bn : B i ≤ n
  h1 : 1 ≤ H i
  h2 : H i ≤ 1000
  fa : floor (A i).toNat ≤ H i
  fb : B i < n → floor (B i).toNat ≤ H i
  ord : 0 < i → lessB (A (i - 1)) (B (i - 1)) (H (i - 1)) (A i) (B i) (H i) = true

structure ChkI (n nf m : Nat) (area floor A B H : Nat → Int) : Prop where
  n1 : 1 ≤ n
  n8 : n ≤ 8
  nf : nf = n
  m20 : m ≤ 20
  ars : ∀ i, i < n → 1 ≤ area i ∧ area i ≤ 100
  fls : ∀ i, i < n → 0 ≤ floor i ∧ floor i ≤ 100
  sill : ∀ i, i < m → SillI n floor A B H i
  dist : ∀ i, i < m → ∀ k, k < i → H k ≠ H i

noncomputable def chkB (n nf m : Nat) (area floor A B H : Nat → Int) : Bool := @decide (ChkI n nf m area floor A B H) (Classical.propDecidable _)
theorem chkB_true {n nf m : Nat} {area floor A B H : Nat → Int} (h : ChkI n nf m area floor A B H) : chkB n nf m area floor A B H = true := by unfold chkB; simp [h]
theorem chkB_false {n nf m : Nat} {area floor A B H : Nat → Int} (h : ¬ ChkI n nf m area floor A B H) : chkB n nf m area floor A B H = false := by unfold chkB; simp [h]

set_option maxRecDepth 100000 in
set_option maxHeartbeats 4000000 in
theorem rcheck_any (w : World) (va vf vs : Value) (n nf m : Nat) (area floor A B H : Nat → Int) (hA : RdI w va n area) (hF : RdI w vf nf floor) (hS : RdT w vs m A B H) :
    Calls Try.prog 36 #[.agg #[va, vf, vs]] w fun e w' => e = .returned (.bool (chkB n nf m area floor A B H)) ∧ Below w.heap.size w w' := by
  obtain ⟨AA, ca, rfl, la, ra⟩ := hA
  obtain ⟨FF, cf, rfl, lf, rf⟩ := hF
  obtain ⟨VV, cs, rfl, ls, rs⟩ := hS
  have RA := Lib.hid ra
  have RF := Lib.hid rf
  have RS := Lib.hid rs
  clear ra rf rs
  go_enter Try.func36, Try.ntmps36
  go_upto_region 1 with (fail)
  refine wp_world fun W hW => ?_
  have hB : Below w.heap.size w W := by rw [hW]; exact (Below.refl _ _).alloc (Nat.le_refl _) _
  have k1 : Blk W w.heap.size #[.slice AA n ca, .slice FF nf cf, .slice VV m cs] 27 := by rw [hW]; exact Blk.new _ _ _
  clear hW
  have b0 := k1.cell 0 rfl
  have b1 := k1.cell 1 rfl
  have b2 := k1.cell 2 rfl
  by_cases h1 : n < 1
  · have hc := Lib.hid (chkB_false (n := n) (nf := nf) (m := m) (area := area) (floor := floor) (A := A) (B := B) (H := H) fun h => by have := h.n1; omega)
    go_wp2
    go_ret
    exact ⟨by first | rfl | (rw [hc.out]; rfl), hB⟩
  by_cases h2 : 8 < n
  · have hc := Lib.hid (chkB_false (n := n) (nf := nf) (m := m) (area := area) (floor := floor) (A := A) (B := B) (H := H) fun h => by have := h.n8; omega)
    go_wp2
    go_ret
    exact ⟨by first | rfl | (rw [hc.out]; rfl), hB⟩
  by_cases h3 : nf ≠ n
  · have hc := Lib.hid (chkB_false (n := n) (nf := nf) (m := m) (area := area) (floor := floor) (A := A) (B := B) (H := H) fun h => by have := h.nf; omega)
    have e3 : ((nf : Int) != (n : Int)) = true := by simp; omega
    go_wp2
    go_ret
    exact ⟨by first | rfl | (rw [hc.out]; rfl), hB⟩
  obtain rfl : nf = n := by omega
  by_cases h4 : 20 < m
  · have hc := Lib.hid (chkB_false (n := nf) (nf := nf) (m := m) (area := area) (floor := floor) (A := A) (B := B) (H := H) fun h => by have := h.m20; omega)
    have e3 : ((nf : Int) != (nf : Int)) = false := by simp
    go_wp2
    go_ret
    exact ⟨by first | rfl | (rw [hc.out]; rfl), hB⟩
  have e3 : ((nf : Int) != (nf : Int)) = false := by simp
  clear h3
  go_wp2
  go_loopg [4] nf (fun gk x wr => ∃ k : Nat, k ≤ nf ∧ gk = nf - k ∧ x = .int .i64 k ∧ Below w.heap.size w wr ∧ Blk wr w.heap.size #[.slice AA nf ca, .slice FF nf cf, .slice VV m cs] 27 ∧ (∀ j, j < k → (1 ≤ area j ∧ area j ≤ 100) ∧ (0 ≤ floor j ∧ floor j ≤ 100)))
  case atStart => exact ⟨0, by omega, rfl, rfl, hB, k1, fun j hj => by omega⟩
  case round =>
    obtain ⟨k, hk, hgk, rfl, hB, k1, hj⟩ := hrel
    have HGK := Lib.hid hgk
    have HJ := Lib.hid hj
    clear hgk hj b0 b1 b2
    have b0 := k1.cell 0 rfl
    have b1 := k1.cell 1 rfl
    have b2 := k1.cell 2 rfl
    by_cases hlt : k < nf
    · obtain ⟨bA, oA, rfl, cA⟩ := RA.out k hlt
      obtain ⟨bF, oF, rfl, cF⟩ := RF.out k hlt
      have cA := cell_up hB cA
      have cF := cell_up hB cF
      generalize hak : area k = ak at cA
      generalize hfk : floor k = fk at cF
      have HV := Lib.hid (And.intro hak hfk)
      clear hak hfk
      have hc := fun hbad : (ak < 1 ∨ 100 < ak ∨ fk < 0 ∨ 100 < fk) => chkB_false (n := nf) (nf := nf) (m := m) (area := area) (floor := floor) (A := A) (B := B) (H := H) fun h => by
        have h1 := h.ars k hlt
        have h2 := h.fls k hlt
        rw [HV.out.1] at h1
        rw [HV.out.2] at h2
        omega
      by_cases g1 : ak < 1
      · have hc := Lib.hid (hc (.inl g1))
        go_wp2
        go_ret
        exact ⟨by first | rfl | (rw [hc.out]; rfl), hB⟩
      by_cases g2 : 100 < ak
      · have hc := Lib.hid (hc (.inr (.inl g2)))
        go_wp2
        go_ret
        exact ⟨by first | rfl | (rw [hc.out]; rfl), hB⟩
      by_cases g3 : fk < 0
      · have hc := Lib.hid (hc (.inr (.inr (.inl g3))))
        go_wp2
        go_ret
        exact ⟨by first | rfl | (rw [hc.out]; rfl), hB⟩
      by_cases g4 : 100 < fk
      · have hc := Lib.hid (hc (.inr (.inr (.inr g4))))
        go_wp2
        go_ret
        exact ⟨by first | rfl | (rw [hc.out]; rfl), hB⟩
      clear hc
      go_wp2
      go_roundg (nf - (k + 1))
      case measure => have := HGK.out; omega
      case rel => exact ⟨k + 1, by omega, rfl, by go_num, hB, k1, fun j hj => by
        by_cases e : j = k
        · subst e; have := HV.out; rw [this.1, this.2]; omega
        · exact HJ.out j (by omega)⟩
    · obtain rfl : k = nf := by omega
      clear HGK hlt hk
      go_wp2
      go_loopg [5] m (fun gk x wr => ∃ i : Nat, i ≤ m ∧ gk = m - i ∧ x = .int .i64 i ∧ Below w.heap.size w wr ∧ Blk wr w.heap.size #[.slice AA k ca, .slice FF k cf, .slice VV m cs] 27 ∧ (∀ j, j < i → SillI k floor A B H j ∧ ∀ q, q < j → H q ≠ H j))
      case atStart => exact ⟨0, by omega, rfl, rfl, hB, k1, fun j hj => by omega⟩
      case round =>
        obtain ⟨i, hi, hgk, rfl, hB, k1, hq⟩ := hrel
        have HGK := Lib.hid hgk
        have HQ := Lib.hid hq
        clear hgk hq b0 b1 b2
        have b0 := k1.cell 0 rfl
        have b1 := k1.cell 1 rfl
        have b2 := k1.cell 2 rfl
        by_cases hlt : i < m
        · obtain ⟨bs, os, rfl, x0, x1, x2⟩ := RS.out i hlt
          have x0 := cell_up hB x0
          have x1 := cell_up hB x1
          have x2 := cell_up hB x2
          generalize hai : A i = ai at x0
          generalize hbi : B i = bi at x1
          generalize hhi : H i = zi at x2
          have HV := Lib.hid (And.intro hai (And.intro hbi hhi))
          clear hai hbi hhi
          have i0 : (0 : Int) ≤ (i : Int) := Int.natCast_nonneg _
          have i1 : (i : Int) < (m : Int) := by omega
          go_wp2
          go_quiet (fail)
          refine world_name fun W2 hW2 => ?_
          have hB2 : Below w.heap.size w W2 := by rw [hW2]; exact below_drewN hB _
          replace k1 : Blk W2 w.heap.size #[.slice AA k ca, .slice FF k cf, .slice (some ⟨bs, os, none⟩) m cs] 27 := by rw [hW2]; exact k1
          clear hW2 hB b0 b1 b2 x0 x1 x2
          obtain ⟨bad, hbad⟩ : ∃ bad : Bool, (bad = true ↔ ¬ SillI k floor A B H i) := by
            by_cases h : SillI k floor A B H i
            · exact ⟨false, by simp [h]⟩
            · exact ⟨true, by simp [h]⟩
          have HBAD := Lib.hid hbad
          clear hbad
          go_upto_region 13 with (fail)
          go_cut [153] from 92 to 153 (fun x wx => x = .bool bad ∧ Below w.heap.size w wx ∧ Blk wx w.heap.size #[.slice AA k ca, .slice FF k cf, .slice (some ⟨bs, os, none⟩) m cs] 27)
          case first =>
            have b0 := k1.cell 0 rfl
            have b1 := k1.cell 1 rfl
            have b2 := k1.cell 2 rfl
            by_cases c1 : ai < 0
            · have d1 : decide (ai < 0) = true := decide_eq_true c1
              go_quiet (fail)
              go_wp2
              go_meet
              exact ⟨by rw [HBAD.out.2 (fun s => by obtain ⟨q0, q1, q2⟩ := HV.out; have := s.a0; omega)], below_drewN hB2 _, k1⟩
            have d1 : decide (ai < 0) = false := decide_eq_false c1
            by_cases c2 : bi ≤ ai
            · have d2 : decide (bi ≤ ai) = true := decide_eq_true c2
              go_quiet (fail)
              go_wp2
              go_meet
              exact ⟨by rw [HBAD.out.2 (fun s => by obtain ⟨q0, q1, q2⟩ := HV.out; have := s.ab; omega)], below_drewN hB2 _, k1⟩
            have d2 : decide (bi ≤ ai) = false := decide_eq_false c2
            by_cases c3 : (k : Int) < bi
            · have d3 : decide ((k : Int) < bi) = true := decide_eq_true c3
              go_quiet (fail)
              go_wp2
              go_meet
              exact ⟨by rw [HBAD.out.2 (fun s => by obtain ⟨q0, q1, q2⟩ := HV.out; have := s.bn; omega)], below_drewN hB2 _, k1⟩
            have d3 : decide ((k : Int) < bi) = false := decide_eq_false c3
            by_cases c4 : zi < 1
            · have d4 : decide (zi < 1) = true := decide_eq_true c4
              go_quiet (fail)
              go_wp2
              go_meet
              exact ⟨by rw [HBAD.out.2 (fun s => by obtain ⟨q0, q1, q2⟩ := HV.out; have := s.h1; omega)], below_drewN hB2 _, k1⟩
            have d4 : decide (zi < 1) = false := decide_eq_false c4
            by_cases c5 : 1000 < zi
            · have d5 : decide (1000 < zi) = true := decide_eq_true c5
              go_quiet (fail)
              go_wp2
              go_meet
              exact ⟨by rw [HBAD.out.2 (fun s => by obtain ⟨q0, q1, q2⟩ := HV.out; have := s.h2; omega)], below_drewN hB2 _, k1⟩
            have d5 : decide (1000 < zi) = false := decide_eq_false c5
            obtain ⟨a, rfl⟩ : ∃ a : Nat, ai = a := ⟨ai.toNat, by omega⟩
            obtain ⟨b, rfl⟩ : ∃ b : Nat, bi = b := ⟨bi.toNat, by omega⟩
            obtain ⟨bF, oF, rfl, cA⟩ := RF.out a (by omega)
            have cA := cell_up hB2 cA
            have aa0 : (0 : Int) ≤ (a : Int) := Int.natCast_nonneg _
            have aa1 : (a : Int) < (k : Int) := by omega
            by_cases c6 : zi < floor a
            · have d6 : decide (zi < floor a) = true := decide_eq_true c6
              go_quiet (fail)
              go_wp2
              go_meet
              exact ⟨by rw [HBAD.out.2 (fun s => by obtain ⟨q0, q1, q2⟩ := HV.out; have := s.fa; rw [q0, q2] at this; simp at this; omega)], below_drewN hB2 _, k1⟩
            have d6 : decide (zi < floor a) = false := decide_eq_false c6
            by_cases c7 : (b : Int) < (k : Int)
            · have d7 : decide ((b : Int) < (k : Int)) = true := decide_eq_true c7
              obtain ⟨bF', oF', e5, cB⟩ := RF.out b (by omega)
              cases e5
              have cB := cell_up hB2 cB
              have bb0 : (0 : Int) ≤ (b : Int) := Int.natCast_nonneg _
              by_cases c7b : zi < floor b
              · have d7b : decide (zi < floor b) = true := decide_eq_true c7b
                go_quiet (fail)
                go_wp2
                go_meet
                exact ⟨by rw [HBAD.out.2 (fun s => by obtain ⟨q0, q1, q2⟩ := HV.out; have := s.fb (by rw [q1]; exact c7); rw [q1, q2] at this; simp at this; omega)], below_drewN hB2 _, k1⟩
              have d7b : decide (zi < floor b) = false := decide_eq_false c7b
              by_cases c8 : i = 0
              · have d8 : decide ((0 : Int) < (i : Int)) = false := decide_eq_false (by omega)
                have d9 : decide (0 < i) = false := decide_eq_false (by omega)
                have C8 := Lib.hid (Int.ofNat_inj.2 c8)
                clear c8
                go_quiet (fail)
                go_wp2
                go_meet
                exact ⟨by
                  obtain ⟨q0, q1, q2⟩ := HV.out
                  have c8 := Int.ofNat_inj.1 C8.out
                  have hs : SillI k floor A B H i := SillI.mk (by rw [q0]; omega) (by rw [q0, q1]; omega) (by rw [q1]; omega) (by rw [q2]; omega) (by rw [q2]; omega) (by rw [q0, q2]; simp; omega) (by rw [q1, q2]; intro hx; simp; omega) (fun h => absurd h (by omega))
                  have : bad = false := by cases bad with | false => rfl | true => exact absurd hs (HBAD.out.1 rfl)
                  rw [this], below_drewN hB2 _, k1⟩
              obtain ⟨j, hij⟩ : ∃ j, i = j + 1 := ⟨i - 1, by omega⟩
              have d8 : decide ((0 : Int) < (i : Int)) = true := decide_eq_true (by omega)
              have d9 : decide (0 < i) = true := decide_eq_true (by omega)
              obtain ⟨bs', os', e4, y0, y1, y2⟩ := RS.out j (by omega)
              cases e4
              obtain ⟨bs', os', e4, x0, x1, x2⟩ := RS.out i hlt
              cases e4
              obtain ⟨q0, q1, q2⟩ := HV.out
              rw [q0] at x0
              rw [q1] at x1
              rw [q2] at x2
              clear q0 q1 q2 c8
              have j0 : (0 : Int) ≤ (j : Int) := Int.natCast_nonneg _
              have j1 : (j : Int) < (m : Int) := by omega
              have hsub : (i : Int) - 1 = (j : Int) := by omega
              have hw1 : IntKind.i64.wrap (j : Int) = j := IntWalk.i64_in _ (by omega)
              have hw2 : IntKind.i64.wrap ((i : Int) - 1) = j := by rw [hsub]; exact hw1
              have HIJ := Lib.hid (show i = j + 1 from hij)
              clear hij
              have b0x := fun x => Ext.cell b0 x
              have b1x := fun x => Ext.cell b1 x
              have b2x := fun x => Ext.cell b2 x
              have cAx := fun x => Ext.cell cA x
              have cBx := fun x => Ext.cell cB x
              have x0x := fun x => Ext.cell (cell_up hB2 x0) x
              have x1x := fun x => Ext.cell (cell_up hB2 x1) x
              have x2x := fun x => Ext.cell (cell_up hB2 x2) x
              have y0x := fun x => Ext.cell (cell_up hB2 y0) x
              have y1x := fun x => Ext.cell (cell_up hB2 y1) x
              have y2x := fun x => Ext.cell (cell_up hB2 y2) x
              refine wp_region_ext (by kernel_rfl) (by kernel_rfl) ?_
              repeat (go_big_quiet_step ((go_at_call 72; refine calls_ext (less_any (A j) (B j) (H j) a b zi _))))
              refine wpQuiet_nil ?_
              rintro _ ⟨W3, rfl⟩
              generalize hl : lessB (A j) (B j) (H j) a b zi = ll
              have HLL := Lib.hid hl
              clear hl
              go_wp2
              go_meet
              refine ⟨?_, hB2.trans (W3.below.mono hB2.size), k1.below W3.below⟩
              obtain ⟨q0, q1, q2⟩ := HV.out
              have hij := HIJ.out
              have hl := HLL.out
              cases ll with
              | true =>
                have hs : SillI k floor A B H i := SillI.mk (by rw [q0]; omega) (by rw [q0, q1]; omega) (by rw [q1]; omega) (by rw [q2]; omega) (by rw [q2]; omega) (by rw [q0, q2]; simp; omega) (by rw [q1, q2]; intro hx; simp; omega) (fun h => by rw [q0, q1, q2, show i - 1 = j by omega]; exact hl)
                have : bad = false := by cases bad with | false => rfl | true => exact absurd hs (HBAD.out.1 rfl)
                rw [this]; rfl
              | false =>
                rw [HBAD.out.2 (fun s => by have := s.ord (by omega); rw [q0, q1, q2, show i - 1 = j by omega, hl] at this; cases this)]; rfl
            · have hbk : k = b := by omega
              subst hbk
              clear c3 c7 d3
              have d7 : decide ((k : Int) < (k : Int)) = false := decide_eq_false (by omega)
              by_cases c8 : i = 0
              · have d8 : decide ((0 : Int) < (i : Int)) = false := decide_eq_false (by omega)
                have d9 : decide (0 < i) = false := decide_eq_false (by omega)
                have C8 := Lib.hid (Int.ofNat_inj.2 c8)
                clear c8
                go_quiet (fail)
                go_wp2
                go_meet
                exact ⟨by
                  obtain ⟨q0, q1, q2⟩ := HV.out
                  have c8 := Int.ofNat_inj.1 C8.out
                  have hs : SillI k floor A B H i := SillI.mk (by rw [q0]; omega) (by rw [q0, q1]; omega) (by rw [q1]; omega) (by rw [q2]; omega) (by rw [q2]; omega) (by rw [q0, q2]; simp; omega) (by rw [q1, q2]; intro hx; omega) (fun h => absurd h (by omega))
                  have : bad = false := by cases bad with | false => rfl | true => exact absurd hs (HBAD.out.1 rfl)
                  rw [this], below_drewN hB2 _, k1⟩
              obtain ⟨j, hij⟩ : ∃ j, i = j + 1 := ⟨i - 1, by omega⟩
              have d8 : decide ((0 : Int) < (i : Int)) = true := decide_eq_true (by omega)
              have d9 : decide (0 < i) = true := decide_eq_true (by omega)
              obtain ⟨bs', os', e4, y0, y1, y2⟩ := RS.out j (by omega)
              cases e4
              obtain ⟨bs', os', e4, x0, x1, x2⟩ := RS.out i hlt
              cases e4
              obtain ⟨q0, q1, q2⟩ := HV.out
              rw [q0] at x0
              rw [q1] at x1
              rw [q2] at x2
              clear q0 q1 q2 c8
              have j0 : (0 : Int) ≤ (j : Int) := Int.natCast_nonneg _
              have j1 : (j : Int) < (m : Int) := by omega
              have hsub : (i : Int) - 1 = (j : Int) := by omega
              have hw1 : IntKind.i64.wrap (j : Int) = j := IntWalk.i64_in _ (by omega)
              have hw2 : IntKind.i64.wrap ((i : Int) - 1) = j := by rw [hsub]; exact hw1
              have HIJ := Lib.hid (show i = j + 1 from hij)
              clear hij
              have b0x := fun x => Ext.cell b0 x
              have b1x := fun x => Ext.cell b1 x
              have b2x := fun x => Ext.cell b2 x
              have cAx := fun x => Ext.cell cA x
              have x0x := fun x => Ext.cell (cell_up hB2 x0) x
              have x1x := fun x => Ext.cell (cell_up hB2 x1) x
              have x2x := fun x => Ext.cell (cell_up hB2 x2) x
              have y0x := fun x => Ext.cell (cell_up hB2 y0) x
              have y1x := fun x => Ext.cell (cell_up hB2 y1) x
              have y2x := fun x => Ext.cell (cell_up hB2 y2) x
              refine wp_region_ext (by kernel_rfl) (by kernel_rfl) ?_
              repeat (go_big_quiet_step ((go_at_call 72; refine calls_ext (less_any (A j) (B j) (H j) a k zi _))))
              refine wpQuiet_nil ?_
              rintro _ ⟨W3, rfl⟩
              generalize hl : lessB (A j) (B j) (H j) a k zi = ll
              have HLL := Lib.hid hl
              clear hl
              go_wp2
              go_meet
              refine ⟨?_, hB2.trans (W3.below.mono hB2.size), k1.below W3.below⟩
              obtain ⟨q0, q1, q2⟩ := HV.out
              have hij := HIJ.out
              have hl := HLL.out
              cases ll with
              | true =>
                have hs : SillI k floor A B H i := SillI.mk (by rw [q0]; omega) (by rw [q0, q1]; omega) (by rw [q1]; omega) (by rw [q2]; omega) (by rw [q2]; omega) (by rw [q0, q2]; simp; omega) (by rw [q1, q2]; intro hx; omega) (fun h => by rw [q0, q1, q2, show i - 1 = j by omega]; exact hl)
                have : bad = false := by cases bad with | false => rfl | true => exact absurd hs (HBAD.out.1 rfl)
                rw [this]; rfl
              | false =>
                rw [HBAD.out.2 (fun s => by have := s.ord (by omega); rw [q0, q1, q2, show i - 1 = j by omega, hl] at this; cases this)]; rfl
          case rest =>
            obtain ⟨rfl, hB3, k1'⟩ := hcut
            have b2 := k1'.cell 2 rfl
            cases bad with
            | true =>
              have hc := Lib.hid (chkB_false (n := k) (nf := k) (m := m) (area := area) (floor := floor) (A := A) (B := B) (H := H) fun h => HBAD.out.1 rfl (h.sill i hlt))
              go_wp2
              go_ret
              exact ⟨by first | rfl | (rw [hc.out]; rfl), hB3⟩
            | false =>
              have hsi : SillI k floor A B H i := Classical.byContradiction fun h => by have := HBAD.out.2 h; cases this
              go_wp2
              go_loopg [9] i (fun gk x wr => ∃ q : Nat, q ≤ i ∧ gk = i - q ∧ x = .int .i64 q ∧ Below w.heap.size w wr ∧ Blk wr w.heap.size #[.slice AA k ca, .slice FF k cf, .slice (some ⟨bs, os, none⟩) m cs] 27 ∧ (∀ p, p < q → H p ≠ H i))
              case atStart => exact ⟨0, by omega, rfl, rfl, hB3, k1', fun j hj => by omega⟩
              case round =>
                obtain ⟨q, hqi, hgk, rfl, hB4, k1, hp⟩ := hrel
                have HGK2 := Lib.hid hgk
                have HP := Lib.hid hp
                have b2 := k1.cell 2 rfl
                clear hgk hp
                by_cases hlt2 : q < i
                · obtain ⟨bs', os', e4, y0, y1, y2⟩ := RS.out q (by omega)
                  cases e4
                  have y2 := cell_up hB4 y2
                  have i2 : (0 : Int) ≤ (q : Int) := Int.natCast_nonneg _
                  have i3 : (q : Int) < (m : Int) := by omega
                  clear y0 y1
                  by_cases e : H q = zi
                  · have e2 : (H q == zi) = true := by simp [e]
                    have hc := Lib.hid (chkB_false (n := k) (nf := k) (m := m) (area := area) (floor := floor) (A := A) (B := B) (H := H) fun h => h.dist i hlt q hlt2 (by rw [e, HV.out.2.2]))
                    clear e
                    go_wp2
                    go_ret
                    exact ⟨by first | rfl | (rw [hc.out]; rfl), hB4⟩
                  · have e2 : (H q == zi) = false := by simp [e]
                    have E := Lib.hid e
                    clear e
                    go_wp2
                    go_roundg (i - (q + 1))
                    case measure => have := HGK2.out; omega
                    case rel => exact ⟨q + 1, by omega, rfl, by go_num, hB4, k1, fun p hp => by
                      by_cases e : p = q
                      · subst e; rw [HV.out.2.2]; exact E.out
                      · exact HP.out p (by omega)⟩
                · obtain rfl : q = i := by omega
                  go_wp2
                  go_roundg (m - (q + 1))
                  case measure => have := HGK.out; omega
                  case rel => exact ⟨q + 1, by omega, rfl, by go_num, hB4, k1, fun j hj => by
                    by_cases e : j = q
                    · subst e; exact ⟨hsi, HP.out⟩
                    · exact HQ.out j (by omega)⟩
        · obtain rfl : i = m := by omega
          have hc := Lib.hid (chkB_true (n := k) (nf := k) (m := i) (area := area) (floor := floor) (A := A) (B := B) (H := H) ⟨by omega, by omega, rfl, by omega, fun j hj => (HJ.out j hj).1, fun j hj => (HJ.out j hj).2, fun j hj => (HQ.out j hj).1, fun j hj => (HQ.out j hj).2⟩)
          go_wp2
          go_ret
          exact ⟨by first | rfl | (rw [hc.out]; rfl), hB⟩
end Go.Proofs.Ytjhididnmkbgoaa
