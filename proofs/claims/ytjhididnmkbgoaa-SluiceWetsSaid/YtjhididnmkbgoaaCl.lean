import Derived.Test.YtjhididnmkbgoaaCk
set_option linter.unusedVariables false
set_option linter.unusedSimpArgs false
namespace Go.Proofs.Ytjhididnmkbgoaa
open Go.RowKit

def three (a b c : Int) : Nat → Int := fun k => if k = 0 then a else if k = 1 then b else c

theorem cmp_less {a0 a1 a2 b0 b1 b2 : Int} (h : lessB a0 a1 a2 b0 b1 b2 = true) : cmpN (three a0 a1 a2) (three b0 b1 b2) 3 < 0 := by
  have e : cmpN (three a0 a1 a2) (three b0 b1 b2) 3 = if (if cmpI a0 b0 = 0 then cmpI a1 b1 else cmpI a0 b0) = 0 then cmpI a2 b2 else if cmpI a0 b0 = 0 then cmpI a1 b1 else cmpI a0 b0 := by
    simp [cmpN, three]
  rw [e]
  unfold lessB at h
  unfold cmpI
  by_cases p : a0 = b0
  · rw [if_pos p] at h
    subst p
    simp only [Int.lt_irrefl, if_false, if_true]
    by_cases q : a1 = b1
    · rw [if_pos q] at h
      subst q
      simp only [Int.lt_irrefl, if_false, if_true]
      rw [if_pos (by simpa using h)]; decide
    · rw [if_neg q] at h
      have h' : a1 < b1 := by simpa using h
      rw [if_pos h', if_neg (by decide)]; decide
  · rw [if_neg p] at h
    have h' : a0 < b0 := by simpa using h
    rw [if_pos h']; simp

set_option maxRecDepth 100000 in
set_option maxHeartbeats 4000000 in
theorem check47_ok (w : World) (va vf vs : Value) (n m : Nat) (area floor A B H : Nat → Int) (hA : RdI w va n area) (hF : RdI w vf n floor) (hS : RdT w vs m A B H) (hc : ChkI n n m area floor A B H) :
    Calls Try.prog 47 #[.agg #[va, vf, vs]] w fun e w' => e = .returned (.int .i64 0) ∧ Below w.heap.size w w' := by
  have a1 : areB n area 1 100 = true := by unfold areB; exact decide_eq_true hc.ars
  have a2 : areB n floor 0 100 = true := by unfold areB; exact decide_eq_true hc.fls
  have AR1 := fun W (hb : Below w.heap.size w W) => are_any W va n area 1 100 (hA.below hb)
  have AR2 := fun W (hb : Below w.heap.size w W) => are_any W vf n floor 0 100 (hF.below hb)
  rw [a1] at AR1
  rw [a2] at AR2
  have n1 := hc.n1
  have n8 := hc.n8
  have m20 := hc.m20
  have HC := Lib.hid hc
  clear hc a1 a2
  obtain ⟨AA, ca, rfl, la, ra⟩ := hA
  obtain ⟨FF, cf, rfl, lf, rf⟩ := hF
  obtain ⟨VV, cs, rfl, ls, rs⟩ := hS
  have RF := Lib.hid rf
  have RS := Lib.hid rs
  clear ra rf rs
  go_enter Try.func47, Try.ntmps47
  go_upto_region 1 with (fail)
  refine wp_world fun W hW => ?_
  have hB : Below w.heap.size w W := by rw [hW]; exact (Below.refl _ _).alloc (Nat.le_refl _) _
  have k1 : Blk W w.heap.size #[.slice AA n ca, .slice FF n cf, .slice VV m cs] 25 := by rw [hW]; exact Blk.new _ _ _
  clear hW
  have b0 := k1.cell 0 rfl
  have b1 := k1.cell 1 rfl
  have b2 := k1.cell 2 rfl
  have e3 : ((n : Int) != (n : Int)) = false := by simp
  have hmm := @run_makeMap Try.prog
  have d1 : decide ((n : Int) < 1) = false := decide_eq_false (by omega)
  have d2 : decide ((8 : Int) < (n : Int)) = false := decide_eq_false (by omega)
  have d3 : decide ((20 : Int) < (m : Int)) = false := decide_eq_false (by omega)
  go_upto_region 5 with (go_at_call 76; first | ((with_reducible refine (AR1 _ hB).mono ?_); rintro e w1 ⟨rfl, hb1⟩; have hB1 := hB.trans (hb1.mono hB.size); have k1' := k1.below hb1; have b0 := k1'.cell 0 rfl; have b1 := k1'.cell 1 rfl; have b2 := k1'.cell 2 rfl) | ((with_reducible refine (AR2 _ hB1).mono ?_); rintro e w2 ⟨rfl, hb2⟩; have hB2 := hB1.trans (hb2.mono hB1.size); have k2' := k1'.below hb2; have b0 := k2'.cell 0 rfl; have b1 := k2'.cell 1 rfl; have b2 := k2'.cell 2 rfl))
  refine wp_world fun W3 hW3 => ?_
  have hB3 : Below w.heap.size w W3 := by rw [hW3]; exact hB2.alloc hB2.size _
  have k3 : Blk W3 w.heap.size #[.slice AA n ca, .slice FF n cf, .slice VV m cs] 25 := by rw [hW3]; exact k2'.alloc _
  have hmap : SeenAt W3 w2.heap.size 0 H := by rw [hW3]; exact World.ownsMap_made w2 Try.prog 3 (plainElem Try.prog 4)
  have hmb : w.heap.size < w2.heap.size := k2'.lt
  clear hW3 hmm hB2 k2' b0 b1 b2 hb1 hb2 hB1 k1' k1 hB AR1 AR2 d1 d2 d3
  have b0 := k3.cell 0 rfl
  have b1 := k3.cell 1 rfl
  have b2 := k3.cell 2 rfl
  generalize w2.heap.size = mb at *
  go_wp2
  go_loopg [45] m (fun gk x wr => ∃ i : Nat, i ≤ m ∧ gk = m - i ∧ x = .int .i64 i ∧ Below w.heap.size w wr ∧ Blk wr w.heap.size #[.slice AA n ca, .slice FF n cf, .slice VV m cs] 25 ∧ SeenAt wr mb i H)
  case atStart => exact ⟨0, by omega, rfl, rfl, hB3, k3, hmap⟩
  case round =>
    obtain ⟨i, hi, hgk, rfl, hB, k1, hmap⟩ := hrel
    have HGK := Lib.hid hgk
    clear hgk b0 b1 b2 hB3 k3
    have b0 := k1.cell 0 rfl
    have b1 := k1.cell 1 rfl
    have b2 := k1.cell 2 rfl
    by_cases hlt : i < m
    · have hsi := HC.out.sill i hlt
      have hdi := HC.out.dist i hlt
      have h1 := hsi.a0
      have h2 := hsi.ab
      have h3 := hsi.bn
      have h4 := hsi.h1
      have h5 := hsi.h2
      obtain ⟨bs, os, rfl, x0, x1, x2⟩ := RS.out i hlt
      have x0 := cell_up hB x0
      have x1 := cell_up hB x1
      have x2 := cell_up hB x2
      have LK := Lib.hid (seenD_not (H := H) (z := H i) i hdi)
      have HSI := Lib.hid hsi
      have i0 : (0 : Int) ≤ (i : Int) := Int.natCast_nonneg _
      have i1 : (i : Int) < (m : Int) := by omega
      have hseen : Hid (seenD H (i + 1) = (seenD H i).put (.int .i64 (H i)) (.lit (.bool true))) := rfl
      clear hdi hsi
      obtain ⟨a, ha⟩ : ∃ a : Nat, A i = a := ⟨(A i).toNat, by omega⟩
      obtain ⟨b, hb⟩ : ∃ b : Nat, B i = b := ⟨(B i).toNat, by omega⟩
      obtain ⟨z, hz⟩ : ∃ z : Int, H i = z := ⟨_, rfl⟩
      rw [ha] at x0 h1 h2
      rw [hb] at x1 h2 h3
      rw [hz] at x2 h4 h5 LK hseen
      have HV := Lib.hid (And.intro ha (And.intro hb hz))
      clear ha hb hz
      go_wp2
      refine world_name fun W4 hW4 => ?_
      have hB4 : Below w.heap.size w W4 := by rw [hW4]; exact hB.alloc hB.size _
      have k4 : Blk W4 w.heap.size #[.slice AA n ca, .slice FF n cf, .slice (some ⟨bs, os, none⟩) m cs] 25 := by rw [hW4]; exact k1.alloc _
      have kb : Blk W4 wr.heap.size #[.int .i64 (a : Nat), .int .i64 (b : Nat), .int .i64 z] 75 := by rw [hW4]; exact Blk.new _ _ _
      have hm4 : SeenAt W4 mb i H := by rw [hW4]; exact World.ownsMap.alloc hmap _
      have hwb : w.heap.size < wr.heap.size := k1.lt
      clear hW4 hB k1 b0 b1 b2 x0 x1 x2 hmap
      generalize wr.heap.size = bb at *
      have b0 := k4.cell 0 rfl
      have b1 := k4.cell 1 rfl
      have b2 := k4.cell 2 rfl
      have y0 : W4.cell? ⟨bb, 0, none⟩ = some (.int .i64 (a : Nat)) := kb.cell 0 rfl
      have y1 : W4.cell? ⟨bb, 1, none⟩ = some (.int .i64 (b : Nat)) := kb.cell 1 rfl
      have y2 : W4.cell? ⟨bb, 2, none⟩ = some (.int .i64 z) := kb.cell 2 rfl
      have HLK := fun q => (show (Instr.lookup 130 (.map (some mb)) (.int .i64 z) false).run Try.prog (W4.drewN q) = .ok (.bool false) (W4.drewN q) from SeenAt.look (w := W4.drewN q) hm4 (by omega) (by omega) LK.out)
      have e1 : decide ((a : Int) < 0) = false := decide_eq_false (by omega)
      have e2 : decide ((b : Int) ≤ (a : Int)) = false := decide_eq_false (by omega)
      have e2' : decide (b ≤ a) = false := decide_eq_false (by omega)
      have e3 : decide ((n : Int) < (b : Int)) = false := decide_eq_false (by omega)
      have e3' : decide (n < b) = false := decide_eq_false (by omega)
      have e4 : decide (z < 1) = false := decide_eq_false (by omega)
      have e5 : decide (1000 < z) = false := decide_eq_false (by omega)
      go_upto_region 8 with (fail)
      go_cut [96] from 50 to 96 (fun x wx => x = .bool false ∧ ∃ q, wx = W4.drewN q)
      case first =>
        by_cases c8 : i = 0
        · have d8 : decide ((0 : Int) < (i : Int)) = false := decide_eq_false (by omega)
          have d9 : decide (0 < i) = false := decide_eq_false (by omega)
          clear c8
          go_quiet (fail)
          go_wp2
          go_meet
          exact ⟨rfl, _, rfl⟩
        · have d8 : decide ((0 : Int) < (i : Int)) = true := decide_eq_true (by omega)
          have d9 : decide (0 < i) = true := decide_eq_true (by omega)
          have HORD := HSI.out.ord (by omega)
          obtain ⟨j, hij⟩ : ∃ j, i = j + 1 := ⟨i - 1, by omega⟩
          rw [show i - 1 = j by omega] at HORD
          have j0 : (0 : Int) ≤ (j : Int) := Int.natCast_nonneg _
          have j1 : (j : Int) < (m : Int) := by omega
          obtain ⟨bs', os', q4, x0, x1, x2⟩ := RS.out j (by omega)
          cases q4
          have hsub : (i : Int) - 1 = (j : Int) := by omega
          have hw1 : IntKind.i64.wrap (j : Int) = j := IntWalk.i64_in _ (by omega)
          have hw2 : IntKind.i64.wrap ((i : Int) - 1) = j := by rw [hsub]; exact hw1
          have hcp : cmpN (three (A j) (B j) (H j)) (three (a : Nat) (b : Nat) z) 3 < 0 := cmp_less (by
            have := HV.out
            rw [this.1, this.2.1, this.2.2] at HORD
            exact HORD)
          have hr1 : RdI W4 (.slice (some ⟨bs, os + j * 3, none⟩) 3 3) 3 (three (A j) (B j) (H j)) := ⟨_, 3, rfl, by omega, fun k hk => ⟨bs, os + j * 3, rfl, by
            have : k = 0 ∨ k = 1 ∨ k = 2 := by omega
            rcases this with rfl | rfl | rfl
            · exact cell_up hB4 x0
            · exact cell_up hB4 x1
            · exact cell_up hB4 x2⟩⟩
          have hr2 : RdI W4 (.slice (some ⟨bb, 0, none⟩) 3 3) 3 (three (a : Nat) (b : Nat) z) := ⟨_, 3, rfl, by omega, fun k hk => ⟨bb, 0, rfl, by
            have : k = 0 ∨ k = 1 ∨ k = 2 := by omega
            rcases this with rfl | rfl | rfl
            · exact y0
            · exact y1
            · exact y2⟩⟩
          have CP := fun q => compare_any (W4.drewN q) _ _ 3 _ _ (hr1.below (below_drewN (Below.refl _ _) q)) (hr2.below (below_drewN (Below.refl _ _) q))
          generalize cmpN (three (A j) (B j) (H j)) (three (a : Nat) (b : Nat) z) 3 = cc at *
          have e9 : decide (0 ≤ cc) = false := decide_eq_false (by omega)
          have HIJ := Lib.hid hij
          clear hij hcp HORD hr1 hr2 x0 x1 x2
          go_quiet ((go_at_call 70; exact Calls.quiet_of_same (CP _)))
          go_wp2
          go_meet
          exact ⟨rfl, _, rfl⟩
      case rest =>
        obtain ⟨rfl, nq, hwc⟩ := hcut
        obtain ⟨w5, hw5⟩ : ∃ w5, w5 = wc := ⟨_, rfl⟩
        subst hw5
        have hB5 : Below w.heap.size w w5 := by rw [hwc]; exact below_drewN hB4 _
        have k5 : Blk w5 w.heap.size #[.slice AA n ca, .slice FF n cf, .slice (some ⟨bs, os, none⟩) m cs] 25 := by rw [hwc]; exact k4
        have kb5 : Blk w5 bb #[.int .i64 (a : Nat), .int .i64 (b : Nat), .int .i64 z] 75 := by rw [hwc]; exact kb
        have hm5 : SeenAt w5 mb i H := by rw [hwc]; exact hm4
        clear hwc hB4 k4 kb hm4 b0 b1 b2 y0 y1 y2 HLK
        have b0 := k5.cell 0 rfl
        have b1 := k5.cell 1 rfl
        have b2 := k5.cell 2 rfl
        have y0 : w5.cell? ⟨bb, 0, none⟩ = some (.int .i64 (a : Nat)) := kb5.cell 0 rfl
        have y1 : w5.cell? ⟨bb, 1, none⟩ = some (.int .i64 (b : Nat)) := kb5.cell 1 rfl
        have y2 : w5.cell? ⟨bb, 2, none⟩ = some (.int .i64 z) := kb5.cell 2 rfl
        have fa := HSI.out.fa
        have fb := HSI.out.fb
        have hv := HV.out
        rw [hv.1, hv.2.2] at fa
        rw [hv.2.1, hv.2.2] at fb
        simp only [Int.toNat_natCast] at fa fb
        have hFB := Lib.hid fb
        clear hv fb
        obtain ⟨bF, oF, rfl, cA⟩ := RF.out a (by omega)
        have cA := cell_up hB5 cA
        have aa0 : (0 : Int) ≤ (a : Int) := Int.natCast_nonneg _
        have aa1 : (a : Int) < (n : Int) := by omega
        have g1 : decide (z < floor a) = false := decide_eq_false (by omega)
        go_upto_region 10 with (fail)
        go_cut [122] from 97 to 122 (fun x wx => x = .bool false ∧ ∃ q, wx = w5.drewN q)
        case first =>
          by_cases c7 : (b : Int) < (n : Int)
          · have d7 : decide ((b : Int) < (n : Int)) = true := decide_eq_true c7
            have d7' : decide (b < n) = true := decide_eq_true (by omega)
            have hfb := hFB.out c7
            obtain ⟨bF', oF', q5, cB⟩ := RF.out b (by omega)
            cases q5
            have cB := cell_up hB5 cB
            have bb0 : (0 : Int) ≤ (b : Int) := Int.natCast_nonneg _
            have g2 : decide (z < floor b) = false := decide_eq_false (by omega)
            go_quiet (fail)
            go_wp2
            go_meet
            exact ⟨rfl, _, rfl⟩
          · have d7 : decide ((b : Int) < (n : Int)) = false := decide_eq_false c7
            have d7' : decide (b < n) = false := decide_eq_false (by omega)
            clear c7
            go_quiet (fail)
            go_wp2
            go_meet
            exact ⟨rfl, _, rfl⟩
        case rest =>
          obtain ⟨rfl, nq2, hwc⟩ := hcut
          have hB6 : Below w.heap.size w wc := by rw [hwc]; exact below_drewN hB5 _
          have k6 : Blk wc w.heap.size #[.slice AA n ca, .slice (some ⟨bF, oF, none⟩) n cf, .slice (some ⟨bs, os, none⟩) m cs] 25 := by rw [hwc]; exact k5
          have kb6 : Blk wc bb #[.int .i64 (a : Nat), .int .i64 (b : Nat), .int .i64 z] 75 := by rw [hwc]; exact kb5
          have hm6 : SeenAt wc mb i H := by rw [hwc]; exact hm5
          clear hwc hB5 k5 kb5 hm5 b0 b1 b2 y0 y1 y2
          have y2 : wc.cell? ⟨bb, 2, none⟩ = some (.int .i64 z) := kb6.cell 2 rfl
          go_wp2_with (at_mapUpdate; refine wpList_mapUpdate_own _ rfl (.tmp 123) (.tmp 125) (.const (.bool true)) 130 rfl 3 4 (Maps.int_keyed Try.underlying3) Try.underlying130 (plainElem Try.prog 4) mb i (seenD H i) rfl hm6 (by unfold maxLen; omega) _ _ (.int .i64 z) rfl rfl (Maps.keyOf_int_mk Try.underlying3 (wf_small (by omega) (by omega))) (.lit (.bool true)) [] (plainElem_bool Try.underlying4 true) ?_; intro w7 hm7 hg7)
          go_roundg (m - (i + 1))
          case measure => have := HGK.out; omega
          case rel => exact ⟨i + 1, by omega, rfl, by go_num, hB6.grown hg7 hB6.size (fun k e => by cases e; omega), k6.kept hg7 (fun e => by cases e; omega), by unfold SeenAt; rw [hseen.out]; exact hm7⟩
    · obtain rfl : i = m := by omega
      go_wp2
      go_ret
      exact ⟨rfl, hB⟩
end Go.Proofs.Ytjhididnmkbgoaa
