import Derived.Test.YtjhididnmkbgoaaSt
import Derived.Test.YtjhididnmkbgoaaWe
import Derived.Test.YtjhididnmkbgoaaWg
set_option linter.unusedVariables false
set_option linter.unusedSimpArgs false
namespace Go.Proofs.Ytjhididnmkbgoaa
open Go.RowKit

theorem lvB_pos {area floor : Nat → Int} (rng : Rng area floor) (rep : Nat → Nat) (vol : Nat → Int) (n k : Nat) (hk : k < n) : 1 ≤ lvD area rep n k := lvD_pos rng rep n k hk

set_option maxRecDepth 100000 in
set_option maxHeartbeats 2000000 in
theorem level58_any (w : World) (X : Nat) (va vf vs : Value) (p : Nat → Nat) (s : Nat → Int) (lost : Int) (n : Nat) (area floor : Nat → Int) (hX : SX w X va vf vs p s lost) (hp : ∀ k, p k ≤ k)
    (hA : RdI w va n area) (hF : RdI w vf n floor) (hn8 : n ≤ 8) (rg : Rng area floor) (hs : ∀ k, 0 ≤ s k ∧ s k ≤ 1000000000000) (g : Nat) (hg : g < n) :
    Calls Try.prog 58 #[.pointer (some ⟨X, 0, none⟩), .int .i64 g] w fun e w' => e = .returned (.agg #[.int .i64 (lvA area floor (rootN 9 p) s n g), .int .i64 (lvB area floor (rootN 9 p) s n g)]) ∧ Below w.heap.size w w' := by
  have hD := lvD_pos rg (rootN 9 p) n g hg
  have hr := rootN_le p hp 9 g
  have hsr := hs (rootN 9 p g)
  unfold lvD at hD
  have EN : Hid (lvA area floor (rootN 9 p) s n g = (s (rootN 9 p g) + grpF area floor (fun i => (rootN 9 p i : Int)) (rootN 9 p g) n) / Int.gcd (s (rootN 9 p g) + grpF area floor (fun i => (rootN 9 p i : Int)) (rootN 9 p g) n) (grpA area (fun i => (rootN 9 p i : Int)) (rootN 9 p g) n)) := rfl
  have ED : Hid (lvB area floor (rootN 9 p) s n g = grpA area (fun i => (rootN 9 p i : Int)) (rootN 9 p g) n / Int.gcd (s (rootN 9 p g) + grpF area floor (fun i => (rootN 9 p i : Int)) (rootN 9 p g) n) (grpA area (fun i => (rootN 9 p i : Int)) (rootN 9 p g) n)) := rfl
  have hc := hX.stored (rootN 9 p g) (by omega)
  have FC0 := fun W (hb : Below w.heap.size w W) k (hk : k < 9) => first_any X 3 p W hp (fun k hk => (hX.below hb).pool k hk) k hk
  have hgr := grpA_range rg (fun i => (rootN 9 p i : Int)) (rootN 9 p g)
  have hgf := grpF_range rg (fun i => (rootN 9 p i : Int)) (rootN 9 p g)
  have hAs := fun k => grpA_succ area (fun i => (rootN 9 p i : Int)) (rootN 9 p g) k
  have hFs := fun k => grpF_succ area floor (fun i => (rootN 9 p i : Int)) (rootN 9 p g) k
  have hA0 : grpA area (fun i => (rootN 9 p i : Int)) (rootN 9 p g) 0 = 0 := rfl
  have hF0 : grpF area floor (fun i => (rootN 9 p i : Int)) (rootN 9 p g) 0 = 0 := rfl
  have FG := FC0
  generalize hGA : grpA area (fun i => (rootN 9 p i : Int)) (rootN 9 p g) = GA at *
  generalize hGF : grpF area floor (fun i => (rootN 9 p i : Int)) (rootN 9 p g) = GF at *
  generalize hrg : rootN 9 p g = r at *
  have HRG := Lib.hid hrg
  have HGR := Lib.hid hgr
  have HGF := Lib.hid hgf
  have HAS := Lib.hid hAs
  have HFS := Lib.hid hFs
  have HA0 := Lib.hid hA0
  have HF0 := Lib.hid hF0
  have HFC := Lib.hid FC0
  clear hGA hGF hrg hgr hgf hAs hFs hA0 hF0 FC0 FG
  obtain ⟨A, ca, rfl, la, ra⟩ := hA
  obtain ⟨F, cf, rfl, lf, rf⟩ := hF
  have RA := Lib.hid ra
  have RF := Lib.hid rf
  clear ra rf
  go_enter Try.func58, Try.ntmps58
  go_upto_region 1 with (fail)
  refine wp_world fun W hW => ?_
  have hB : Below w.heap.size w W := by rw [hW]; exact (Below.refl _ _).alloc (Nat.le_refl _) _
  have hk4 : Blk W w.heap.size #[.int .i64 0, .int .i64 0] 107 := by rw [hW]; exact Blk.new _ _ _
  have b0 := (hX.below hB).a
  have b1 := (hX.below hB).f
  clear hW
  have FC := HFC.out W hB g (by omega)
  rw [HRG.out] at FC
  go_wp2_with (go_at_call 66; (with_reducible refine FC.mono ?_); rintro e w' ⟨rfl, rfl⟩)
  go_loop [6, 7, 21] (fun t u i => ∃ k : Nat, k ≤ n ∧ i = .int .i64 k ∧ t = .int .i64 (GA k) ∧ u = .int .i64 (GF k)) (fun _ _ i => n - (intOf i).toNat)
  case atStart => exact ⟨0, by omega, rfl, by rw [HA0.out], by rw [HF0.out]⟩
  case round =>
    obtain ⟨k, hk, rfl, rfl, rfl⟩ := hrel
    have q1 := HGR.out k
    have q2 := HGF.out k
    by_cases hlt : k < n
    · obtain ⟨bA, oA, rfl, cA⟩ := RA.out k hlt
      obtain ⟨bF, oF, rfl, cF⟩ := RF.out k hlt
      have cA := cell_up hB cA
      have cF := cell_up hB cF
      have FC := HFC.out W hB k (by omega)
      have a1 := rg.a1 k
      have a2 := rg.a2 k
      have f1 := rg.f1 k
      have f2 := rg.f2 k
      have pr := rg.prod k
      have AS := Lib.hid (HAS.out k)
      have FS := Lib.hid (HFS.out k)
      generalize hGk : GA k = gk at *
      generalize hFk : GF k = fk at *
      generalize area k = ak at *
      generalize floor k = flk at *
      have HGK := Lib.hid (And.intro hGk hFk)
      clear hGk hFk
      by_cases e : rootN 9 p k = r
      · have e1 : ((rootN 9 p k : Int) == (r : Int)) = true := by simp [e]
        have HR : Hid (GA (k + 1) = gk + ak ∧ GF (k + 1) = fk + ak * flk) := by
          have h1 := AS.out; have h2 := FS.out
          rw [if_pos (by omega)] at h1 h2; exact ⟨h1, h2⟩
        have w1 : IntKind.i64.wrap (gk + ak) = gk + ak := IntWalk.i64_in _ (by omega)
        have w2 : IntKind.i64.wrap (ak * flk) = ak * flk := IntWalk.i64_in _ (by omega)
        have w3 : IntKind.i64.wrap (fk + ak * flk) = fk + ak * flk := IntWalk.i64_in _ (by omega)
        generalize rootN 9 p k = r' at *
        have HE := Lib.hid e
        clear e AS FS pr
        go_wp2_with (go_at_call 66; (with_reducible refine FC.mono ?_); rintro e w' ⟨rfl, rfl⟩)
        go_round
        case rel => exact ⟨k + 1, by omega, by go_num, by rw [HR.out.1], by rw [HR.out.2]⟩
        case measure => simp [intOf]; omega
      · have e1 : ((rootN 9 p k : Int) == (r : Int)) = false := by simp; omega
        have HR : Hid (GA (k + 1) = gk ∧ GF (k + 1) = fk) := by
          have h1 := AS.out; have h2 := FS.out
          rw [if_neg (by omega)] at h1 h2; exact ⟨by omega, by omega⟩
        generalize rootN 9 p k = r' at *
        have HE := Lib.hid e
        clear e AS FS pr
        go_wp2_with (go_at_call 66; (with_reducible refine FC.mono ?_); rintro e w' ⟨rfl, rfl⟩)
        go_round
        case rel => exact ⟨k + 1, by omega, by go_num, by rw [HR.out.1], by rw [HR.out.2]⟩
        case measure => simp [intOf]; omega
    · obtain rfl : k = n := by omega
      have hc' := cell_up hB hc
      have r0 : (0 : Int) ≤ (r : Int) := Int.natCast_nonneg _
      have r1 : (r : Int) < 9 := by omega
      have w1 : IntKind.i64.wrap (s r + GF k) = s r + GF k := IntWalk.i64_in _ (by omega)
      have c40 := hk4.cell 0 rfl
      have c41 := hk4.cell 1 rfl
      have f40 := hk4.frozen 0
      have f41 := hk4.frozen 1
      have LC := fun W' => lowestF_any (s r + GF k) (GA k) W' (by omega) hD (by omega) (by omega)
      go_wp2_with (go_at_call 75; (with_reducible refine (LC _).mono ?_); rintro e w' ⟨rfl, hb⟩; have hk5 := hk4.below hb; have d0 := hk5.cell 0 rfl; have d1 := hk5.cell 1 rfl; have z0 := hk5.frozen 0; have z1 := hk5.frozen 1)
      rw [EN.out, ED.out]
      generalize (s r + GF k) / (Int.gcd (s r + GF k) (GA k) : Int) = y0
      generalize GA k / (Int.gcd (s r + GF k) (GA k) : Int) = y1
      have hk6 := (hk5.set 0 (.int .i64 y0)).set 1 (.int .i64 y1)
      have d2 := hk6.cell 0 rfl
      have d3 := hk6.cell 1 rfl
      refine bodyPost_ret (v := .agg #[.int .i64 y0, .int .i64 y1]) (by simp [results, Try.results58, go_sem, d2, d3]) rfl ⟨rfl, ?_⟩
      exact ((hB.trans (hb.mono hB.size)).setCell (by simp) _).setCell (by simp) _

set_option maxRecDepth 100000 in
set_option maxHeartbeats 2000000 in
theorem levels55_any (w : World) (X : Nat) (va vf vs : Value) (p : Nat → Nat) (s : Nat → Int) (lost : Int) (n : Nat) (area floor : Nat → Int) (hX : SX w X va vf vs p s lost) (hp : ∀ k, p k ≤ k)
    (hA : RdI w va n area) (hF : RdI w vf n floor) (hn8 : n ≤ 8) (rg : Rng area floor) (hs : ∀ k, 0 ≤ s k ∧ s k ≤ 1000000000000) :
    Calls Try.prog 55 #[.pointer (some ⟨X, 0, none⟩)] w fun e w' => ∃ u, e = .returned u ∧ OwP w' w.heap.size u n (lvA area floor (rootN 9 p) s n) (lvB area floor (rootN 9 p) s n) ∧ Below w.heap.size w w' := by
  have LC := fun W (hb : Below w.heap.size w W) g hg => level58_any W X va vf vs p s lost n area floor (hX.below hb) hp (hA.below hb) (hF.below hb) hn8 rg hs g hg
  generalize hy0 : lvA area floor (rootN 9 p) s n = FA at *
  generalize hy1 : lvB area floor (rootN 9 p) s n = FB at *
  have HLC := Lib.hid LC
  clear hy0 hy1 LC
  obtain ⟨A, ca, rfl, la, ra⟩ := hA
  have b0 := hX.a
  clear ra
  go_enter Try.func55, Try.ntmps55
  go_wp2
  go_loopw [3, 12] (fun v x wr => ∃ k : Nat, k ≤ n ∧ x = .int .i64 k ∧ OwP wr w.heap.size v k FA FB ∧ Below w.heap.size w wr) (fun _ x _ => n - (intOf x).toNat)
  case atStart => exact ⟨0, by omega, rfl, World.ownsRow_nil _ _ _ _, Below.refl _ _⟩
  case round =>
    obtain ⟨k, hk, rfl, ho, hB⟩ := hrel
    by_cases hlt : k < n
    · have LC := HLC.out wr hB k hlt
      have HFS : Hid (flat2 (k + 1) FA FB = flat2 k FA FB ++ [.int .i64 (FA k), .int .i64 (FB k)]) := flat2_succ k FA FB
      generalize FA k = y0 at *
      generalize FB k = y1 at *
      go_wp2_with (first | (go_at_call 58; (with_reducible refine LC.mono ?_); rintro e w' ⟨rfl, hb⟩; have hB' := hB.trans (hb.mono hB.size); have ho' := own_up hb ho) | (at_builtin; refine app_one (news := [.int .i64 y0, .int .i64 y1]) 34 47 (.agg #[.int .i64 0, .int .i64 0]) 2 16 Try.underlying34 (by kernel_rfl) rfl (by decide) (by decide) rfl (.tmp 18) (.tmp 24) rfl w.heap.size u3 k _ rfl (World.ownsRow.alloc ho' _) (by rw [World.size_alloc]; rfl) rfl (by simp [Value.oneCell']) (by omega) (by have := hB'.size; simp; omega) ?_; intro v' w1 h1 h2 h3))
      have hB2 := (hB'.alloc hB'.size (.cells #[.int .i64 y0, .int .i64 y1] 107)).grown h2 (by have := hB'.size; simp; omega) (own_base ho')
      go_roundw
      case rel => 
        refine ⟨k + 1, by omega, by go_num, ?_, hB2⟩
        have e := HFS.out
        unfold flat2 at e
        unfold OwP
        rw [e]
        exact h1
      case measure => simp [intOf]; omega
    · obtain rfl : k = n := by omega
      go_wp2
      go_ret
      exact ⟨_, rfl, ho, hB⟩
end Go.Proofs.Ytjhididnmkbgoaa
