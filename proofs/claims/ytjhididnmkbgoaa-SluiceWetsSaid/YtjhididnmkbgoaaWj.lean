import Derived.Test.YtjhididnmkbgoaaWh
import Derived.Test.YtjhididnmkbgoaaWi
import Derived.Deep.CutBlock
set_option linter.unusedVariables false
set_option linter.unusedSimpArgs false
namespace Go.Proofs.Ytjhididnmkbgoaa
open Go.RowKit

def taA (na : Nat) (l : Nat → Int) (i : Nat) : Int := if i < na then wrap64 (1 + wrap64 ((IntKind.u64.wrap (l i)).tmod 100)) else 1
def taF (nf : Nat) (l : Nat → Int) (i : Nat) : Int := if i < nf then wrap64 ((IntKind.u64.wrap (l i)).tmod 101) else 0

theorem u64_range (x : Int) : 0 ≤ IntKind.u64.wrap x ∧ IntKind.u64.wrap x < 18446744073709551616 := by
  unfold IntKind.wrap
  simp [IntKind.bits, IntKind.signed]
  omega

theorem tmod_range (x c : Int) (h0 : 0 ≤ x) (hc : 0 < c) : 0 ≤ x.tmod c ∧ x.tmod c < c := by
  rw [Int.tmod_eq_emod_of_nonneg h0]
  exact ⟨Int.emod_nonneg _ (by omega), Int.emod_lt_of_pos _ hc⟩

theorem wrap64_id (x : Int) (h0 : -9223372036854775808 ≤ x) (h1 : x < 9223372036854775808) : wrap64 x = x := by
  unfold wrap64
  omega

theorem taA_range (na : Nat) (l : Nat → Int) (i : Nat) : 1 ≤ taA na l i ∧ taA na l i ≤ 100 := by
  unfold taA
  split
  · have h := tmod_range (IntKind.u64.wrap (l i)) 100 (u64_range _).1 (by omega)
    have h2 := wrap64_id ((IntKind.u64.wrap (l i)).tmod 100) (by omega) (by omega)
    rw [h2, wrap64_id _ (by omega) (by omega)]
    omega
  · omega

theorem taF_range (nf : Nat) (l : Nat → Int) (i : Nat) : 0 ≤ taF nf l i ∧ taF nf l i ≤ 100 := by
  unfold taF
  split
  · have h := tmod_range (IntKind.u64.wrap (l i)) 101 (u64_range _).1 (by omega)
    rw [wrap64_id _ (by omega) (by omega)]
    omega
  · omega

/-- The law's memory while it makes basins. -/
structure TX (w wr : World) (iv : Array Value) (n m : Nat) (u v us : Value) (area floor A B H : Nat → Int) : Prop where
  b : Below w.heap.size w wr
  k2 : Blk wr w.heap.size iv 25
  k4 : Blk wr (w.heap.size + 1) #[.slice none 0 0, .slice none 0 0, .slice none 0 0] 27
  k5 : Blk wr (w.heap.size + 1 + 1) #[u, v, us] 27
  hu : OwI wr w.heap.size u n area
  hv : OwI wr w.heap.size v n floor
  ht : OwT wr w.heap.size us m A B H

theorem TX.below {w wr w2 : World} {iv : Array Value} {n m : Nat} {u v us : Value} {area floor A B H : Nat → Int} (h : TX w wr iv n m u v us area floor A B H) (hb : Below wr.heap.size wr w2) : TX w w2 iv n m u v us area floor A B H :=
  ⟨h.b.trans (hb.mono h.b.size), h.k2.below hb, h.k4.below hb, h.k5.below hb, h.hu.below hb, h.hv.below hb, h.ht.below hb⟩

/-- Basins that a call made for the reference. -/
def Tame (w : World) (e : Ending) (w' : World) : Prop :=
  ∃ (ua uf us : Value) (n m : Nat) (area floor A B H : Nat → Int), e = .returned (.agg #[ua, uf, us]) ∧ OwI w' w.heap.size ua n area ∧ OwI w' w.heap.size uf n floor ∧ OwT w' w.heap.size us m A B H ∧
    ChkI n n m area floor A B H ∧ (∀ i, 1 ≤ area i ∧ area i ≤ 100) ∧ (∀ i, 0 ≤ floor i ∧ floor i ≤ 100) ∧ (m = 0 → us = .slice none 0 0) ∧ Below w.heap.size w w'

set_option maxRecDepth 100000 in
set_option maxHeartbeats 8000000 in
theorem tame_any (w : World) (va vf vs : Value) (na nf ns : Nat) (la lf A B H : Nat → Int) (hA : RdI w va na la) (hF : RdI w vf nf lf) (hS : RdT w vs ns A B H) :
    Calls Try.prog 14 #[.agg #[va, vf, vs], .int .i64 8] w fun e w' => Tame w e w' := by
  obtain ⟨AA, ca, rfl, _, ra⟩ := id hA
  obtain ⟨FF, cf, rfl, _, rf⟩ := id hF
  obtain ⟨VV, cs, rfl, _, rs⟩ := id hS
  have RA := Lib.hid ra
  have RF := Lib.hid rf
  have RS := Lib.hid rs
  clear ra rf rs
  obtain ⟨n, hn⟩ : ∃ n : Nat, n = max 1 (min na 8) := ⟨_, rfl⟩
  have hn1 : 1 ≤ n := by omega
  have hn8 : n ≤ 8 := by omega
  have HN := Lib.hid hn
  have hmm : (if (1 : Int) < (if (8 : Int) < (na : Int) then 8 else (na : Int)) then (if (8 : Int) < (na : Int) then 8 else (na : Int)) else 1) = (n : Int) := by
    split <;> split <;> (try split at *) <;> omega
  clear hn
  go_enter Try.func14, Try.ntmps14
  go_upto_region 2 with (fail)
  refine wp_world fun W hW => ?_
  have hB : Below w.heap.size w W := by rw [hW]; exact (((Below.refl _ _).alloc (Nat.le_refl _) _).alloc (by simp) _).alloc (by simp; omega) _
  have k2 : Blk W w.heap.size #[.slice AA na ca, .slice FF nf cf, .slice VV ns cs] 25 := by rw [hW]; exact ((Blk.new _ _ _).alloc _).alloc _
  have k4 : Blk W (w.heap.size + 1) #[.slice none 0 0, .slice none 0 0, .slice none 0 0] 27 := by rw [hW]; have := Blk.new (w.alloc (Obj.cells #[Value.slice AA na ca, Value.slice FF nf cf, Value.slice VV ns cs] 25)) #[Value.slice none 0 0, Value.slice none 0 0, .slice none 0 0] 27; simp only [World.size_alloc] at this; exact this.alloc _
  have k5 : Blk W (w.heap.size + 1 + 1) #[.slice none 0 0, .slice none 0 0, .slice none 0 0] 27 := by rw [hW]; have := Blk.new ((w.alloc (Obj.cells #[Value.slice AA na ca, Value.slice FF nf cf, Value.slice VV ns cs] 25)).alloc (Obj.cells #[Value.slice none 0 0, Value.slice none 0 0, .slice none 0 0] 27)) #[Value.slice none 0 0, Value.slice none 0 0, .slice none 0 0] 27; simp only [World.size_alloc] at this; exact this
  clear hW
  have b0 := k2.cell 0 rfl
  go_upto_region 3 with (fail)
  generalize (if (8 : Int) < (na : Int) then (8 : Int) else (na : Int)) = mm at *
  clear hmm
  go_wp2
  go_loopg [7] n (fun gk x wr => ∃ (k : Nat) (u v : Value), k ≤ n ∧ gk = n - k ∧ x = .int .i64 k ∧ Below w.heap.size w wr ∧ Blk wr w.heap.size #[.slice AA na ca, .slice FF nf cf, .slice VV ns cs] 25 ∧ Blk wr (w.heap.size + 1) #[.slice none 0 0, .slice none 0 0, .slice none 0 0] 27 ∧
      Blk wr (w.heap.size + 1 + 1) #[u, v, .slice none 0 0] 27 ∧ OwI wr w.heap.size u k (taA na la) ∧ OwI wr w.heap.size v k (taF nf lf) ∧ (u.ownBlock = none ∨ u.ownBlock ≠ v.ownBlock))
  case atStart => exact ⟨0, _, _, by omega, rfl, rfl, hB, k2, k4, k5, OwI.nil _ _ _, OwI.nil _ _ _, .inl rfl⟩
  case round =>
    obtain ⟨k, u, v, hk, hgk, rfl, hB, k2, k4, k5, hu, hv, huv⟩ := hrel
    have HGK := Lib.hid hgk
    clear hgk b0
    have b0 := k2.cell 0 rfl
    have b1 := k2.cell 1 rfl
    have b2 := k2.cell 2 rfl
    by_cases hlt : k < n
    · go_upto_if 32 with (fail)
      go_cut [8] from 33 to 41 (fun x wx => x = .int .i64 (taA na la k) ∧ wr = wx)
      case first =>
        by_cases hkl : k < na
        · obtain ⟨b, off, rfl, hc⟩ := RA.out k hkl
          have hc := cell_up hB hc
          have HY : Hid (wrap64 (1 + wrap64 ((IntKind.u64.wrap (la k)).tmod 100)) = taA na la k) := by show _ = _; unfold taA; rw [if_pos hkl]
          go_wp2
          go_meet
          exact ⟨by rw [← HY.out], rfl⟩
        · have HY : Hid (1 = taA na la k) := by show _ = _; unfold taA; rw [if_neg hkl]
          go_wp2
          go_meet
          exact ⟨by rw [← HY.out], rfl⟩
      case rest =>
        obtain ⟨rfl, rfl⟩ := hcut
        go_upto_if 46 with (fail)
        go_cut [9] from 47 to 54 (fun x wx => x = .int .i64 (taF nf lf k) ∧ wr = wx)
        case first =>
          by_cases hkl : k < nf
          · obtain ⟨b, off, rfl, hc⟩ := RF.out k hkl
            have hc := cell_up hB hc
            have HY : Hid (wrap64 ((IntKind.u64.wrap (lf k)).tmod 101) = taF nf lf k) := by show _ = _; unfold taF; rw [if_pos hkl]
            go_wp2
            go_meet
            exact ⟨by rw [← HY.out], rfl⟩
          · have HY : Hid (0 = taF nf lf k) := by show _ = _; unfold taF; rw [if_neg hkl]
            go_wp2
            go_meet
            exact ⟨by rw [← HY.out], rfl⟩
        case rest =>
          obtain ⟨rfl, rfl⟩ := hcut
          have d0 := k5.cell 0 rfl
          have d1 := k5.cell 1 rfl
          go_wp2
          go_quiet (fail)
          refine world_name fun W2 hW2 => ?_
          have hB2 : Below w.heap.size w W2 := by rw [hW2]; exact below_drewN hB _
          replace k2 : Blk W2 w.heap.size #[.slice AA na ca, .slice FF nf cf, .slice VV ns cs] 25 := by rw [hW2]; exact k2
          replace k4 : Blk W2 (w.heap.size + 1) #[.slice none 0 0, .slice none 0 0, .slice none 0 0] 27 := by rw [hW2]; exact k4
          replace k5 : Blk W2 (w.heap.size + 1 + 1) #[u, v, .slice none 0 0] 27 := by rw [hW2]; exact k5
          replace hu : OwI W2 w.heap.size u k (taA na la) := by rw [hW2]; exact hu
          replace hv : OwI W2 w.heap.size v k (taF nf lf) := by rw [hW2]; exact hv
          clear hW2 hB b0 b1 b2 d0 d1
          have hs2 := hB2.size
          have l9 := k5.lt
          have nu := k5.ne_own (by decide) hu
          have nv := k5.ne_own (by decide) hv
          go_upto_region 13 with (at_builtin; refine app_int' rfl (.tmp 59) (.tmp 61) rfl w.heap.size u k _ rfl rfl hu hB2 rfl (by omega) (by omega) ?_; intro u1 w1 hu1 hb1 hg1 hat; obtain ⟨g1, q1, rfl⟩ := own_form hu1; have k9' := k5.kept hg1 nu; have d0' := k9'.cell 0 rfl; have f0' := k9'.frozen 0; have hs1 := hb1.size; have hgs := hg1.size)
          refine world_name fun W3 hW3 => ?_
          have hv1 := one_v hv huv hg1
          have nv1 := k9'.ne_own (by decide) hv1
          have nu1 := k9'.ne_own (by decide) hu1
          have hB3 : Below w.heap.size w W3 := by rw [hW3]; exact hb1.setCell (p := ⟨w.heap.size + 1 + 1, 0, none⟩) (by simp; omega) _
          have k2' : Blk W3 w.heap.size #[.slice AA na ca, .slice FF nf cf, .slice VV ns cs] 25 := by rw [hW3]; exact (k2.kept hg1 (k2.ne_own (by decide) hu)).other (by omega) _
          have k4' : Blk W3 (w.heap.size + 1) #[.slice none 0 0, .slice none 0 0, .slice none 0 0] 27 := by rw [hW3]; exact (k4.kept hg1 (k4.ne_own (by decide) hu)).other (by omega) _
          have k5' : Blk W3 (w.heap.size + 1 + 1) #[.slice (some ⟨g1, 0, none⟩) (k + 1) q1, v, .slice none 0 0] 27 := by rw [hW3]; exact k9'.set 0 _
          replace hv1 : OwI W3 w.heap.size v k (taF nf lf) := by rw [hW3]; exact own_set hv1 nv1 0 _
          replace hu1 : OwI W3 w.heap.size (.slice (some ⟨g1, 0, none⟩) (k + 1) q1) (k + 1) (taA na la) := by rw [hW3]; exact own_set hu1 nu1 0 _
          have huv1 : (Value.slice (some ⟨g1, 0, none⟩) (k + 1) q1).ownBlock ≠ v.ownBlock := by
            rcases hat with h | h
            · rw [h]
              rcases huv with h' | h'
              · rw [h'] at h; cases h
              · exact h'
            · rw [h]
              intro e
              have := (hv.lt _ e.symm).2
              omega
          clear hW3 hB2 k2 k4 k5 hu hv hb1 k9' d0' f0' hs1 hgs hs2 l9 nu nv hg1 huv hat
          have hs3 := hB3.size
          have l9 := k5'.lt
          go_wp2_with (at_builtin; refine app_int' rfl (.tmp 64) (.tmp 66) rfl w.heap.size v k _ rfl rfl hv1 hB3 rfl (by omega) (by omega) ?_; intro v2 w2 hv2 hb2 hg2 hat2; obtain ⟨g2, q2, rfl⟩ := own_form hv2; have k9' := k5'.kept hg2 nv1; have d1' := k9'.cell 1 rfl; have f1' := k9'.frozen 1; have hs1 := hb2.size; have hgs := hg2.size)
          have nu2 := k9'.ne_own (by decide) (hu1.kept hg2 (.inr huv1))
          have nv2 := k9'.ne_own (by decide) hv2
          go_roundg (n - (k + 1))
          case measure => have := HGK.out; omega
          case rel =>
            refine ⟨k + 1, _, _, by omega, rfl, by go_num, hb2.setCell (p := ⟨w.heap.size + 1 + 1, 1, none⟩) (by simp; omega) _, (k2'.kept hg2 (k2'.ne_own (by decide) hv1)).other (by omega) _, (k4'.kept hg2 (k4'.ne_own (by decide) hv1)).other (by omega) _, k9'.set 1 _, own_set (hu1.kept hg2 (.inr huv1)) nu2 1 _, own_set hv2 nv2 1 _, .inr ?_⟩
            rcases hat2 with h | h
            · rw [h]; exact huv1
            · rw [h]
              intro e
              have := (hu1.lt _ e).2
              omega
    · obtain rfl : k = n := by omega
      clear HGK hlt hk
      obtain ⟨gg, cg, rfl⟩ := hu.form hn1
      obtain ⟨gv, cw, rfl⟩ := hv.form hn1
      have htx : TX w wr #[.slice AA na ca, .slice FF nf cf, .slice VV ns cs] k 0 (.slice (some ⟨gg, 0, none⟩) k cg) (.slice (some ⟨gv, 0, none⟩) k cw) (.slice none 0 0) (taA na la) (taF nf lf) A B H := ⟨hB, k2, k4, k5, hu, hv, OwT.nil _ _ _ _ _⟩
      have hck : ChkI k k 0 (taA na la) (taF nf lf) A B H := ⟨hn1, hn8, rfl, by omega, fun i _ => taA_range _ _ _, fun i _ => taF_range _ _ _, fun i hi => by omega, fun i hi => by omega⟩
      clear hB k2 k4 k5 hu hv huv HN
      go_wp2
      go_loopg [12] ns (fun gk x wr => ∃ (i m : Nat) (us : Value) (A' B' H' : Nat → Int), i ≤ ns ∧ gk = ns - i ∧ x = .int .i64 i ∧ (m = 0 → us = .slice none 0 0) ∧ ChkI k k m (taA na la) (taF nf lf) A' B' H' ∧
        TX w wr #[.slice AA na ca, .slice FF nf cf, .slice VV ns cs] k m (.slice (some ⟨gg, 0, none⟩) k cg) (.slice (some ⟨gv, 0, none⟩) k cw) us (taA na la) (taF nf lf) A' B' H')
      case atStart => exact ⟨0, 0, _, A, B, H, by omega, rfl, rfl, fun _ => rfl, hck, htx⟩
      case round =>
        obtain ⟨i, m, us, A', B', H', hi, hgk, rfl, hnil, hck, htx⟩ := hrel
        have HNIL := Lib.hid hnil
        clear hnil
        have HGK := Lib.hid hgk
        have HCK := Lib.hid hck
        have hm20 := hck.m20
        obtain ⟨sa, sc, rfl, _, _⟩ := htx.ht.reads (by omega)
        clear hgk hck b0 b1 b2
        have b0 := htx.k2.cell 0 rfl
        have b1 := htx.k2.cell 1 rfl
        have b2 := htx.k2.cell 2 rfl
        by_cases hlt : i < ns ∧ i < 20
        · obtain ⟨hlt, h20⟩ := hlt
          obtain ⟨bs, os, rfl, x0, x1, x2⟩ := RS.out i hlt
          have x0 := cell_up htx.b x0
          have x1 := cell_up htx.b x1
          have x2 := cell_up htx.b x2
          generalize A i = y0 at x0
          generalize B i = y1 at x1
          generalize H i = y2 at x2
          have i0 : (0 : Int) ≤ (i : Int) := Int.natCast_nonneg _
          have i1 : (i : Int) < (ns : Int) := by omega
          have hwn : IntKind.u64.wrap ((k : Int) + 1) = (k : Int) + 1 := by
            unfold IntKind.wrap
            simp [IntKind.bits, IntKind.signed]
            omega
          have hwn2 : IntKind.i64.wrap ((k : Int) + 1) = (k : Int) + 1 := IntWalk.i64_in _ (by omega)
          go_upto_region 17 with (fail)
          go_cut [13, 14] from 69 to 103 (fun x y wx => ∃ xi yi : Int, x = .int .i64 xi ∧ y = .int .i64 yi ∧ ∃ q, wx = wr.drewN q)
          case first =>
            go_quiet (fail)
            go_wp2
            go_meet
            exact ⟨_, _, rfl, rfl, _, rfl⟩
          case rest =>
            obtain ⟨xi, yi, rfl, rfl, q, hq⟩ := hcut
            rename World => W1
            have htx2 := htx.below (w2 := W1) (by rw [hq]; exact below_drewN (Below.refl _ _) q)
            clear hq htx b0 b1 b2 x0 x1 x2
            obtain ⟨bs', os', e4, x0, x1, x2⟩ := RS.out i hlt
            cases e4
            have x2 := cell_up htx2.b x2
            have b2 := htx2.k2.cell 2 rfl
            clear x0 x1
            go_upto_region 18 with (fail)
            go_cut [15] from 104 to 120 (fun x wx => ∃ s0 s1 s2 : Int, x = .pointer (some ⟨W1.heap.size, 0, none⟩) ∧ Blk wx W1.heap.size #[.int .i64 s0, .int .i64 s1, .int .i64 s2] 75 ∧ Below W1.heap.size W1 wx)
            case first =>
              rcases Int.lt_trichotomy xi yi with hxy | hxy | hxy
              · go_wp2
                go_meet
                exact ⟨_, _, _, rfl, Blk.new _ _ _, (Below.refl _ _).alloc (Nat.le_refl _) _⟩
              · subst hxy
                go_wp2
                go_meet
                exact ⟨_, _, _, rfl, Blk.new _ _ _, (Below.refl _ _).alloc (Nat.le_refl _) _⟩
              · go_wp2
                go_meet
                exact ⟨_, _, _, rfl, Blk.new _ _ _, (Below.refl _ _).alloc (Nat.le_refl _) _⟩
            case rest =>
              obtain ⟨s0, s1, s2, rfl, ks, hbx⟩ := hcut
              rename World => W2
              have htx3 := htx2.below hbx
              clear htx2 b2 x2 hbx
              have d0 := htx3.k5.cell 0 rfl
              have d1 := htx3.k5.cell 1 rfl
              have d2 := htx3.k5.cell 2 rfl
              go_upto_region 20 with (fail)
              refine world_name fun W3 hW3 => ?_
              have hb23 : Below W2.heap.size W2 W3 := by rw [hW3]; exact (Below.refl _ _).alloc (Nat.le_refl _) _
              have htx4 := htx3.below hb23
              have kn : Blk W3 W2.heap.size #[.slice (some ⟨gg, 0, none⟩) k cg, .slice (some ⟨gv, 0, none⟩) k cw, .slice sa m sc] 27 := by rw [hW3]; exact Blk.new _ _ _
              have ks3 : Blk W3 W1.heap.size #[.int .i64 s0, .int .i64 s1, .int .i64 s2] 75 := by rw [hW3]; exact ks.alloc _
              have hsz : W3.heap.size = W2.heap.size + 1 := by rw [hW3]; exact World.size_alloc _ _
              clear hW3 ks d0 d1 d2
              have d2 := htx4.k5.cell 2 rfl
              have s0c := ks3.cell 0 rfl
              have s1c := ks3.cell 1 rfl
              have s2c := ks3.cell 2 rfl
              have PC := put_any W3 (.slice sa m sc) m A' B' H' s0 s1 s2 (htx4.ht.reads (by omega)) hm20
              go_upto_region 21 with (go_at_call 49; (with_reducible refine PC.mono ?_); rintro e w' ⟨u2, A2, B2, H2, rfl, ho2, hb2⟩; have kn' := kn.below hb2; have n2c := kn'.cell 2 rfl; have n2f := kn'.frozen 2; obtain ⟨ga, gc, rfl, _, _⟩ := ho2.reads (by omega))
              refine world_name fun W4 hW4 => ?_
              have hb24 : Below W2.heap.size W2 W4 := by rw [hW4]; exact (hb23.trans (hb2.mono (by omega))).setCell (p := ⟨W2.heap.size, 2, none⟩) (by simp) _
              have htx5 := htx3.below hb24
              have kn4 : Blk W4 W2.heap.size #[.slice (some ⟨gg, 0, none⟩) k cg, .slice (some ⟨gv, 0, none⟩) k cw, .slice ga (m + 1) gc] 27 := by rw [hW4]; exact kn'.set 2 _
              have ho4 : OwT W4 w.heap.size (.slice ga (m + 1) gc) (m + 1) A2 B2 H2 := by
                rw [hW4]
                exact (ho2.kept (grown_setCell _ _ _ _) (.inr fun e => by have h1 := (ho2.lt _ e).1; omega)).mono htx4.b.size
              clear hW4 hb23 hb24 htx3 htx4 kn ks3 hsz d2 s0c s1c s2c PC ho2 hb2 kn' n2c n2f
              have n0 := kn4.cell 0 rfl
              have n1 := kn4.cell 1 rfl
              have n2 := kn4.cell 2 rfl
              have CC := rcheck_any W4 (.slice (some ⟨gg, 0, none⟩) k cg) (.slice (some ⟨gv, 0, none⟩) k cw) (.slice ga (m + 1) gc) k k (m + 1) (taA na la) (taF nf lf) A2 B2 H2 (htx5.hu.reads (by omega)) (htx5.hv.reads (by omega)) (ho4.reads (by omega))
              by_cases hck2 : ChkI k k (m + 1) (taA na la) (taF nf lf) A2 B2 H2
              · rw [chkB_true hck2] at CC
                have HCK2 := Lib.hid hck2
                clear hck2
                go_upto_region 22 with (go_at_call 36; (with_reducible refine CC.mono ?_); rintro e w' ⟨rfl, hb5⟩)
                have htx6 := htx5.below hb5
                have kn5 := kn4.below hb5
                have ho5 := ho4.below hb5
                have n0 := kn5.cell 0 rfl
                have n1 := kn5.cell 1 rfl
                have n2 := kn5.cell 2 rfl
                have d0 := htx6.k5.cell 0 rfl
                have d1 := htx6.k5.cell 1 rfl
                have d2 := htx6.k5.cell 2 rfl
                have d0f := htx6.k5.frozen 0
                have d1f := htx6.k5.frozen 1
                have d2f := htx6.k5.frozen 2
                go_wp2
                go_roundg (ns - (i + 1))
                case measure => have := HGK.out; omega
                case rel =>
                  refine ⟨i + 1, m + 1, .slice ga (m + 1) gc, A2, B2, H2, by omega, rfl, by go_num, fun h => by omega, HCK2.out, ?_⟩
                  have nu := htx6.k5.ne_own (by decide) htx6.hu
                  have nv := htx6.k5.ne_own (by decide) htx6.hv
                  have nt := htx6.k5.ne_own (by decide) ho5
                  exact ⟨((htx6.b.setCell (p := ⟨w.heap.size + 1 + 1, 0, none⟩) (by simp; omega) _).setCell (p := ⟨w.heap.size + 1 + 1, 1, none⟩) (by simp; omega) _).setCell (p := ⟨w.heap.size + 1 + 1, 2, none⟩) (by simp; omega) _,
                    ((htx6.k2.other (by omega) _).other (by omega) _).other (by omega) _, ((htx6.k4.other (by omega) _).other (by omega) _).other (by omega) _, ((htx6.k5.set 0 _).set 1 _).set 2 _,
                    own_set (own_set (own_set htx6.hu nu 0 _) nu 1 _) nu 2 _, own_set (own_set (own_set htx6.hv nv 0 _) nv 1 _) nv 2 _,
                    ((ho5.kept (grown_setCell _ _ _ _) (.inr (Ne.symm nt))).kept (grown_setCell _ _ _ _) (.inr (Ne.symm nt))).kept (grown_setCell _ _ _ _) (.inr (Ne.symm nt))⟩
              · rw [chkB_false hck2] at CC
                clear hck2
                go_wp2_with (go_at_call 36; (with_reducible refine CC.mono ?_); rintro e w' ⟨rfl, hb5⟩)
                go_roundg (ns - (i + 1))
                case measure => have := HGK.out; omega
                case rel => exact ⟨i + 1, m, .slice sa m sc, A', B', H', by omega, rfl, by go_num, HNIL.out, HCK.out, htx5.below hb5⟩
        · have d0 := htx.k5.cell 0 rfl
          have d1 := htx.k5.cell 1 rfl
          have d2 := htx.k5.cell 2 rfl
          have e0 := htx.k4.cell 0 rfl
          have e1 := htx.k4.cell 1 rfl
          have e2 := htx.k4.cell 2 rfl
          have f0 := htx.k4.frozen 0
          have f1 := htx.k4.frozen 1
          have f2 := htx.k4.frozen 2
          have nu := htx.k4.ne_own (by decide) htx.hu
          have nv := htx.k4.ne_own (by decide) htx.hv
          have nt := htx.k4.ne_own (by decide) htx.ht
          have z0 := ((htx.k4.set 0 (.slice (some ⟨gg, 0, none⟩) k cg)).set 1 (.slice (some ⟨gv, 0, none⟩) k cw)).set 2 (.slice sa m sc)
          have y0 := z0.cell 0 rfl
          have y1 := z0.cell 1 rfl
          have y2 := z0.cell 2 rfl
          have HT := Lib.hid htx
          by_cases hlt1 : i < ns
          · have h20 : ¬ i < 20 := fun h => hlt ⟨hlt1, h⟩
            clear hlt
            go_wp2
            refine bodyPost_ret (v := .agg #[.slice (some ⟨gg, 0, none⟩) k cg, .slice (some ⟨gv, 0, none⟩) k cw, .slice sa m sc]) (by simp [results, Try.results14, go_sem, y0, y1, y2]) rfl
              ⟨.slice (some ⟨gg, 0, none⟩) k cg, .slice (some ⟨gv, 0, none⟩) k cw, .slice sa m sc, k, m, taA na la, taF nf lf, A', B', H', rfl, own_set (own_set (own_set htx.hu nu 0 _) nu 1 _) nu 2 _, own_set (own_set (own_set htx.hv nv 0 _) nv 1 _) nv 2 _, ?_, HCK.out, taA_range _ _, taF_range _ _, HNIL.out, ((htx.b.setCell (by simp) _).setCell (by simp) _).setCell (by simp) _⟩
            exact ((htx.ht.kept (grown_setCell _ _ _ _) (.inr (Ne.symm nt))).kept (grown_setCell _ _ _ _) (.inr (Ne.symm nt))).kept (grown_setCell _ _ _ _) (.inr (Ne.symm nt))
          · clear hlt
            go_wp2
            refine bodyPost_ret (v := .agg #[.slice (some ⟨gg, 0, none⟩) k cg, .slice (some ⟨gv, 0, none⟩) k cw, .slice sa m sc]) (by simp [results, Try.results14, go_sem, y0, y1, y2]) rfl
              ⟨.slice (some ⟨gg, 0, none⟩) k cg, .slice (some ⟨gv, 0, none⟩) k cw, .slice sa m sc, k, m, taA na la, taF nf lf, A', B', H', rfl, own_set (own_set (own_set htx.hu nu 0 _) nu 1 _) nu 2 _, own_set (own_set (own_set htx.hv nv 0 _) nv 1 _) nv 2 _, ?_, HCK.out, taA_range _ _, taF_range _ _, HNIL.out, ((htx.b.setCell (by simp) _).setCell (by simp) _).setCell (by simp) _⟩
            exact ((htx.ht.kept (grown_setCell _ _ _ _) (.inr (Ne.symm nt))).kept (grown_setCell _ _ _ _) (.inr (Ne.symm nt))).kept (grown_setCell _ _ _ _) (.inr (Ne.symm nt))
end Go.Proofs.Ytjhididnmkbgoaa
