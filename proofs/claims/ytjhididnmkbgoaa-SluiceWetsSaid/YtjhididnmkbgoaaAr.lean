import Derived.Test.YtjhididnmkbgoaaHi
import Derived.Test.YtjhididnmkbgoaaMo
set_option linter.unusedVariables false
set_option linter.unusedSimpArgs false
namespace Go.Proofs.Ytjhididnmkbgoaa
open Go.RowKit

theorem eq107 (d : Nat) (a0 a1 b0 b1 : Int) (w : World) :
    (Op.equalIn (d + 2) 107 (.agg #[.int .i64 a0, .int .i64 a1]) (.agg #[.int .i64 b0, .int .i64 b1])).run Try.prog w = .ok (a0 == b0 && a1 == b1) w := by
  have hs : (sizeOf 2).run Try.prog w = .ok 1 w := by kernel_rfl
  have p0 : ∀ x y : Int, (part 2 #[.int .i64 x, .int .i64 y] 0).run Try.prog w = .ok (.int .i64 x) w := fun _ _ => by kernel_rfl
  have p1 : ∀ x y : Int, (part 2 #[.int .i64 x, .int .i64 y] 1).run Try.prog w = .ok (.int .i64 y) w := fun _ _ => by kernel_rfl
  unfold Op.equalIn
  simp only [Sem.run_bind, run_underlying Try.underlying107, Result.andThen_ok, hs]
  simp [List.range', p0, p1, run_equalIn_int w d 2 .i64 .i64 _ _ Try.underlying2, Sem.run_bind]
  by_cases h0 : a0 = b0 <;> by_cases h1 : a1 = b1 <;> simp [h0, h1]

theorem neq107 (a0 a1 b0 b1 : Int) (w : World) :
    (binOp .neq 107 (.agg #[.int .i64 a0, .int .i64 a1]) (.agg #[.int .i64 b0, .int .i64 b1])).run Try.prog w = .ok (.bool (!(a0 == b0 && a1 == b1))) w := by
  rw [run_neq_struct, eq107 9998]; rfl

theorem sameP_false {n r : Nat} {A B A' B' : Nat → Int} {k : Nat} (hk : k < r) (h : ¬ (A k = A' k ∧ B k = B' k)) : sameP r A B n A' B' = false := by
  unfold sameP
  exact decide_eq_false fun hh => h (hh.2 k hk)
theorem sameP_len {n r : Nat} {A B A' B' : Nat → Int} (h : r ≠ n) : sameP r A B n A' B' = false := by
  unfold sameP
  exact decide_eq_false fun hh => h hh.1
theorem sameP_true {r : Nat} {A B A' B' : Nat → Int} (h : ∀ k, k < r → A k = A' k ∧ B k = B' k) : sameP r A B r A' B' = true := by
  unfold sameP
  exact decide_eq_true ⟨rfl, h⟩

/-- What AreLevels hands back. -/
def AreRes (n m : Nat) (area floor : Nat → Int) (S : Nat → Slu.Sill) (am : Nat → Int) (r : Nat) (LA LB : Nat → Int) (lost : Int) (w : World) (e : Ending) (w' : World) : Prop :=
  ∃ st : Slu.St, Slu.Ends (mkBas n m area floor S) (st0 n am) st ∧ e = .returned (.tuple #[.bool (sameP r LA LB n (lvA area floor st.rep st.vol n) (lvB area floor st.rep st.vol n) && decide (st.vol n = lost)), .int .i64 0]) ∧ Below w.heap.size w w'

set_option maxRecDepth 100000 in
set_option maxHeartbeats 2000000 in
theorem areLevels22_any (w : World) (va vf vs vm vl : Value) (n m r : Nat) (area floor am LA LB : Nat → Int) (S : Nat → Slu.Sill) (lost : Int) (hb : Bs w va vf vs n m area floor S) (hM : RdI w vm n am) (ham : ∀ k, 0 ≤ am k ∧ am k ≤ 1000000) (hL : RdP w vl r LA LB) :
    Calls Try.prog 22 #[.agg #[va, vf, vs], vm, vl, .int .i64 lost] w fun e w' => AreRes n m area floor S am r LA LB lost w e w' := by
  have hn8 := hb.ok.n8
  have HBS := Lib.hid hb
  obtain ⟨AA, ca, rfl, la, _⟩ := id hb.a
  obtain ⟨M, cm, rfl, lm, rm⟩ := id hM
  obtain ⟨L, cl, rfl, ll, rl⟩ := id hL
  have RL := Lib.hid rl
  clear rm rl
  go_enter Try.func22, Try.ntmps22
  go_upto_region 1 with (fail)
  refine wp_world fun W hW => ?_
  have hB : Below w.heap.size w W := by rw [hW]; exact (Below.refl _ _).alloc (Nat.le_refl _) _
  have k1 : Blk W w.heap.size #[.slice AA n ca, vf, vs] 25 := by rw [hW]; exact Blk.new _ _ _
  clear hW
  have c0 : W.cell? ⟨w.heap.size, 0, none⟩ = some (.slice AA n ca) := k1.cell 0 rfl
  have c1 : W.cell? ⟨w.heap.size, 1, none⟩ = some vf := k1.cell 1 rfl
  have c2 : W.cell? ⟨w.heap.size, 2, none⟩ = some vs := k1.cell 2 rfl
  have hBm : Below W.heap.size W (W.alloc (.cells #[.slice M n cm] 22)) := (Below.refl _ _).alloc (Nat.le_refl _) _
  have hB1 := hB.trans (hBm.mono hB.size)
  have RL1 : RdL (W.alloc (.cells #[.slice M n cm] 22)) (.slice (some ⟨W.heap.size, 0, none⟩) 1 1) 1 (fun _ => n) (fun _ => am) := ⟨W.heap.size, 1, rfl, by omega, by omega, fun i hi => by
    obtain rfl : i = 0 := by omega
    exact ⟨M, cm, (Blk.new W #[.slice M n cm] 22).cell 0 rfl, hM.below hB1⟩⟩
  have OPC := open53_ok _ _ vf vs _ n m 1 area floor _ _ _ _ (hb.a.below hB1) (hb.f.below hB1) (hb.s.below hB1) hb.ck RL1 (fun _ => ham)
  clear RL1 hBm hB1
  go_wp2_with (go_at_call 53; (with_reducible refine OPC.mono ?_); rintro e w1 ⟨rfl, hb1⟩; have k2 := (k1.alloc (.cells #[.slice M n cm] 22)).below hb1; have c0 : w1.cell? ⟨w.heap.size, 0, none⟩ = some (.slice AA n ca) := k2.cell 0 rfl; have c1 : w1.cell? ⟨w.heap.size, 1, none⟩ = some vf := k2.cell 1 rfl; have c2 : w1.cell? ⟨w.heap.size, 2, none⟩ = some vs := k2.cell 2 rfl)
  have hB2 : Below w.heap.size w w1 := (hB.alloc hB.size (.cells #[.slice M n cm] 22)).trans (hb1.mono (by have := hB.size; simp; omega))
  have hBm : Below w1.heap.size w1 (w1.alloc (.cells #[.slice M n cm] 22)) := (Below.refl _ _).alloc (Nat.le_refl _) _
  have hB3 := hB2.trans (hBm.mono hB2.size)
  have RL2 : RdL (w1.alloc (.cells #[.slice M n cm] 22)) (.slice (some ⟨w1.heap.size, 0, none⟩) 1 1) 1 (fun _ => n) (fun _ => am) := ⟨w1.heap.size, 1, rfl, by omega, by omega, fun i hi => by
    obtain rfl : i = 0 := by omega
    exact ⟨M, cm, (Blk.new w1 #[.slice M n cm] 22).cell 0 rfl, hM.below hB3⟩⟩
  have hb3 := hb.below hB3
  go_at_call 54
  (with_reducible refine (poured54_any _ _ vf vs _ n m 1 area floor (fun _ => am) S hb3.ok hb3.a hb3.f hb3.s RL2 (by omega) (fun _ => ham)).mono ?_)
  rintro e w4 ⟨X, rfl, hX0, hbw, p, s, lost0, st, hx, hps, hends⟩
  have hends' : Slu.Ends (mkBas n m area floor S) (st0 n am) st := by
    rw [st0_congr (g := am) (fun k _ => by simp [Slu.sumN])] at hends; exact hends
  have hB4 : Below w.heap.size w w4 := hB3.trans (hbw.mono hB3.size)
  have hb4 := hb.below hB4
  have gd : Slu.Good (mkBas n m area floor S) st := (st0_good hb.ok.ok (am := am) (fun k => (ham k).1)).star hb.ok.ok hends'.1
  have k24 : Blk w4 w.heap.size #[.slice AA n ca, vf, vs] 25 := (k2.below hBm).below hbw
  have hs12 : ∀ k, 0 ≤ s k ∧ s k ≤ 1000000000000 := fun k => by have := hps.bd k; omega
  have hpl := hps.le
  have hlv : ∀ k, k < n → lvA area floor st.rep st.vol n k = lvA area floor (rootN 9 p) s n k ∧ lvB area floor st.rep st.vol n k = lvB area floor (rootN 9 p) s n k := fun k hk => by
    rw [← hps.repf]
    refine lv_congr ?_
    have := gd.iv.le k
    exact (hps.vol _ (by omega) (gd.iv.idem k)).symm
  have hlost := hps.lost
  have HEN := Lib.hid (And.intro hends' (And.intro hlv hlost))
  clear hends hends' hps hlv c0 c1 c2 k1 k2 hb1 hBm RL2 hb3 hB2 hB3 hbw hM OPC hB hX0 hlost
  have hs4 : w.heap.size ≤ w4.heap.size := hB4.size
  have cl0 := hx.lst
  have c0 : w4.cell? ⟨w.heap.size, 0, none⟩ = some (.slice AA n ca) := k24.cell 0 rfl
  by_cases hr : r = n
  · subst hr
    have e1 : ((r : Int) != (r : Int)) = false := by simp
    by_cases hl : lost0 = lost
    · have e2 : (lost0 != lost) = false := by simp [hl]
      have HL := Lib.hid hl
      clear hl
      have LV := fun W' (hbb : Below w4.heap.size w4 W') k (hk : k < r) => level58_any W' X _ vf vs p s lost0 r area floor (hx.below hbb) hpl (hb4.a.below hbb) (hb4.f.below hbb) hn8 hb.ok.rng hs12 k hk
      go_wp2
      go_loopg [12, 13, 41] r (fun gk y12 y13 x wr => ∃ k : Nat, k ≤ r ∧ gk = r - k ∧ x = .int .i64 k ∧ Below w4.heap.size w4 wr ∧ ∀ j, j < k → LA j = lvA area floor (rootN 9 p) s r j ∧ LB j = lvB area floor (rootN 9 p) s r j)
      case atStart => exact ⟨0, by omega, rfl, rfl, Below.refl _ _, fun j hj => by omega⟩
      case round =>
        obtain ⟨k, hk, hgk, rfl, hbw, hall⟩ := hrel
        have HGK := Lib.hid hgk
        have HAL := Lib.hid hall
        clear hgk hall
        by_cases hlt : k < r
        · obtain ⟨g1, o1, rfl, q1, q2⟩ := RL.out k hlt
          have q1 := cell_up hbw (cell_up hB4 q1)
          have q2 := cell_up hbw (cell_up hB4 q2)
          have LVk := fun W' (hbb : Below wr.heap.size wr W') => LV W' (hbw.trans (hbb.mono hbw.size)) k hlt
          have HLV := Lib.hid (HEN.out.2.1 k hlt)
          generalize hy0 : lvA area floor (rootN 9 p) s r k = y0 at *
          generalize hy1 : lvB area floor (rootN 9 p) s r k = y1 at *
          have HY := Lib.hid (And.intro hy0 hy1)
          have hne := fun W => neq107 y0 y1 (LA k) (LB k) W
          have i0 : (0 : Int) ≤ (k : Int) := Int.natCast_nonneg _
          have i1 : (k : Int) < (r : Int) := by omega
          clear hy0 hy1
          by_cases d : (!(y0 == LA k && y1 == LB k)) = false
          · have D := Lib.hid d
            rw [d] at hne
            clear d
            go_upto_region 10 with (fail)
            refine wp_world fun W6 hW6 => ?_
            have hb6 : Below wr.heap.size wr W6 := by rw [hW6]; exact (Below.refl _ _).alloc (Nat.le_refl _) _
            have k6 : Blk W6 wr.heap.size #[.int .i64 (LA k), .int .i64 (LB k)] 47 := by rw [hW6]; exact Blk.new _ _ _
            clear hW6
            have X0 := fun x : Ext W6 => Ext.cell (k6.cell 0 rfl) x
            have X1 := fun x : Ext W6 => Ext.cell (k6.cell 1 rfl) x
            have LVx := fun x : Ext W6 => LVk (W6.ext x) (hb6.trans (x.below.mono hb6.size))
            refine wp_region_ext (by kernel_rfl) (by kernel_rfl) ?_
            repeat (go_big_quiet_step ((go_at_call 58; with_reducible exact calls_ext (LVx _))))
            refine wpQuiet_nil ?_
            rintro _ ⟨nq, rfl⟩
            have hb7 := hb6.trans (nq.below.mono hb6.size)
            clear X0 X1 LVx LVk hne
            go_wp2
            go_roundg (r - (k + 1))
            case measure => have := HGK.out; omega
            case rel => exact ⟨k + 1, by omega, rfl, by go_num, hbw.trans (hb7.mono hbw.size), fun j hj => by
              by_cases h : j = k
              · rw [h, HY.out.1, HY.out.2]; have := D.out; simp at this; exact ⟨this.1.symm, this.2.symm⟩
              · exact HAL.out j (by omega)⟩
          · have d' : (!(y0 == LA k && y1 == LB k)) = true := by rw [← Bool.not_eq_false]; exact d
            have D := Lib.hid d
            rw [d'] at hne
            clear d d'
            go_upto_region 10 with (fail)
            refine wp_world fun W6 hW6 => ?_
            have hb6 : Below wr.heap.size wr W6 := by rw [hW6]; exact (Below.refl _ _).alloc (Nat.le_refl _) _
            have k6 : Blk W6 wr.heap.size #[.int .i64 (LA k), .int .i64 (LB k)] 47 := by rw [hW6]; exact Blk.new _ _ _
            clear hW6
            have X0 := fun x : Ext W6 => Ext.cell (k6.cell 0 rfl) x
            have X1 := fun x : Ext W6 => Ext.cell (k6.cell 1 rfl) x
            have LVx := fun x : Ext W6 => LVk (W6.ext x) (hb6.trans (x.below.mono hb6.size))
            refine wp_region_ext (by kernel_rfl) (by kernel_rfl) ?_
            repeat (go_big_quiet_step ((go_at_call 58; with_reducible exact calls_ext (LVx _))))
            refine wpQuiet_nil ?_
            rintro _ ⟨nq, rfl⟩
            have hb7 := hb6.trans (nq.below.mono hb6.size)
            clear X0 X1 LVx LVk hne
            go_wp2
            go_ret2
            refine ⟨st, HEN.out.1, ?_, hB4.trans ((hbw.trans (hb7.mono hbw.size)).mono hs4)⟩
            rw [sameP_false hlt (fun h => D.out (by rw [HLV.out.1, HLV.out.2] at h; simp [h.1, h.2]))]
            rfl
        · obtain rfl : k = r := by omega
          go_wp2
          go_ret2
          refine ⟨st, HEN.out.1, ?_, hB4.trans (hbw.mono hs4)⟩
          rw [sameP_true (fun j hj => by rw [(HEN.out.2.1 j hj).1, (HEN.out.2.1 j hj).2]; exact HAL.out j hj), decide_eq_true (by rw [← HEN.out.2.2]; exact HL.out)]
          rfl
    · have e2 : (lost0 != lost) = true := by simp [hl]
      have HL := Lib.hid hl
      clear hl
      go_wp2
      go_ret2
      refine ⟨st, HEN.out.1, ?_, hB4⟩
      rw [decide_eq_false (by rw [← HEN.out.2.2]; exact HL.out), Bool.and_false]
      rfl
  · have e1 : ((r : Int) != (n : Int)) = true := by simp; omega
    have HR := Lib.hid hr
    clear hr
    go_wp2
    go_ret2
    refine ⟨st, HEN.out.1, ?_, hB4⟩
    rw [sameP_len HR.out]
    rfl
end Go.Proofs.Ytjhididnmkbgoaa
