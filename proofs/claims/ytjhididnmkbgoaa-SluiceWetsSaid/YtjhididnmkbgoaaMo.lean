import Derived.Test.YtjhididnmkbgoaaPr
set_option linter.unusedVariables false
set_option linter.unusedSimpArgs false
namespace Go.Proofs.Ytjhididnmkbgoaa
open Go.RowKit

set_option maxRecDepth 100000 in
set_option maxHeartbeats 2000000 in
theorem more17_any (w : World) (va vf vs vm vq : Value) (n m : Nat) (area floor am aq : Nat → Int) (S : Nat → Slu.Sill) (hb : Bs w va vf vs n m area floor S) (hM : RdI w vm n am) (hQ : RdI w vq n aq) (ham : ∀ k, 0 ≤ am k ∧ am k ≤ 1000000) (haq : ∀ k, 0 ≤ aq k ∧ aq k ≤ 1000000) :
    Calls Try.prog 17 #[.agg #[va, vf, vs], vm, vq] w fun e w' => PourRes n m area floor S (fun k => am k + aq k) w e w' := by
  have hn8 := hb.ok.n8
  have HBS := Lib.hid hb
  obtain ⟨M, cm, rfl, lm, rm⟩ := id hM
  obtain ⟨M', cm', rfl, lm', rm'⟩ := id hQ
  have hall : ∀ i k, 0 ≤ (if i = 0 then am else aq) k ∧ (if i = 0 then am else aq) k ≤ 1000000 := fun i k => by split; exact ham k; exact haq k
  have HALL := Lib.hid hall
  clear rm rm' hall
  go_enter Try.func17, Try.ntmps17
  go_upto_region 1 with (fail)
  refine wp_world fun W hW => ?_
  have hB : Below w.heap.size w W := by rw [hW]; exact (Below.refl _ _).alloc (Nat.le_refl _) _
  have k1 : Blk W w.heap.size #[va, vf, vs] 25 := by rw [hW]; exact Blk.new _ _ _
  clear hW
  have c0 : W.cell? ⟨w.heap.size, 0, none⟩ = some va := k1.cell 0 rfl
  have c1 : W.cell? ⟨w.heap.size, 1, none⟩ = some vf := k1.cell 1 rfl
  have c2 : W.cell? ⟨w.heap.size, 2, none⟩ = some vs := k1.cell 2 rfl
  have hBm : Below W.heap.size W (W.alloc (.cells #[.slice M n cm, .slice M' n cm'] 22)) := (Below.refl _ _).alloc (Nat.le_refl _) _
  have hB1 := hB.trans (hBm.mono hB.size)
  have RL1 : RdL (W.alloc (.cells #[.slice M n cm, .slice M' n cm'] 22)) (.slice (some ⟨W.heap.size, 0, none⟩) 2 2) 2 (fun _ => n) (fun i => if i = 0 then am else aq) := ⟨W.heap.size, 2, rfl, by omega, by omega, fun i hi => by
    have : i = 0 ∨ i = 1 := by omega
    rcases this with rfl | rfl
    · exact ⟨M, cm, (Blk.new W #[.slice M n cm, .slice M' n cm'] 22).cell 0 rfl, hM.below hB1⟩
    · exact ⟨M', cm', (Blk.new W #[.slice M n cm, .slice M' n cm'] 22).cell 1 rfl, hQ.below hB1⟩⟩
  have OPC := open53_ok _ va vf vs _ n m 2 area floor _ _ _ _ (hb.a.below hB1) (hb.f.below hB1) (hb.s.below hB1) hb.ck RL1 HALL.out
  clear RL1 hBm hB1
  go_wp2_with (go_at_call 53; (with_reducible refine OPC.mono ?_); rintro e w1 ⟨rfl, hb1⟩; have k2 := (k1.alloc (.cells #[.slice M n cm, .slice M' n cm'] 22)).below hb1; have c0 : w1.cell? ⟨w.heap.size, 0, none⟩ = some va := k2.cell 0 rfl; have c1 : w1.cell? ⟨w.heap.size, 1, none⟩ = some vf := k2.cell 1 rfl; have c2 : w1.cell? ⟨w.heap.size, 2, none⟩ = some vs := k2.cell 2 rfl)
  have hB2 : Below w.heap.size w w1 := (hB.alloc hB.size (.cells #[.slice M n cm, .slice M' n cm'] 22)).trans (hb1.mono (by have := hB.size; simp; omega))
  have hBm : Below w1.heap.size w1 (w1.alloc (.cells #[.slice M n cm, .slice M' n cm'] 22)) := (Below.refl _ _).alloc (Nat.le_refl _) _
  have hB3 := hB2.trans (hBm.mono hB2.size)
  have RL2 : RdL (w1.alloc (.cells #[.slice M n cm, .slice M' n cm'] 22)) (.slice (some ⟨w1.heap.size, 0, none⟩) 2 2) 2 (fun _ => n) (fun i => if i = 0 then am else aq) := ⟨w1.heap.size, 2, rfl, by omega, by omega, fun i hi => by
    have : i = 0 ∨ i = 1 := by omega
    rcases this with rfl | rfl
    · exact ⟨M, cm, (Blk.new w1 #[.slice M n cm, .slice M' n cm'] 22).cell 0 rfl, hM.below hB3⟩
    · exact ⟨M', cm', (Blk.new w1 #[.slice M n cm, .slice M' n cm'] 22).cell 1 rfl, hQ.below hB3⟩⟩
  have hb3 := hb.below hB3
  go_at_call 54
  (with_reducible refine (poured54_any _ va vf vs _ n m 2 area floor (fun i => if i = 0 then am else aq) S hb3.ok hb3.a hb3.f hb3.s RL2 (by omega) HALL.out).mono ?_)
  rintro e w4 ⟨X, rfl, hX0, hbw, p, s, lost, st, hx, hps, hends⟩
  have hends' : Slu.Ends (mkBas n m area floor S) (st0 n fun k => am k + aq k) st := by
    rw [st0_congr (g := fun k => am k + aq k) (fun k _ => by simp [Slu.sumN])] at hends; exact hends
  have hB4 : Below w.heap.size w w4 := hB3.trans (hbw.mono hB3.size)
  have hb4 := hb.below hB4
  have gd : Slu.Good (mkBas n m area floor S) st := (st0_good hb.ok.ok (am := fun k => am k + aq k) (fun k => by have := ham k; have := haq k; omega)).star hb.ok.ok hends'.1
  have LV := fun W' (hbb : Below w4.heap.size w4 W') => levels55_any W' X va vf vs p s lost n area floor (hx.below hbb) hps.le (hb4.a.below hbb) (hb4.f.below hbb) hn8 hb.ok.rng (fun k => by have := hps.bd k; omega)
  have cl := hx.lst
  have HEN := Lib.hid hends'
  have HPS := Lib.hid hps
  clear hends hends' hps c0 c1 c2 k1 k2 hb1 hBm RL2 hb3 hB2 hB3 hbw hM hQ OPC hB
  go_upto_region 5 with (fail)
  have LVD := LV w4.drew (Below.refl _ _).drew
  go_region_with ((go_at_call 55; (with_reducible refine LVD.mono ?_); rintro e w5 ⟨u, rfl, hu, hb5⟩; have cl := cell_up hb5 cl))
  all_goals
    have hb5' : Below w4.heap.size w4 w5 := undrew hb5
    have hB5 := hB4.trans (hb5'.mono hB4.size)
    have hfin := lv_fin HPS.out gd hu
    have hlost := HPS.out.lost
    have HF := Lib.hid (And.intro hfin hlost)
    clear hfin hlost hu hb5 hb5' LV LVD
    go_wp2
    go_ret3
    exact ⟨u, st, by rw [← HF.out.2]; rfl, HEN.out, World.ownsRow.mono HF.out.1 hB4.size, hB5⟩
end Go.Proofs.Ytjhididnmkbgoaa
