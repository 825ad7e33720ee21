import Derived.Test.YtjhididnmkbgoaaOp
import Derived.Test.YtjhididnmkbgoaaLv
set_option linter.unusedVariables false
set_option linter.unusedSimpArgs false
namespace Go.Proofs.Ytjhididnmkbgoaa
open Go.RowKit

/-- All that is said of basins in memory. -/
structure Bs (w : World) (va vf vs : Value) (n m : Nat) (area floor : Nat → Int) (S : Nat → Slu.Sill) : Prop where
  ok : SOk n m area floor S
  ck : ChkI n n m area floor (fun k => ((S k).a : Int)) (fun k => ((S k).b : Int)) (fun k => (S k).h)
  a : RdI w va n area
  f : RdI w vf n floor
  s : RdT w vs m (fun k => ((S k).a : Int)) (fun k => ((S k).b : Int)) (fun k => (S k).h)

theorem Bs.below {w w' : World} {va vf vs : Value} {n m : Nat} {area floor : Nat → Int} {S : Nat → Slu.Sill} (h : Bs w va vf vs n m area floor S) (hb : Below w.heap.size w w') : Bs w' va vf vs n m area floor S :=
  ⟨h.ok, h.ck, h.a.below hb, h.f.below hb, h.s.below hb⟩

/-- What Pour and More hand back. -/
def PourRes (n m : Nat) (area floor : Nat → Int) (S : Nat → Slu.Sill) (f : Nat → Int) (w : World) (e : Ending) (w' : World) : Prop :=
  ∃ (u : Value) (st : Slu.St), e = .returned (.tuple #[u, .int .i64 (st.vol n), .int .i64 0]) ∧ Slu.Ends (mkBas n m area floor S) (st0 n f) st ∧
    OwP w' w.heap.size u n (lvA area floor st.rep st.vol n) (lvB area floor st.rep st.vol n) ∧ Below w.heap.size w w'

theorem flat2_congr {n : Nat} {A B A' B' : Nat → Int} (h : ∀ k, k < n → A k = A' k ∧ B k = B' k) : flat2 n A B = flat2 n A' B' := by
  induction n with
  | zero => rfl
  | succ n ih =>
    rw [flat2_succ, flat2_succ, ih (fun k hk => h k (by omega))]
    obtain ⟨a, b⟩ := h n (by omega)
    rw [a, b]

theorem OwP.congr {w : World} {base : Nat} {v : Value} {n : Nat} {A B A' B' : Nat → Int} (h : OwP w base v n A B) (e : ∀ k, k < n → A k = A' k ∧ B k = B' k) : OwP w base v n A' B' := by
  have h' : w.ownsRow base 47 2 v n (flat2 n A B) := h
  rw [flat2_congr e] at h'
  exact h'

theorem lv_congr {area floor : Nat → Int} {rep : Nat → Nat} {vol vol' : Nat → Int} {n k : Nat} (h : vol (rep k) = vol' (rep k)) : lvA area floor rep vol n k = lvA area floor rep vol' n k ∧ lvB area floor rep vol n k = lvB area floor rep vol' n k := by
  unfold lvA lvB lvN
  rw [h]
  exact ⟨rfl, rfl⟩

theorem lv_fin {n m : Nat} {area floor : Nat → Int} {S : Nat → Slu.Sill} {p : Nat → Nat} {s : Nat → Int} {lost : Int} {st : Slu.St} (hps : PS n p s lost st) (gd : Slu.Good (mkBas n m area floor S) st) {w : World} {base : Nat} {u : Value}
    (h : OwP w base u n (lvA area floor (rootN 9 p) s n) (lvB area floor (rootN 9 p) s n)) : OwP w base u n (lvA area floor st.rep st.vol n) (lvB area floor st.rep st.vol n) := by
  rw [← hps.repf] at h
  refine h.congr fun k hk => lv_congr ?_
  have := gd.iv.le k
  exact hps.vol _ (by omega) (gd.iv.idem k)

set_option maxRecDepth 100000 in
set_option maxHeartbeats 2000000 in
theorem pour29_any (w : World) (va vf vs vm : Value) (n m : Nat) (area floor am : Nat → Int) (S : Nat → Slu.Sill) (hb : Bs w va vf vs n m area floor S) (hM : RdI w vm n am) (ham : ∀ k, 0 ≤ am k ∧ am k ≤ 1000000) :
    Calls Try.prog 29 #[.agg #[va, vf, vs], vm] w fun e w' => PourRes n m area floor S am w e w' := by
  have hn8 := hb.ok.n8
  have HBS := Lib.hid hb
  obtain ⟨M, cm, rfl, lm, rm⟩ := id hM
  clear rm
  go_enter Try.func29, Try.ntmps29
  go_upto_region 1 with (fail)
  refine wp_world fun W hW => ?_
  have hB : Below w.heap.size w W := by rw [hW]; exact (Below.refl _ _).alloc (Nat.le_refl _) _
  have k1 : Blk W w.heap.size #[va, vf, vs] 25 := by rw [hW]; exact Blk.new _ _ _
  clear hW
  have c0 : W.cell? ⟨w.heap.size, 0, none⟩ = some va := k1.cell 0 rfl
  have c1 : W.cell? ⟨w.heap.size, 1, none⟩ = some vf := k1.cell 1 rfl
  have c2 : W.cell? ⟨w.heap.size, 2, none⟩ = some vs := k1.cell 2 rfl
  have hBm : Below W.heap.size W (W.alloc (.cells #[.slice M n cm] 22)) := (Below.refl _ _).alloc (Nat.le_refl _) _
  have hB1 := hB.trans (hBm.mono hB.size)
  have RL1 : RdL (W.alloc (.cells #[.slice M n cm] 22)) (.slice (some ⟨W.heap.size, 0, none⟩) 1 1) 1 (fun _ => n) (fun _ => am) := ⟨W.heap.size, 1, rfl, by omega, by omega, fun i hi => by
    obtain rfl : i = 0 := by omega
    exact ⟨M, cm, (Blk.new W #[.slice M n cm] 22).cell 0 rfl, hM.below hB1⟩⟩
  have OPC := open53_ok _ va vf vs _ n m 1 area floor _ _ _ _ (hb.a.below hB1) (hb.f.below hB1) (hb.s.below hB1) hb.ck RL1 (fun _ => ham)
  clear RL1 hBm hB1
  go_wp2_with (go_at_call 53; (with_reducible refine OPC.mono ?_); rintro e w1 ⟨rfl, hb1⟩; have k2 := (k1.alloc (.cells #[.slice M n cm] 22)).below hb1; have c0 : w1.cell? ⟨w.heap.size, 0, none⟩ = some va := k2.cell 0 rfl; have c1 : w1.cell? ⟨w.heap.size, 1, none⟩ = some vf := k2.cell 1 rfl; have c2 : w1.cell? ⟨w.heap.size, 2, none⟩ = some vs := k2.cell 2 rfl)
  have hB2 : Below w.heap.size w w1 := (hB.alloc hB.size (.cells #[.slice M n cm] 22)).trans (hb1.mono (by have := hB.size; simp; omega))
  have hBm : Below w1.heap.size w1 (w1.alloc (.cells #[.slice M n cm] 22)) := (Below.refl _ _).alloc (Nat.le_refl _) _
  have hB3 := hB2.trans (hBm.mono hB2.size)
  have RL2 : RdL (w1.alloc (.cells #[.slice M n cm] 22)) (.slice (some ⟨w1.heap.size, 0, none⟩) 1 1) 1 (fun _ => n) (fun _ => am) := ⟨w1.heap.size, 1, rfl, by omega, by omega, fun i hi => by
    obtain rfl : i = 0 := by omega
    exact ⟨M, cm, (Blk.new w1 #[.slice M n cm] 22).cell 0 rfl, hM.below hB3⟩⟩
  have hb3 := hb.below hB3
  go_at_call 54
  (with_reducible refine (poured54_any _ va vf vs _ n m 1 area floor (fun _ => am) S hb3.ok hb3.a hb3.f hb3.s RL2 (by omega) (fun _ => ham)).mono ?_)
  rintro e w4 ⟨X, rfl, hX0, hbw, p, s, lost, st, hx, hps, hends⟩
  have hends' : Slu.Ends (mkBas n m area floor S) (st0 n am) st := by
    rw [st0_congr (g := am) (fun k _ => by simp [Slu.sumN])] at hends; exact hends
  have hB4 : Below w.heap.size w w4 := hB3.trans (hbw.mono hB3.size)
  have hb4 := hb.below hB4
  have gd : Slu.Good (mkBas n m area floor S) st := (st0_good hb.ok.ok (am := am) (fun k => (ham k).1)).star hb.ok.ok hends'.1
  have LV := fun W' (hbb : Below w4.heap.size w4 W') => levels55_any W' X va vf vs p s lost n area floor (hx.below hbb) hps.le (hb4.a.below hbb) (hb4.f.below hbb) hn8 hb.ok.rng (fun k => by have := hps.bd k; omega)
  have cl := hx.lst
  have HEN := Lib.hid hends'
  have HPS := Lib.hid hps
  clear hends hends' hps c0 c1 c2 k1 k2 hb1 hBm RL2 hb3 hB2 hB3 hbw hM OPC hB
  go_upto_region 5 with (fail)
  have LVD := LV w4.drew (Below.refl _ _).drew
  go_region_with ((go_at_call 55; (with_reducible refine LVD.mono ?_); rintro e w5 ⟨u, rfl, hu, hb5⟩; have cl := cell_up hb5 cl))
  all_goals
    have hb5' : Below w4.heap.size w4 w5 := undrew hb5
    have hB5 := hB4.trans (hb5'.mono hB4.size)
    have hfin := lv_fin HPS.out gd hu
    have hlost := HPS.out.lost
    have HF := Lib.hid (And.intro hfin hlost)
    clear hfin hlost hu hb5 hb5' LV LVD
    go_wp2
    go_ret3
    exact ⟨u, st, by rw [← HF.out.2]; rfl, HEN.out, World.ownsRow.mono HF.out.1 hB4.size, hB5⟩
end Go.Proofs.Ytjhididnmkbgoaa
