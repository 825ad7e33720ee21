import Derived.Test.YtjhididnmkbgoaaLq
set_option linter.unusedVariables false
set_option linter.unusedSimpArgs false
namespace Go.Proofs.Ytjhididnmkbgoaa
open Go.RowKit

/-- One basin alone. -/
def aloneF (g : Nat) (x : Int) : Nat → Int := fun k => if k = g then x else 0

/-- What Room hands back. -/
def RoomRes (n m : Nat) (area floor : Nat → Int) (S : Nat → Slu.Sill) (g : Nat) (w : World) (e : Ending) (w' : World) : Prop :=
  Below w.heap.size w w' ∧ ∃ xs : List (BQ (n - 1)), SB (dOf (n - 1) m S) xs ∧
    ((lipF g n (fun i => i) (sOf xs) = 0 ∧ e = .returned (.tuple #[.int .i64 0, .int .i64 4])) ∨
     (lipF g n (fun i => i) (sOf xs) ≠ 0 ∧ ∃ st, Slu.Ends (mkBas n m area floor S) (st0 n (aloneF g 1600000)) st ∧ e = .returned (.tuple #[.int .i64 (1600000 - st.vol n), .int .i64 0])))

theorem tot_zero (n m : Nat) (area floor : Nat → Int) (S : Nat → Slu.Sill) : tot (mkBas n m area floor S) (st0 n fun _ => 0) = 0 := by
  unfold tot
  have : (st0 n fun _ => 0).vol = fun _ => 0 := by funext k; unfold st0; dsimp only; split <;> rfl
  rw [this]
  exact Slu.sumN_zero _

set_option maxRecDepth 100000 in
set_option maxHeartbeats 2000000 in
theorem room27_any (w : World) (va vf vs : Value) (n m : Nat) (area floor : Nat → Int) (S : Nat → Slu.Sill) (hb : Bs w va vf vs n m area floor S) (g : Nat) (hg : g < n) :
    Calls Try.prog 27 #[.agg #[va, vf, vs], .int .i64 g] w fun e w' => RoomRes n m area floor S g w e w' := by
  have ok := hb.ok
  have hn8 := ok.n8
  obtain ⟨AA, ca, rfl, la, ra⟩ := id hb.a
  clear ra
  go_enter Try.func27, Try.ntmps27
  go_upto_region 1 with (fail)
  refine wp_world fun W hW => ?_
  have hB : Below w.heap.size w W := by rw [hW]; exact (Below.refl _ _).alloc (Nat.le_refl _) _
  have k1 : Blk W w.heap.size #[.slice AA n ca, vf, vs] 25 := by rw [hW]; exact Blk.new _ _ _
  clear hW
  have c0 : W.cell? ⟨w.heap.size, 0, none⟩ = some (.slice AA n ca) := k1.cell 0 rfl
  have c1 : W.cell? ⟨w.heap.size, 1, none⟩ = some vf := k1.cell 1 rfl
  have c2 : W.cell? ⟨w.heap.size, 2, none⟩ = some vs := k1.cell 2 rfl
  have hb1 := hb.below hB
  have OB := openBasin59_ok W _ vf vs n m area floor _ _ _ hb1.a hb1.f hb1.s hb1.ck (g : Int)
  rw [show obErr n (g : Int) = 0 by unfold obErr; rw [if_pos (by omega)]] at OB
  go_upto_region 4 with (go_at_call 59; (with_reducible refine OB.mono ?_); rintro e w1 ⟨rfl, hb1'⟩)
  have hB1 := hB.trans (hb1'.mono hB.size)
  have k2 := k1.below hb1'
  have c0 : w1.cell? ⟨w.heap.size, 0, none⟩ = some (.slice AA n ca) := k2.cell 0 rfl
  have c1 : w1.cell? ⟨w.heap.size, 1, none⟩ = some vf := k2.cell 1 rfl
  have c2 : w1.cell? ⟨w.heap.size, 2, none⟩ = some vs := k2.cell 2 rfl
  have LC := lip28_any w1 (.slice AA n ca) vf vs n m area floor S (hb.below hB1) g n hg (Nat.le_refl _) (by omega)
  clear OB hb1 hB k1 hb1'
  go_wp2_with fail
  go_at_call 28
  (with_reducible refine LC.mono ?_)
  rintro e w2 ⟨xs, hxs, rfl, hb2⟩
  have hB2 := hB1.trans (hb2.mono hB1.size)
  have k3 := k2.below hb2
  clear LC c0 c1 c2 k2 hB1 hb2
  have c0 : w2.cell? ⟨w.heap.size, 0, none⟩ = some (.slice AA n ca) := k3.cell 0 rfl
  have c1 : w2.cell? ⟨w.heap.size, 1, none⟩ = some vf := k3.cell 1 rfl
  have c2 : w2.cell? ⟨w.heap.size, 2, none⟩ = some vs := k3.cell 2 rfl
  by_cases h0 : lipF g n (fun i => i) (sOf xs) = 0
  · have H0 := Lib.hid h0
    rw [h0, if_pos rfl]
    clear h0
    go_wp2
    go_ret2
    exact ⟨hB2, xs, hxs, .inl ⟨H0.out, rfl⟩⟩
  · have H0 := Lib.hid h0
    rw [if_neg h0]
    clear h0
    have NS := newState60_any w2 (.slice AA n ca) vf vs
    go_wp2_with (go_at_call 60; (with_reducible refine NS.mono ?_); rintro e w3 ⟨X, rfl, hX0, hX, hb3⟩)
    have hX1 : w2.heap.size ≤ X := hX0
    have hb2' := hb.below hB2
    have PC := water_pour ok hb2'.a hb2'.f hb2'.s hX1 (water_new ok hb3 hX) (fun _ => Int.le_refl _) g hg 1600000 (by omega) (by rw [tot_zero]; omega)
    go_at_call 61
    (with_reducible refine PC.mono ?_)
    rintro e w4 ⟨rfl, hb4, p, s, lost, st, hx, hps, hends⟩
    have hends' : Slu.Ends (mkBas n m area floor S) (st0 n (aloneF g 1600000)) st := by
      rw [st0_congr (g := aloneF g 1600000) (fun k _ => by unfold aloneF; split <;> simp)] at hends; exact hends
    have gd : Slu.Good (mkBas n m area floor S) st := (st0_good ok.ok (am := aloneF g 1600000) (fun k => by unfold aloneF; split <;> omega)).star ok.ok hends'.1
    have hl := hps.lost
    have ht := tot_star ok.ok (st0_good ok.ok (am := aloneF g 1600000) (fun k => by unfold aloneF; split <;> omega)) hends'.1
    have ht2 := st0_tot (B := mkBas n m area floor S) (am := aloneF g 1600000) hn8 (fun k => by unfold aloneF; split <;> omega)
    have hv := vol_le_tot gd (i := n) (Nat.le_refl _)
    have hv0 := gd.iv.nonneg n
    have ht2' : tot (mkBas n m area floor S) (st0 n (aloneF g 1600000)) ≤ 16000000 := ht2
    have l0 : 0 ≤ lost := by omega
    have l1 : lost ≤ 16000000 := by omega
    have hw : IntKind.i64.wrap (1600000 - lost) = 1600000 - lost := IntWalk.i64_in _ (by omega)
    have cl := hx.lst
    have HF := Lib.hid (And.intro hends' hl)
    clear hends hends' hl ht ht2 hv hv0 ht2' hps
    go_wp2
    go_ret2
    exact ⟨hB2.trans (hb4.mono hB2.size), xs, hxs, .inr ⟨H0.out, st, HF.out.1, by rw [← HF.out.2]; rfl⟩⟩
end Go.Proofs.Ytjhididnmkbgoaa
