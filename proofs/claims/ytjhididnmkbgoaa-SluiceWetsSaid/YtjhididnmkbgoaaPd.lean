import Derived.Test.YtjhididnmkbgoaaPo
set_option linter.unusedVariables false
set_option linter.unusedSimpArgs false
namespace Go.Proofs.Ytjhididnmkbgoaa
open Go.RowKit

theorem st0_congr {n : Nat} {f g : Nat → Int} (h : ∀ k, k < n → f k = g k) : st0 n f = st0 n g := Slu.St.ext' (fun _ => rfl) (fun i => by unfold st0; dsimp only; split <;> simp_all)
theorem st0_add {n : Nat} {f : Nat → Int} {j : Nat} (hj : j < n) (x : Int) : Slu.add (st0 n f) j x = st0 n (fun k => if k = j then f k + x else f k) := by
  refine Slu.St.ext' (fun _ => rfl) (fun i => ?_)
  unfold Slu.add st0
  dsimp only
  by_cases e : i = j
  · subst e; rw [if_pos rfl, if_pos hj, if_pos hj, if_pos rfl]
  · rw [if_neg e]; by_cases h : i < n
    · rw [if_pos h, if_pos h, if_neg e]
    · rw [if_neg h, if_neg h]

/-- Water in the state at X: as if f had been poured into the empty basins. -/
def PWater (n m : Nat) (area floor : Nat → Int) (S : Nat → Slu.Sill) (w wr : World) (X : Nat) (va vf vs : Value) (f : Nat → Int) : Prop :=
  Below w.heap.size w wr ∧ ∃ (p : Nat → Nat) (s : Nat → Int) (lost : Int) (st : Slu.St), SX wr X va vf vs p s lost ∧ PS n p s lost st ∧ Slu.Ends (mkBas n m area floor S) (st0 n f) st

theorem PWater.congr {n m : Nat} {area floor : Nat → Int} {S : Nat → Slu.Sill} {w wr : World} {X : Nat} {va vf vs : Value} {f g : Nat → Int} (h : PWater n m area floor S w wr X va vf vs f) (e : ∀ k, k < n → f k = g k) : PWater n m area floor S w wr X va vf vs g := by
  obtain ⟨h1, p, s, lost, st, h2, h3, h4⟩ := h
  rw [st0_congr e] at h4
  exact ⟨h1, p, s, lost, st, h2, h3, h4⟩

theorem PWater.below {n m : Nat} {area floor : Nat → Int} {S : Nat → Slu.Sill} {w wr w2 : World} {X : Nat} {va vf vs : Value} {f : Nat → Int} (h : PWater n m area floor S w wr X va vf vs f) (hb : Below wr.heap.size wr w2) : PWater n m area floor S w w2 X va vf vs f := by
  obtain ⟨h1, p, s, lost, st, h2, h3, h4⟩ := h
  exact ⟨h1.trans (hb.mono h1.size), p, s, lost, st, h2.below hb, h3, h4⟩

theorem still_zero {n m : Nat} {area floor : Nat → Int} {S : Nat → Slu.Sill} (ok : SOk n m area floor S) : Slu.Still (mkBas n m area floor S) (st0 n fun _ => 0) := by
  refine still_of fun g s o => ?_
  have h1 : 0 ≤ Slu.room (mkBas n m area floor S) (st0 n fun _ => 0).rep g s.h := (st0_good ok.ok (am := fun _ => 0) (fun _ => Int.le_refl _)).room_nonneg ok.ok o.lip
  have h2 := o.over
  have h3 : (st0 n fun _ => 0).vol g = 0 := by unfold st0; dsimp only; split <;> rfl
  omega

theorem water_new {n m : Nat} {area floor : Nat → Int} {S : Nat → Slu.Sill} (ok : SOk n m area floor S) {w wr : World} {X : Nat} {va vf vs : Value} (hb : Below w.heap.size w wr) (hx : SX wr X va vf vs (fun i => i) (fun _ => 0) 0) : PWater n m area floor S w wr X va vf vs fun _ => 0 := by
  refine ⟨hb, _, _, _, st0 n fun _ => 0, hx, ⟨fun k => Nat.le_refl _, fun k _ => rfl, fun i => (rootN_fix (fun i => i) i rfl 9).symm, fun i _ _ => ?_, ?_, fun k => by simp⟩, .refl _, still_zero ok⟩
  · unfold st0; dsimp only; split <;> rfl
  · unfold st0; simp

/-- One pouring more. -/
theorem water_pour {n m : Nat} {area floor : Nat → Int} {S : Nat → Slu.Sill} (ok : SOk n m area floor S) {w wr : World} {X : Nat} {va vf vs : Value} {f : Nat → Int}
    (hA : RdI w va n area) (hF : RdI w vf n floor) (hS : RdT w vs m (fun k => ((S k).a : Int)) (fun k => ((S k).b : Int)) (fun k => (S k).h)) (hx0 : w.heap.size ≤ X)
    (h : PWater n m area floor S w wr X va vf vs f) (hf : ∀ k, 0 ≤ f k) (j : Nat) (hj : j < n) (x : Int) (hx : 0 ≤ x) (htot : tot (mkBas n m area floor S) (st0 n f) + x ≤ 16000000) :
    Calls Try.prog 61 #[.pointer (some ⟨X, 0, none⟩), .int .i64 j, .int .i64 x] wr fun e w' => e = .returned (.tuple #[]) ∧ PWater n m area floor S w w' X va vf vs (fun k => if k = j then f k + x else f k) := by
  obtain ⟨h1, p, s, lost, st, h2, h3, h4⟩ := h
  have g0 := st0_good ok.ok (am := f) hf
  have gd := g0.star ok.ok h4.1
  have ht := tot_star ok.ok g0 h4.1
  refine (pour61_any n m area floor S ok w wr X va vf vs hA hF hS h1 hx0 p s lost st j x h2 h3 gd h4.2 (by omega) hx (by rw [ht]; exact htot)).mono ?_
  rintro e w' ⟨rfl, p', s', lost', st', hx', hps', hends, hg⟩
  refine ⟨rfl, h1.grown hg h1.size (fun k e => by cases e; exact hx0), p', s', lost', st', hx', hps', ?_⟩
  rw [← st0_add hj]
  exact Slu.Ends.more ok.ok g0 hx h4 hends

/-- A slice of r slices of whole numbers. -/
def RdL (w : World) (v : Value) (r : Nat) (len : Nat → Nat) (am : Nat → Nat → Int) : Prop := ∃ B c, v = .slice (some ⟨B, 0, none⟩) r c ∧ r ≤ c ∧ r ≤ 1000 ∧ ∀ i, i < r → ∃ A k, w.cell? ⟨B, i, none⟩ = some (.slice A (len i) k) ∧ RdI w (.slice A (len i) k) (len i) (am i)
theorem RdL.below {w w1 : World} {v : Value} {r : Nat} {len : Nat → Nat} {am : Nat → Nat → Int} (h : RdL w v r len am) (hb : Below w.heap.size w w1) : RdL w1 v r len am := by
  obtain ⟨B, c, e, h1, h2, h3⟩ := h
  refine ⟨B, c, e, h1, h2, fun i hi => ?_⟩
  obtain ⟨A, k, hc, hr⟩ := h3 i hi
  exact ⟨A, k, cell_up hb hc, hr.below hb⟩

/-- What has been poured: i lists whole, of the next one j entries. -/
def sofar (am : Nat → Nat → Int) (i j : Nat) (k : Nat) : Int := Slu.sumN i (fun q => am q k) + if k < j then am i k else 0

theorem sofar_step (am : Nat → Nat → Int) (i j : Nat) : (fun k => if k = j then sofar am i j k + am i j else sofar am i j k) = sofar am i (j + 1) := by
  funext k
  unfold sofar
  by_cases e : k = j
  · subst e; rw [if_pos rfl, if_neg (Nat.lt_irrefl _), if_pos (Nat.lt_succ_self _)]; omega
  · rw [if_neg e]
    by_cases h : k < j
    · rw [if_pos h, if_pos (by omega)]
    · rw [if_neg h, if_neg (by omega)]

theorem sofar_bd {am : Nat → Nat → Int} (h : ∀ i k, 0 ≤ am i k ∧ am i k ≤ 1000000) (i j k : Nat) : 0 ≤ sofar am i j k ∧ sofar am i j k ≤ 1000000 * (i + 1) := by
  have : 0 ≤ Slu.sumN i (fun q => am q k) ∧ Slu.sumN i (fun q => am q k) ≤ 1000000 * i := by
    induction i with
    | zero => simp [Slu.sumN]
    | succ i ih => simp only [Slu.sumN]; have := h i k; omega
  unfold sofar
  have := h i k
  split <;> omega

/-- What poured hands back. -/
def Poured54 (n m : Nat) (area floor : Nat → Int) (S : Nat → Slu.Sill) (va vf vs : Value) (f : Nat → Int) (w : World) (e : Ending) (w' : World) : Prop :=
  ∃ X, e = .returned (.pointer (some ⟨X, 0, none⟩)) ∧ w.heap.size ≤ X ∧ PWater n m area floor S w w' X va vf vs f

set_option maxRecDepth 100000 in
set_option maxHeartbeats 2000000 in
theorem poured54_any (w : World) (va vf vs vm : Value) (n m r : Nat) (area floor : Nat → Int) (am : Nat → Nat → Int) (S : Nat → Slu.Sill) (ok : SOk n m area floor S)
    (hA : RdI w va n area) (hF : RdI w vf n floor) (hS : RdT w vs m (fun k => ((S k).a : Int)) (fun k => ((S k).b : Int)) (fun k => (S k).h)) (hM : RdL w vm r (fun _ => n) am) (hr : r ≤ 2) (ham : ∀ i k, 0 ≤ am i k ∧ am i k ≤ 1000000) :
    Calls Try.prog 54 #[.agg #[va, vf, vs], vm] w fun e w' => Poured54 n m area floor S va vf vs (fun k => Slu.sumN r fun i => am i k) w e w' := by
  have hn8 := ok.n8
  obtain ⟨B, c, rfl, hrc, hr1, hl⟩ := hM
  have HL := Lib.hid hl
  clear hl
  go_enter Try.func54, Try.ntmps54
  go_upto_region 1 with (fail)
  refine wp_world fun W hW => ?_
  have hB : Below w.heap.size w W := by rw [hW]; exact (Below.refl _ _).alloc (Nat.le_refl _) _
  have k1 : Blk W w.heap.size #[va, vf, vs] 25 := by rw [hW]; exact Blk.new _ _ _
  clear hW
  have c0 : W.cell? ⟨w.heap.size, 0, none⟩ = some va := k1.cell 0 rfl
  have c1 : W.cell? ⟨w.heap.size, 1, none⟩ = some vf := k1.cell 1 rfl
  have c2 : W.cell? ⟨w.heap.size, 2, none⟩ = some vs := k1.cell 2 rfl
  go_wp2_with (go_at_call 60; (with_reducible refine (newState60_any _ va vf vs).mono ?_); rintro e w1 ⟨X, rfl, hX0, hX, hb1⟩)
  have hX1 : w.heap.size ≤ X := Nat.le_trans hB.size hX0
  have hW1 := water_new ok (hB.trans (hb1.mono hB.size)) hX
  clear hX hb1 c0 c1 c2 k1 hX0 hB
  go_loopg [14] r (fun gk x wr => ∃ i : Nat, i ≤ r ∧ gk = r - i ∧ x = .int .i64 i ∧ PWater n m area floor S w wr X va vf vs (sofar am i 0))
  case atStart => exact ⟨0, by omega, rfl, rfl, hW1.congr fun k hk => by simp [sofar, Slu.sumN]⟩
  case round =>
    obtain ⟨i, hi, hgk, rfl, hw⟩ := hrel
    have HGK := Lib.hid hgk
    clear hgk hW1
    by_cases hlt : i < r
    · obtain ⟨A, ka, hc, hra⟩ := HL.out i hlt
      have hc' := cell_up hw.1 hc
      obtain ⟨A', ka', ea, hla, hca⟩ := id hra
      cases ea
      have HCA := Lib.hid hca
      clear hca hc
      go_wp2
      go_loopg [20] n (fun gk2 x wr2 => ∃ j : Nat, j ≤ n ∧ gk2 = n - j ∧ x = .int .i64 j ∧ PWater n m area floor S w wr2 X va vf vs (sofar am i j))
      case atStart => exact ⟨0, by omega, rfl, rfl, hw⟩
      case round =>
        obtain ⟨j, hj, hgk2, rfl, hw2⟩ := hrel
        have HGK2 := Lib.hid hgk2
        clear hgk2 hw hc'
        by_cases hjn : j < n
        · obtain ⟨b1, o1, rfl, cj⟩ := HCA.out j hjn
          have cj := cell_up hw2.1 cj
          have hsf := fun k => (sofar_bd ham i j k)
          have PC := water_pour ok hA hF hS hX1 hw2 (fun k => (hsf k).1) j hjn (am i j) (ham i j).1 (by
            have h1 := st0_tot (B := mkBas n m area floor S) (am := sofar am i (j + 1)) hn8 (fun k => by have := sofar_bd ham i (j + 1) k; omega)
            have h2 := tot_add (st0_good ok.ok (am := sofar am i j) (fun k => (hsf k).1)) (i := j) (by show j ≤ n; omega) (am i j)
            have h3 : Slu.add (st0 n (sofar am i j)) j (am i j) = st0 n (sofar am i (j + 1)) := by rw [st0_add hjn, ← sofar_step]
            have h4 : Slu.add (st0 (mkBas n m area floor S).n (sofar am i j)) j (am i j) = st0 (mkBas n m area floor S).n (sofar am i (j + 1)) := h3
            rw [h4] at h2
            have h5 : tot (mkBas n m area floor S) (st0 n (sofar am i j)) = tot (mkBas n m area floor S) (st0 (mkBas n m area floor S).n (sofar am i j)) := rfl
            omega)
          have HPW : Hid (∀ w', PWater n m area floor S w w' X va vf vs (fun k => if k = j then sofar am i j k + am i j else sofar am i j k) → PWater n m area floor S w w' X va vf vs (sofar am i (j + 1))) := fun w' h => by rw [← sofar_step]; exact h
          go_wp2_with (go_at_call 61; (with_reducible refine PC.mono ?_); rintro e w' ⟨rfl, hw3⟩; have HW3 := Lib.hid hw3; clear hw3)
          go_roundg (n - (j + 1))
          case measure => have := HGK2.out; omega
          case rel => exact ⟨j + 1, by omega, rfl, by go_num, HPW.out _ HW3.out⟩
        · obtain rfl : j = n := by omega
          go_wp2
          go_roundg (r - (i + 1))
          case measure => have := HGK.out; omega
          case rel => exact ⟨i + 1, by omega, rfl, by go_num, hw2.congr fun k hk => by unfold sofar; rw [if_pos hk, if_neg (Nat.not_lt_zero _)]; simp [Slu.sumN]⟩
    · obtain rfl : i = r := by omega
      go_wp2
      go_ret
      exact ⟨X, rfl, hX1, hw.congr fun k hk => by simp [sofar]⟩
end Go.Proofs.Ytjhididnmkbgoaa
