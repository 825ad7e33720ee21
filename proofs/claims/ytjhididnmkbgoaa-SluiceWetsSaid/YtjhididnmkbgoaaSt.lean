import Derived.Test.YtjhididnmkbgoaaWp
import Derived.Test.YtjhididnmkbgoaaWn
import Derived.Test.YtjhididnmkbgoaaRef
set_option linter.unusedVariables false
set_option linter.unusedSimpArgs false
namespace Go.Proofs.Ytjhididnmkbgoaa
open Go.RowKit

/-- The cells of a state: the basins, the pools, what is stored, what is lost. -/
def stC (va vf vs : Value) (p : Nat → Nat) (s : Nat → Int) (lost : Int) : Array Value :=
  #[va, vf, vs, .int .i64 (p 0 : Nat), .int .i64 (p 1 : Nat), .int .i64 (p 2 : Nat), .int .i64 (p 3 : Nat), .int .i64 (p 4 : Nat), .int .i64 (p 5 : Nat), .int .i64 (p 6 : Nat), .int .i64 (p 7 : Nat), .int .i64 (p 8 : Nat),
    .int .i64 (s 0), .int .i64 (s 1), .int .i64 (s 2), .int .i64 (s 3), .int .i64 (s 4), .int .i64 (s 5), .int .i64 (s 6), .int .i64 (s 7), .int .i64 (s 8), .int .i64 lost]

def SX (w : World) (X : Nat) (va vf vs : Value) (p : Nat → Nat) (s : Nat → Int) (lost : Int) : Prop := Blk w X (stC va vf vs p s lost) 104

theorem stC_pool (va vf vs : Value) (p : Nat → Nat) (s : Nat → Int) (lost : Int) (k : Nat) (hk : k < 9) : (stC va vf vs p s lost)[3 + k]? = some (.int .i64 (p k : Nat)) := by
  have : k = 0 ∨ k = 1 ∨ k = 2 ∨ k = 3 ∨ k = 4 ∨ k = 5 ∨ k = 6 ∨ k = 7 ∨ k = 8 := by omega
  rcases this with rfl | rfl | rfl | rfl | rfl | rfl | rfl | rfl | rfl <;> rfl

theorem stC_stored (va vf vs : Value) (p : Nat → Nat) (s : Nat → Int) (lost : Int) (k : Nat) (hk : k < 9) : (stC va vf vs p s lost)[12 + k]? = some (.int .i64 (s k)) := by
  have : k = 0 ∨ k = 1 ∨ k = 2 ∨ k = 3 ∨ k = 4 ∨ k = 5 ∨ k = 6 ∨ k = 7 ∨ k = 8 := by omega
  rcases this with rfl | rfl | rfl | rfl | rfl | rfl | rfl | rfl | rfl <;> rfl

theorem stC_setpool (va vf vs : Value) (p : Nat → Nat) (s : Nat → Int) (lost : Int) (k : Nat) (hk : k < 9) (x : Nat) :
    (stC va vf vs p s lost).setIfInBounds (3 + k) (.int .i64 (x : Nat)) = stC va vf vs (fun i => if i = k then x else p i) s lost := by
  have : k = 0 ∨ k = 1 ∨ k = 2 ∨ k = 3 ∨ k = 4 ∨ k = 5 ∨ k = 6 ∨ k = 7 ∨ k = 8 := by omega
  rcases this with rfl | rfl | rfl | rfl | rfl | rfl | rfl | rfl | rfl <;> rfl

theorem stC_setstored (va vf vs : Value) (p : Nat → Nat) (s : Nat → Int) (lost : Int) (k : Nat) (hk : k < 9) (x : Int) :
    (stC va vf vs p s lost).setIfInBounds (12 + k) (.int .i64 x) = stC va vf vs p (fun i => if i = k then x else s i) lost := by
  have : k = 0 ∨ k = 1 ∨ k = 2 ∨ k = 3 ∨ k = 4 ∨ k = 5 ∨ k = 6 ∨ k = 7 ∨ k = 8 := by omega
  rcases this with rfl | rfl | rfl | rfl | rfl | rfl | rfl | rfl | rfl <;> rfl

section
variable {w : World} {X : Nat} {va vf vs : Value} {p : Nat → Nat} {s : Nat → Int} {lost : Int}
theorem SX.a (h : SX w X va vf vs p s lost) : w.cell? ⟨X, 0, none⟩ = some va := Blk.cell h 0 rfl
theorem SX.f (h : SX w X va vf vs p s lost) : w.cell? ⟨X, 1, none⟩ = some vf := Blk.cell h 1 rfl
theorem SX.sl (h : SX w X va vf vs p s lost) : w.cell? ⟨X, 2, none⟩ = some vs := Blk.cell h 2 rfl
theorem SX.pool (h : SX w X va vf vs p s lost) : ∀ k, k < 9 → w.cell? ⟨X, 3 + k, none⟩ = some (.int .i64 (p k : Nat)) := fun k hk => Blk.cell h (3 + k) (stC_pool va vf vs p s lost k hk)
theorem SX.stored (h : SX w X va vf vs p s lost) : ∀ k, k < 9 → w.cell? ⟨X, 12 + k, none⟩ = some (.int .i64 (s k)) := fun k hk => Blk.cell h (12 + k) (stC_stored va vf vs p s lost k hk)
theorem SX.lst (h : SX w X va vf vs p s lost) : w.cell? ⟨X, 21, none⟩ = some (.int .i64 lost) := Blk.cell h 21 rfl
theorem SX.frozen (h : SX w X va vf vs p s lost) (j : Nat) : w.frozen? ⟨X, j, none⟩ = false := Blk.frozen h j
theorem SX.setpool (h : SX w X va vf vs p s lost) (k : Nat) (hk : k < 9) (x : Nat) : SX (w.setCell ⟨X, 3 + k, none⟩ (.int .i64 (x : Nat))) X va vf vs (fun i => if i = k then x else p i) s lost := by
  have := Blk.set h (3 + k) (.int .i64 (x : Nat)); rw [stC_setpool _ _ _ _ _ _ k hk x] at this; exact this
theorem SX.setstored (h : SX w X va vf vs p s lost) (k : Nat) (hk : k < 9) (x : Int) : SX (w.setCell ⟨X, 12 + k, none⟩ (.int .i64 x)) X va vf vs p (fun i => if i = k then x else s i) lost := by
  have := Blk.set h (12 + k) (.int .i64 x); rw [stC_setstored _ _ _ _ _ _ k hk x] at this; exact this
theorem SX.setlost (h : SX w X va vf vs p s lost) (x : Int) : SX (w.setCell ⟨X, 21, none⟩ (.int .i64 x)) X va vf vs p s x := Blk.set h 21 (.int .i64 x)
theorem SX.below {w' : World} (h : SX w X va vf vs p s lost) (hb : Below w.heap.size w w') : SX w' X va vf vs p s lost := Blk.below h hb
theorem SX.lt (h : SX w X va vf vs p s lost) : X < w.heap.size := Blk.lt h
end

/-- The room of a pool, of the first k basins. -/
def roomN (area floor : Nat → Int) (rep : Nat → Nat) (g : Nat) (h : Int) (k : Nat) : Int := Slu.sumN k (fun i => if rep i = g then area i * (h - floor i) else 0)

theorem roomN_bd {area floor : Nat → Int} {rep : Nat → Nat} {g : Nat} {h : Int} (rg : Rng area floor) (h0 : 0 ≤ h) (h1 : h ≤ 1000) (k : Nat) (hk : k ≤ 8) : -10000 * k ≤ roomN area floor rep g h k ∧ roomN area floor rep g h k ≤ 100000 * k := by
  induction k with
  | zero => simp [roomN, Slu.sumN]
  | succ k ih =>
    have := ih (by omega)
    unfold roomN at *
    simp only [Slu.sumN]
    have a1 := rg.a1 k
    have a2 := rg.a2 k
    have f1 := rg.f1 k
    have f2 := rg.f2 k
    split
    · have q1 : area k * (h - floor k) ≤ 100 * 1000 := by
        have : area k * (h - floor k) ≤ area k * 1000 := Int.mul_le_mul_of_nonneg_left (by omega) (by omega)
        have : area k * 1000 ≤ 100 * 1000 := Int.mul_le_mul_of_nonneg_right (by omega) (by omega)
        omega
      have q2 : -10000 ≤ area k * (h - floor k) := by
        have : area k * (-100) ≤ area k * (h - floor k) := Int.mul_le_mul_of_nonneg_left (by omega) (by omega)
        omega
      omega
    · omega

set_option maxRecDepth 100000 in
set_option maxHeartbeats 1000000 in
theorem room80_any (w : World) (X : Nat) (va vf vs : Value) (p : Nat → Nat) (s : Nat → Int) (lost : Int) (n : Nat) (area floor : Nat → Int) (hX : SX w X va vf vs p s lost) (hp : ∀ k, p k ≤ k)
    (hA : RdI w va n area) (hF : RdI w vf n floor) (hn8 : n ≤ 8) (rg : Rng area floor) (g : Nat) (h : Int) (h0 : 0 ≤ h) (h1 : h ≤ 1000) :
    Calls Try.prog 80 #[.pointer (some ⟨X, 0, none⟩), .int .i64 g, .int .i64 h] w fun e w' => e = .returned (.int .i64 (roomN area floor (rootN 9 p) g h n)) ∧ w = w' := by
  obtain ⟨A, ca, rfl, la, ra⟩ := hA
  obtain ⟨F, cf, rfl, lf, rf⟩ := hF
  have RA := Lib.hid ra
  have RF := Lib.hid rf
  have b0 := hX.a
  have b1 := hX.f
  have HC := Lib.hid hX.pool
  clear ra rf
  go_enter Try.func80, Try.ntmps80
  go_wp2
  go_loop [7, 16] (fun t i => ∃ k : Nat, k ≤ n ∧ i = .int .i64 k ∧ t = .int .i64 (roomN area floor (rootN 9 p) g h k)) (fun _ i => n - (intOf i).toNat)
  case atStart => exact ⟨0, by omega, rfl, rfl⟩
  case round =>
    obtain ⟨k, hk, rfl, rfl⟩ := hrel
    have RB := roomN_bd (rep := rootN 9 p) (g := g) rg h0 h1 k (by omega)
    by_cases hlt : k < n
    · obtain ⟨bA, oA, rfl, cA⟩ := RA.out k hlt
      obtain ⟨bF, oF, rfl, cF⟩ := RF.out k hlt
      have FC := first_any X 3 p w hp HC.out k (by omega)
      have RS : Hid (roomN area floor (rootN 9 p) g h (k + 1) = roomN area floor (rootN 9 p) g h k + if rootN 9 p k = g then area k * (h - floor k) else 0) := rfl
      have a1 := rg.a1 k
      have a2 := rg.a2 k
      have f1 := rg.f1 k
      have f2 := rg.f2 k
      generalize area k = ak at *
      generalize floor k = fk at *
      have RB2 := roomN_bd (rep := rootN 9 p) (g := g) rg h0 h1 (k + 1) (by omega)
      generalize hR2 : roomN area floor (rootN 9 p) g h (k + 1) = R2 at *
      have HR2 := Lib.hid hR2
      clear hR2
      generalize roomN area floor (rootN 9 p) g h k = R1 at *
      by_cases e : rootN 9 p k = g
      · have e1 : ((rootN 9 p k : Int) == (g : Int)) = true := by simp [e]
        have HR : Hid (R2 = R1 + ak * (h - fk)) := by have := RS.out; rw [if_pos e] at this; exact this
        have w1 : IntKind.i64.wrap (h - fk) = h - fk := IntWalk.i64_in _ (by omega)
        have q1 : -10000 ≤ ak * (h - fk) ∧ ak * (h - fk) ≤ 100000 := by
          have x1 : ak * (h - fk) ≤ ak * 1000 := Int.mul_le_mul_of_nonneg_left (by omega) (by omega)
          have x2 : ak * (-100) ≤ ak * (h - fk) := Int.mul_le_mul_of_nonneg_left (by omega) (by omega)
          omega
        have w2 : IntKind.i64.wrap (ak * (h - fk)) = ak * (h - fk) := IntWalk.i64_in _ (by omega)
        have w3 : IntKind.i64.wrap (R1 + ak * (h - fk)) = R1 + ak * (h - fk) := IntWalk.i64_in _ (by omega)
        generalize hr : rootN 9 p k = r at *
        have HRR := Lib.hid e
        clear e q1 RS
        go_wp2_with (go_at_call 66; (with_reducible refine FC.mono ?_); rintro e w' ⟨rfl, rfl⟩)
        go_round
        case rel => exact ⟨k + 1, by omega, by go_num, by rw [HR2.out, HR.out]⟩
        case measure => simp [intOf]; omega
      · have e1 : ((rootN 9 p k : Int) == (g : Int)) = false := by simp; omega
        have HR : Hid (R2 = R1) := by have := RS.out; rw [if_neg e] at this; show R2 = R1; omega
        have HRR := Lib.hid e
        clear e RS
        go_wp2_with (go_at_call 66; (with_reducible refine FC.mono ?_); rintro e w' ⟨rfl, rfl⟩)
        go_round
        case rel => exact ⟨k + 1, by omega, by go_num, by rw [HR2.out, HR.out]⟩
        case measure => simp [intOf]; omega
    · obtain rfl : k = n := by omega
      go_wp2
      go_ret
      exact ⟨rfl, rfl⟩

set_option maxRecDepth 100000 in
theorem sea74_any (w : World) (X : Nat) (va vf vs : Value) (p : Nat → Nat) (s : Nat → Int) (lost : Int) (n : Nat) (area : Nat → Int) (hX : SX w X va vf vs p s lost) (hA : RdI w va n area) :
    Calls Try.prog 74 #[.pointer (some ⟨X, 0, none⟩)] w fun e w' => e = .returned (.int .i64 n) ∧ w = w' := by
  obtain ⟨A, ca, rfl, la, ra⟩ := hA
  have b0 := hX.a
  clear ra
  go_enter Try.func74, Try.ntmps74
  go_wp2
  go_ret
  exact ⟨rfl, rfl⟩

set_option maxRecDepth 100000 in
set_option maxHeartbeats 1000000 in
theorem full81_any (w : World) (X : Nat) (va vf vs : Value) (p : Nat → Nat) (s : Nat → Int) (lost : Int) (n : Nat) (area floor : Nat → Int) (hX : SX w X va vf vs p s lost) (hp : ∀ k, p k ≤ k)
    (hA : RdI w va n area) (hF : RdI w vf n floor) (hn8 : n ≤ 8) (rg : Rng area floor) (g : Nat) (hg : g < 9) (h : Int) (h0 : 0 ≤ h) (h1 : h ≤ 1000) :
    Calls Try.prog 81 #[.pointer (some ⟨X, 0, none⟩), .int .i64 g, .int .i64 h] w fun e w' => e = .returned (.bool (decide (roomN area floor (rootN 9 p) g h n ≤ s g))) ∧ ∃ q, w' = w.drewN q := by
  have b0 := hX.stored g hg
  have g0 : (0 : Int) ≤ (g : Int) := Int.natCast_nonneg _
  have g1 : (g : Int) < 9 := by omega
  have RC := fun q => (room80_any (w.drewN q) X va vf vs p s lost n area floor (hX.below (below_drewN (Below.refl _ _) q)) hp (hA.below (below_drewN (Below.refl _ _) q)) (hF.below (below_drewN (Below.refl _ _) q)) hn8 rg g h h0 h1).mono (R' := fun e w' => e = .returned (.int .i64 (roomN area floor (rootN 9 p) g h n)) ∧ w' = w.drewN q) fun _ _ ⟨a, b⟩ => ⟨a, b.symm⟩
  generalize roomN area floor (rootN 9 p) g h n = R at *
  go_enter Try.func81, Try.ntmps81
  go_wp2
  go_quiet ((go_at_call 80; exact Calls.quiet_of_same (RC _)))
  go_wp2
  go_ret
  exact ⟨rfl, _, rfl⟩
end Go.Proofs.Ytjhididnmkbgoaa
