import Derived.Test.YtjhididnmkbgoaaCl
import Derived.Test.YtjhididnmkbgoaaPd
set_option linter.unusedVariables false
set_option linter.unusedSimpArgs false
namespace Go.Proofs.Ytjhididnmkbgoaa
open Go.RowKit

set_option maxRecDepth 100000 in
set_option maxHeartbeats 2000000 in
theorem open53_ok (w : World) (va vf vs vm : Value) (n m r : Nat) (area floor A B H : Nat → Int) (am : Nat → Nat → Int) (hA : RdI w va n area) (hF : RdI w vf n floor) (hS : RdT w vs m A B H) (hc : ChkI n n m area floor A B H)
    (hM : RdL w vm r (fun _ => n) am) (ham : ∀ i k, 0 ≤ am i k ∧ am i k ≤ 1000000) :
    Calls Try.prog 53 #[.agg #[va, vf, vs], vm] w fun e w' => e = .returned (.int .i64 0) ∧ Below w.heap.size w w' := by
  have CK := fun W (hb : Below w.heap.size w W) => check47_ok W va vf vs n m area floor A B H (hA.below hb) (hF.below hb) (hS.below hb) hc
  obtain ⟨AA, ca, rfl, la, ra⟩ := hA
  obtain ⟨Bs, c, rfl, hrc, hr1, hl⟩ := hM
  have HL := Lib.hid hl
  clear hl ra hF hS hc
  go_enter Try.func53, Try.ntmps53
  go_upto_region 1 with (fail)
  refine wp_world fun W hW => ?_
  have hB : Below w.heap.size w W := by rw [hW]; exact (Below.refl _ _).alloc (Nat.le_refl _) _
  have k1 : Blk W w.heap.size #[.slice AA n ca, vf, vs] 25 := by rw [hW]; exact Blk.new _ _ _
  clear hW
  have c0 : W.cell? ⟨w.heap.size, 0, none⟩ = some (.slice AA n ca) := k1.cell 0 rfl
  have c1 : W.cell? ⟨w.heap.size, 1, none⟩ = some vf := k1.cell 1 rfl
  have c2 : W.cell? ⟨w.heap.size, 2, none⟩ = some vs := k1.cell 2 rfl
  have e3 : ((n : Int) != (n : Int)) = false := by simp
  have CK1 := CK W hB
  clear CK
  go_wp2_with (go_at_call 47; (with_reducible refine CK1.mono ?_); rintro e w1 ⟨rfl, hb1⟩)
  go_loopg [15] r (fun gk x wr => ∃ i : Nat, i ≤ r ∧ gk = r - i ∧ x = .int .i64 i ∧ Below w.heap.size w wr ∧ Blk wr w.heap.size #[.slice AA n ca, vf, vs] 25)
  case atStart => exact ⟨0, by omega, rfl, rfl, hB.trans (hb1.mono hB.size), k1.below hb1⟩
  case round =>
    obtain ⟨i, hi, hgk, rfl, hB, k1⟩ := hrel
    have HGK := Lib.hid hgk
    clear hgk c0 c1 c2
    have c0 : wr.cell? ⟨w.heap.size, 0, none⟩ = some (.slice AA n ca) := k1.cell 0 rfl
    by_cases hlt : i < r
    · obtain ⟨A', ka, hc, hra⟩ := HL.out i hlt
      have hc' := cell_up hB hc
      have AR := are_any wr (.slice A' n ka) n (am i) 0 1000000 (hra.below hB)
      have a1 : areB n (am i) 0 1000000 = true := by unfold areB; exact decide_eq_true fun k hk => ham i k
      rw [a1] at AR
      clear a1 hra hc
      go_wp2_with (go_at_call 76; (with_reducible refine AR.mono ?_); rintro e w2 ⟨rfl, hb2⟩)
      go_roundg (r - (i + 1))
      case measure => have := HGK.out; omega
      case rel => exact ⟨i + 1, by omega, rfl, by go_num, hB.trans (hb2.mono hB.size), k1.below hb2⟩
    · go_wp2
      go_ret
      exact ⟨rfl, hB⟩

def obErr (n : Nat) (g : Int) : Int := if 0 ≤ g ∧ g < n then 0 else 1

set_option maxRecDepth 100000 in
set_option maxHeartbeats 1000000 in
theorem openBasin59_ok (w : World) (va vf vs : Value) (n m : Nat) (area floor A B H : Nat → Int) (hA : RdI w va n area) (hF : RdI w vf n floor) (hS : RdT w vs m A B H) (hc : ChkI n n m area floor A B H) (g : Int) :
    Calls Try.prog 59 #[.agg #[va, vf, vs], .int .i64 g] w fun e w' => e = .returned (.int .i64 (obErr n g)) ∧ Below w.heap.size w w' := by
  have CK := fun W (hb : Below w.heap.size w W) => check47_ok W va vf vs n m area floor A B H (hA.below hb) (hF.below hb) (hS.below hb) hc
  obtain ⟨AA, ca, rfl, la, ra⟩ := hA
  clear ra hF hS hc
  go_enter Try.func59, Try.ntmps59
  go_upto_region 1 with (fail)
  refine wp_world fun W hW => ?_
  have hB : Below w.heap.size w W := by rw [hW]; exact (Below.refl _ _).alloc (Nat.le_refl _) _
  have k1 : Blk W w.heap.size #[.slice AA n ca, vf, vs] 25 := by rw [hW]; exact Blk.new _ _ _
  clear hW
  have c0 : W.cell? ⟨w.heap.size, 0, none⟩ = some (.slice AA n ca) := k1.cell 0 rfl
  have c1 : W.cell? ⟨w.heap.size, 1, none⟩ = some vf := k1.cell 1 rfl
  have c2 : W.cell? ⟨w.heap.size, 2, none⟩ = some vs := k1.cell 2 rfl
  have CK1 := CK W hB
  clear CK
  by_cases h1 : g < 0
  · have HV : Hid (obErr n g = 1) := by show _ = _; unfold obErr; rw [if_neg (by omega)]
    have e1 : decide (g < 0) = true := decide_eq_true h1
    go_wp2_with (go_at_call 47; (with_reducible refine CK1.mono ?_); rintro e w1 ⟨rfl, hb1⟩; have k2 := k1.below hb1; have c0 : w1.cell? ⟨w.heap.size, 0, none⟩ = some (.slice AA n ca) := k2.cell 0 rfl)
    go_ret
    exact ⟨by rw [HV.out]; rfl, hB.trans (hb1.mono hB.size)⟩
  · by_cases h2 : (n : Int) ≤ g
    · have HV : Hid (obErr n g = 1) := by show _ = _; unfold obErr; rw [if_neg (by omega)]
      have e1 : decide (g < 0) = false := decide_eq_false h1
      have e2 : decide ((n : Int) ≤ g) = true := decide_eq_true h2
      go_wp2_with (go_at_call 47; (with_reducible refine CK1.mono ?_); rintro e w1 ⟨rfl, hb1⟩; have k2 := k1.below hb1; have c0 : w1.cell? ⟨w.heap.size, 0, none⟩ = some (.slice AA n ca) := k2.cell 0 rfl)
      go_ret
      exact ⟨by rw [HV.out]; rfl, hB.trans (hb1.mono hB.size)⟩
    · have HV : Hid (obErr n g = 0) := by show _ = _; unfold obErr; rw [if_pos (by omega)]
      have e1 : decide (g < 0) = false := decide_eq_false h1
      have e2 : decide ((n : Int) ≤ g) = false := decide_eq_false h2
      go_wp2_with (go_at_call 47; (with_reducible refine CK1.mono ?_); rintro e w1 ⟨rfl, hb1⟩; have k2 := k1.below hb1; have c0 : w1.cell? ⟨w.heap.size, 0, none⟩ = some (.slice AA n ca) := k2.cell 0 rfl)
      go_ret
      exact ⟨by rw [HV.out]; rfl, hB.trans (hb1.mono hB.size)⟩
end Go.Proofs.Ytjhididnmkbgoaa
