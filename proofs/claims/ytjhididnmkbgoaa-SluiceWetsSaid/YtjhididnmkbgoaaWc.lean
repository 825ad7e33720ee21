import Derived.Test.YtjhididnmkbgoaaBase
set_option linter.unusedVariables false
set_option linter.unusedSimpArgs false
namespace Go.Proofs.Ytjhididnmkbgoaa
open Go.RowKit

/-- The lowest sill that leads out of a group, among the first ones: its index, or -1, and the group to which it leads. -/
def lowR (n : Nat) (S : Nat → Slu.Sill) (rep : Nat → Nat) (g : Nat) : Nat → Int × Nat
  | 0 => (-1, n)
  | i + 1 => if rep (S i).a = rep (S i).b ∨ (rep (S i).a ≠ g ∧ rep (S i).b ≠ g) ∨ (0 ≤ (lowR n S rep g i).1 ∧ (S (lowR n S rep g i).1.toNat).h < (S i).h) then lowR n S rep g i
    else (i, if rep (S i).b = g then rep (S i).a else rep (S i).b)

theorem lowR_range (n : Nat) (S : Nat → Slu.Sill) (rep : Nat → Nat) (g : Nat) (i : Nat) : -1 ≤ (lowR n S rep g i).1 ∧ (lowR n S rep g i).1 < i := by
  induction i with
  | zero => simp [lowR]
  | succ i ih =>
    simp only [lowR]
    split
    · omega
    · simp; omega

set_option maxRecDepth 100000 in
set_option maxHeartbeats 4000000 in
theorem lowest_any (w : World) (va vf vs vg vv lost : Value) (n m g : Nat) (S : Nat → Slu.Sill) (area : Nat → Int) (rep : Nat → Nat)
    (hA : RdI w va n area) (hS : RdT w vs m (fun k => ((S k).a : Int)) (fun k => ((S k).b : Int)) (fun k => (S k).h)) (hG : RdI w vg n (fun k => (rep k : Int)))
    (hn : n ≤ 8) (hm : m ≤ 20) (hsea : rep n = n) (hab : ∀ k, k < m → (S k).a < (S k).b ∧ (S k).b ≤ n) (hg : g < n) :
    Calls Try.prog 50 #[.agg #[va, vf, vs], .agg #[vg, vv, lost], .int .i64 g] w fun e w' => e = .returned (.tuple #[.int .i64 (lowR n S rep g m).1, .int .i64 ((lowR n S rep g m).2 : Int)]) ∧ Below w.heap.size w w' := by
  obtain ⟨A, ca, rfl, la, ra⟩ := hA
  obtain ⟨V, cs, rfl, ls, rs⟩ := hS
  obtain ⟨G, cg, rfl, lg, rg⟩ := hG
  clear ra
  go_enter Try.func50, Try.ntmps50
  go_wp2
  refine wp_world fun W hW => ?_
  have hB : Below w.heap.size w W := by rw [hW]; exact ((Below.refl _ _).alloc (Nat.le_refl _) _).alloc (by simp) _
  have b0 : W.cell? ⟨w.heap.size, 0, none⟩ = some (.slice A n ca) := by rw [hW]; simp [go_sem]
  have b2 : W.cell? ⟨w.heap.size, 2, none⟩ = some (.slice V m cs) := by rw [hW]; simp [go_sem]
  have b3 : W.cell? ⟨w.heap.size + 1, 0, none⟩ = some (.slice G n cg) := by rw [hW]; simp [go_sem]
  replace rg := RdI.cell (c := 0) hB rg
  clear hW
  have HSEA := Lib.hid hsea
  clear hsea
  go_loopw [9, 10, 11] (fun x y z wr => ∃ k : Nat, k ≤ m ∧ z = .int .i64 k ∧ x = .int .i64 (lowR n S rep g k).1 ∧ y = .int .i64 ((lowR n S rep g k).2 : Int) ∧ ∃ q, wr = W.drewN q) (fun _ _ z _ => m - (intOf z).toNat)
  case atStart => exact ⟨0, by omega, rfl, rfl, rfl, 0, rfl⟩
  case round =>
    obtain ⟨k, hk, rfl, rfl, rfl, q, rfl⟩ := hrel
    by_cases hlt : k < m
    · obtain ⟨b1, o1, rfl, c1, c2, c3⟩ := rs k hlt
      have c1 := cell_up hB c1
      have c2 := cell_up hB c2
      have c3 := cell_up hB c3
      have hk2 := hab k hlt
      obtain ⟨bg, og, rfl, d1⟩ := rg (S k).a (by omega)
      have bst := lowR_range n S rep g k
      have hstep : lowR n S rep g (k + 1) = if rep (S k).a = rep (S k).b ∨ (rep (S k).a ≠ g ∧ rep (S k).b ≠ g) ∨ (0 ≤ (lowR n S rep g k).1 ∧ (S (lowR n S rep g k).1.toNat).h < (S k).h) then lowR n S rep g k
        else (k, if rep (S k).b = g then rep (S k).a else rep (S k).b) := rfl
      have HSTEP := Lib.hid hstep
      clear hstep
      have cb : 0 ≤ (lowR n S rep g k).1 → W.cell? ⟨b1, o1 + (lowR n S rep g k).1.toNat * 3 + 2, none⟩ = some (.int .i64 (S (lowR n S rep g k).1.toNat).h) := fun h0 => by
        obtain ⟨b1', o1', e1, _, _, c3'⟩ := rs (lowR n S rep g k).1.toNat (by omega)
        cases e1
        exact cell_up hB c3'

      by_cases hbn : (S k).b < n
      · obtain ⟨bg2, og2, e2, d2⟩ := rg (S k).b hbn
        cases e2
        clear rg rs hab
        by_cases h2 : rep (S k).a = rep (S k).b
        · have f2 : ((rep (S k).a : Int) == (rep (S k).b : Nat)) = true := by simp [h2]
          have H2 := Lib.hid h2
          clear h2 cb
          have HK : Hid (lowR n S rep g (k + 1) = lowR n S rep g k) := by show _ = _; rw [HSTEP.out, if_pos (.inl H2.out)]
          clear HSTEP
          go_wp2
          go_quiet (fail)
          go_wp2
          go_quiet (fail)
          go_wp2
          go_roundw
          case rel => exact ⟨k + 1, by omega, by go_num, by rw [HK.out], by rw [HK.out], _, rfl⟩
          case measure => simp [intOf]; omega
        · have f2 : ((rep (S k).a : Int) == (rep (S k).b : Nat)) = false := by simp; omega
          have H2 := Lib.hid h2
          clear h2
          by_cases h3 : rep (S k).a = g
          · have f3 : ((rep (S k).a : Int) != (g : Int)) = false := by simp [h3]
            have H3 := Lib.hid h3
            clear h3
            by_cases h4 : rep (S k).b = g
            · have f4 : ((rep (S k).b : Int) != (g : Int)) = false := by simp [h4]
              have f5 : ((rep (S k).b : Int) == (g : Int)) = true := by simp [h4]
              have h4' := Lib.hid h4
              clear h4
              exact absurd (H3.out.trans h4'.out.symm) H2.out
            · have f4 : ((rep (S k).b : Int) != (g : Int)) = true := by simp; omega
              have f5 : ((rep (S k).b : Int) == (g : Int)) = false := by simp; omega
              have h4' := Lib.hid h4
              clear h4
              by_cases h5 : 0 ≤ (lowR n S rep g k).1
              · have cb := cb h5
                by_cases h6 : (S (lowR n S rep g k).1.toNat).h < (S k).h
                · have H6 := Lib.hid (And.intro h5 h6)
                  have HK : Hid (lowR n S rep g (k + 1) = lowR n S rep g k) := by show _ = _; rw [HSTEP.out, if_pos (.inr (.inr H6.out))]
                  clear HSTEP
                  go_wp2
                  go_quiet (fail)
                  go_wp2
                  go_quiet (fail)
                  go_wp2
                  go_roundw
                  case rel => exact ⟨k + 1, by omega, by go_num, by rw [HK.out], by rw [HK.out], _, rfl⟩
                  case measure => simp [intOf]; omega
                · have H6 := Lib.hid h6
                  have HK : Hid (lowR n S rep g (k + 1) = ((k : Int), if rep (S k).b = g then rep (S k).a else rep (S k).b)) := by show _ = _; rw [HSTEP.out, if_neg (fun h => h.elim (H2.out) fun h => h.elim (fun h => h.1 H3.out) fun h => H6.out h.2)]
                  clear HSTEP
                  go_wp2
                  go_quiet (fail)
                  go_wp2
                  go_quiet (fail)
                  go_wp2
                  go_roundw
                  case rel => exact ⟨k + 1, by omega, by go_num, by rw [HK.out], by rw [HK.out]; rw [if_neg h4'.out], _, rfl⟩
                  case measure => simp [intOf]; omega
              · clear cb
                have f6 : decide (0 ≤ (lowR n S rep g k).1) = false := by simpa using h5
                have HK : Hid (lowR n S rep g (k + 1) = ((k : Int), if rep (S k).b = g then rep (S k).a else rep (S k).b)) := by show _ = _; rw [HSTEP.out, if_neg (fun h => h.elim (H2.out) fun h => h.elim (fun h => h.1 H3.out) fun h => h5 h.1)]
                clear HSTEP
                go_wp2
                go_quiet (fail)
                go_wp2
                go_quiet (fail)
                go_wp2
                go_roundw
                case rel => exact ⟨k + 1, by omega, by go_num, by rw [HK.out], by rw [HK.out]; rw [if_neg h4'.out], _, rfl⟩
                case measure => simp [intOf]; omega
          · have f3 : ((rep (S k).a : Int) != (g : Int)) = true := by simp; omega
            have H3 := Lib.hid h3
            clear h3
            by_cases h4 : rep (S k).b = g
            · have f4 : ((rep (S k).b : Int) != (g : Int)) = false := by simp [h4]
              have f5 : ((rep (S k).b : Int) == (g : Int)) = true := by simp [h4]
              have h4' := Lib.hid h4
              clear h4
              by_cases h5 : 0 ≤ (lowR n S rep g k).1
              · have cb := cb h5
                by_cases h6 : (S (lowR n S rep g k).1.toNat).h < (S k).h
                · have H6 := Lib.hid (And.intro h5 h6)
                  have HK : Hid (lowR n S rep g (k + 1) = lowR n S rep g k) := by show _ = _; rw [HSTEP.out, if_pos (.inr (.inr H6.out))]
                  clear HSTEP
                  go_wp2
                  go_quiet (fail)
                  go_wp2
                  go_quiet (fail)
                  go_wp2
                  go_roundw
                  case rel => exact ⟨k + 1, by omega, by go_num, by rw [HK.out], by rw [HK.out], _, rfl⟩
                  case measure => simp [intOf]; omega
                · have H6 := Lib.hid h6
                  have HK : Hid (lowR n S rep g (k + 1) = ((k : Int), if rep (S k).b = g then rep (S k).a else rep (S k).b)) := by show _ = _; rw [HSTEP.out, if_neg (fun h => h.elim (H2.out) fun h => h.elim (fun h => h.2 h4'.out) fun h => H6.out h.2)]
                  clear HSTEP
                  go_wp2
                  go_quiet (fail)
                  go_wp2
                  go_quiet (fail)
                  go_wp2
                  go_roundw
                  case rel => exact ⟨k + 1, by omega, by go_num, by rw [HK.out], by rw [HK.out]; rw [if_pos h4'.out], _, rfl⟩
                  case measure => simp [intOf]; omega
              · clear cb
                have f6 : decide (0 ≤ (lowR n S rep g k).1) = false := by simpa using h5
                have HK : Hid (lowR n S rep g (k + 1) = ((k : Int), if rep (S k).b = g then rep (S k).a else rep (S k).b)) := by show _ = _; rw [HSTEP.out, if_neg (fun h => h.elim (H2.out) fun h => h.elim (fun h => h.2 h4'.out) fun h => h5 h.1)]
                clear HSTEP
                go_wp2
                go_quiet (fail)
                go_wp2
                go_quiet (fail)
                go_wp2
                go_roundw
                case rel => exact ⟨k + 1, by omega, by go_num, by rw [HK.out], by rw [HK.out]; rw [if_pos h4'.out], _, rfl⟩
                case measure => simp [intOf]; omega
            · have f4 : ((rep (S k).b : Int) != (g : Int)) = true := by simp; omega
              have f5 : ((rep (S k).b : Int) == (g : Int)) = false := by simp; omega
              have h4' := Lib.hid h4
              clear h4
              clear cb
              have HK : Hid (lowR n S rep g (k + 1) = lowR n S rep g k) := by show _ = _; rw [HSTEP.out, if_pos (.inr (.inl ⟨H3.out, h4'.out⟩))]
              clear HSTEP
              go_wp2
              go_quiet (fail)
              go_wp2
              go_quiet (fail)
              go_wp2
              go_roundw
              case rel => exact ⟨k + 1, by omega, by go_num, by rw [HK.out], by rw [HK.out], _, rfl⟩
              case measure => simp [intOf]; omega
      · have hbe : (S k).b = n := by omega
        have HQ : Hid (rep (S k).b = n) := by show _ = _; rw [hbe, HSEA.out]
        clear hbe rg rs hab
        by_cases h2 : rep (S k).a = n
        · have f2 : ((rep (S k).a : Int) == (n : Nat)) = true := by simp [h2]
          have H2 := Lib.hid h2
          clear h2 cb
          have HK : Hid (lowR n S rep g (k + 1) = lowR n S rep g k) := by show _ = _; rw [HSTEP.out, if_pos (.inl (by rw [HQ.out]; exact H2.out))]
          clear HSTEP
          go_wp2
          go_quiet (fail)
          go_wp2
          go_quiet (fail)
          go_wp2
          go_roundw
          case rel => exact ⟨k + 1, by omega, by go_num, by rw [HK.out], by rw [HK.out], _, rfl⟩
          case measure => simp [intOf]; omega
        · have f2 : ((rep (S k).a : Int) == (n : Nat)) = false := by simp; omega
          have H2 := Lib.hid h2
          clear h2
          by_cases h3 : rep (S k).a = g
          · have f3 : ((rep (S k).a : Int) != (g : Int)) = false := by simp [h3]
            have H3 := Lib.hid h3
            clear h3
            have f4 : ((n : Int) != (g : Int)) = true := by simp; omega
            have f5 : ((n : Int) == (g : Int)) = false := by simp; omega
            have h4 : Hid (¬ rep (S k).b = g) := by show ¬ _; rw [HQ.out]; omega
            by_cases h5 : 0 ≤ (lowR n S rep g k).1
            · have cb := cb h5
              by_cases h6 : (S (lowR n S rep g k).1.toNat).h < (S k).h
              · have H6 := Lib.hid (And.intro h5 h6)
                have HK : Hid (lowR n S rep g (k + 1) = lowR n S rep g k) := by show _ = _; rw [HSTEP.out, if_pos (.inr (.inr H6.out))]
                clear HSTEP
                go_wp2
                go_quiet (fail)
                go_wp2
                go_quiet (fail)
                go_wp2
                go_roundw
                case rel => exact ⟨k + 1, by omega, by go_num, by rw [HK.out], by rw [HK.out], _, rfl⟩
                case measure => simp [intOf]; omega
              · have H6 := Lib.hid h6
                have HK : Hid (lowR n S rep g (k + 1) = ((k : Int), if rep (S k).b = g then rep (S k).a else rep (S k).b)) := by show _ = _; rw [HSTEP.out, if_neg (fun h => h.elim (fun h => H2.out (h.trans HQ.out)) fun h => h.elim (fun h => h.1 H3.out) fun h => H6.out h.2)]
                clear HSTEP
                go_wp2
                go_quiet (fail)
                go_wp2
                go_quiet (fail)
                go_wp2
                go_roundw
                case rel => exact ⟨k + 1, by omega, by go_num, by rw [HK.out], by rw [HK.out]; rw [if_neg h4.out, HQ.out], _, rfl⟩
                case measure => simp [intOf]; omega
            · clear cb
              have f6 : decide (0 ≤ (lowR n S rep g k).1) = false := by simpa using h5
              have HK : Hid (lowR n S rep g (k + 1) = ((k : Int), if rep (S k).b = g then rep (S k).a else rep (S k).b)) := by show _ = _; rw [HSTEP.out, if_neg (fun h => h.elim (fun h => H2.out (h.trans HQ.out)) fun h => h.elim (fun h => h.1 H3.out) fun h => h5 h.1)]
              clear HSTEP
              go_wp2
              go_quiet (fail)
              go_wp2
              go_quiet (fail)
              go_wp2
              go_roundw
              case rel => exact ⟨k + 1, by omega, by go_num, by rw [HK.out], by rw [HK.out]; rw [if_neg h4.out, HQ.out], _, rfl⟩
              case measure => simp [intOf]; omega
          · have f3 : ((rep (S k).a : Int) != (g : Int)) = true := by simp; omega
            have H3 := Lib.hid h3
            clear h3
            have f4 : ((n : Int) != (g : Int)) = true := by simp; omega
            have f5 : ((n : Int) == (g : Int)) = false := by simp; omega
            have h4 : Hid (¬ rep (S k).b = g) := by show ¬ _; rw [HQ.out]; omega
            clear cb
            have HK : Hid (lowR n S rep g (k + 1) = lowR n S rep g k) := by show _ = _; rw [HSTEP.out, if_pos (.inr (.inl ⟨H3.out, h4.out⟩))]
            clear HSTEP
            go_wp2
            go_quiet (fail)
            go_wp2
            go_quiet (fail)
            go_wp2
            go_roundw
            case rel => exact ⟨k + 1, by omega, by go_num, by rw [HK.out], by rw [HK.out], _, rfl⟩
            case measure => simp [intOf]; omega
    · clear rg rs hab
      go_wp2
      go_ret2
      exact ⟨by obtain rfl : k = m := by omega
                rfl, below_drewN hB _⟩

