import Derived.Test.YtjhididnmkbgoaaWg
import Derived.Deep.CutBlock
set_option linter.unusedVariables false
set_option linter.unusedSimpArgs false
namespace Go.Proofs.Ytjhididnmkbgoaa
open Go.RowKit

theorem drop_any {w : World} {a : Option Addr} {n c : Nat} {A B H : Nat → Int} (h : RdT w (.slice a n c) n A B H) (k : Nat) (hk : k ≤ n) :
    ∃ U, (∀ w', (Instr.slice 23 (.slice a n c) (some (.int .i64 (k : Int))) none none).run Try.prog w' = .ok U w') ∧ RdT w U (n - k) (fun j => A (k + j)) (fun j => B (k + j)) (fun j => H (k + j)) := by
  have hu : Try.prog.underlying 23 = some (.slice (Try.prog.elem 23)) := by kernel_rfl
  have hsz : ∀ w', (sizeOf (Try.prog.elem 23)).run Try.prog w' = .ok 3 w' := fun w' => by kernel_rfl
  refine ⟨sliced a k n c 3, fun w' => ?_, ?_⟩
  · rw [run_slice_l w' 23 a n c hu .i64 (k : Int) (by omega) (by omega), hsz]
    simp
  · obtain ⟨a', c', e, hl, hc⟩ := h
    cases e
    unfold sliced
    by_cases e : k < n
    · obtain ⟨b, off, rfl, h1, h2, h3⟩ := hc k e
      refine ⟨_, _, rfl, ⟨by omega, by omega⟩, fun j hj => ?_⟩
      obtain ⟨b', off', e', h1, h2, h3⟩ := hc (k + j) (by omega)
      cases e'
      refine ⟨b, off + k * 3, by simp [show ¬ c = k by omega, add_plain], ?_⟩
      rw [show off + k * 3 + j * 3 = off + (k + j) * 3 by omega]
      exact ⟨h1, h2, h3⟩
    · exact ⟨_, _, rfl, ⟨by omega, by omega⟩, fun j hj => by omega⟩

set_option maxRecDepth 100000 in
set_option maxHeartbeats 4000000 in
theorem put_any (w : World) (v : Value) (n : Nat) (A B H : Nat → Int) (s0 s1 s2 : Int) (hS : RdT w v n A B H) (hn : n ≤ 20) :
    Calls Try.prog 49 #[v, .agg #[.int .i64 s0, .int .i64 s1, .int .i64 s2]] w fun e w' => ∃ u A' B' H', e = .returned u ∧ OwT w' w.heap.size u (n + 1) A' B' H' ∧ Below w.heap.size w w' := by
  obtain ⟨VV, cs, rfl, ls, rs⟩ := id hS
  have RS := Lib.hid rs
  clear rs
  go_enter Try.func49, Try.ntmps49
  go_upto_region 1 with (fail)
  refine wp_world fun W hW => ?_
  have hB : Below w.heap.size w W := by rw [hW]; exact (Below.refl _ _).alloc (Nat.le_refl _) _
  have k1 : Blk W w.heap.size #[.int .i64 s0, .int .i64 s1, .int .i64 s2] 75 := by rw [hW]; exact Blk.new _ _ _
  clear hW
  go_wp2
  go_loopg [5] n (fun gk x wr => ∃ k : Nat, k ≤ n ∧ gk = n - k ∧ x = .int .i64 k ∧ Below w.heap.size w wr ∧ Blk wr w.heap.size #[.int .i64 s0, .int .i64 s1, .int .i64 s2] 75)
  case atStart => exact ⟨0, by omega, rfl, rfl, hB, k1⟩
  case round =>
    obtain ⟨k, hk, hgk, rfl, hB, k1⟩ := hrel
    have HGK := Lib.hid hgk
    clear hgk
    go_upto_region 2 with (fail)
    go_cut [60] from 7 to 60 (fun x wx => ∃ b : Bool, x = .bool b ∧ (b = true → k < n) ∧ Below w.heap.size w wx ∧ Blk wx w.heap.size #[.int .i64 s0, .int .i64 s1, .int .i64 s2] 75)
    case first =>
      have b0 := k1.cell 0 rfl
      have b1 := k1.cell 1 rfl
      have b2 := k1.cell 2 rfl
      by_cases hlt : k < n
      · have d0 : decide ((k : Int) < (n : Int)) = true := decide_eq_true (by omega)
        have d0' : decide (k < n) = true := decide_eq_true hlt
        have HLT := Lib.hid hlt
        obtain ⟨bs, os, rfl, x0, x1, x2⟩ := RS.out k hlt
        have x0 := cell_up hB x0
        have x1 := cell_up hB x1
        have x2 := cell_up hB x2
        have i0 : (0 : Int) ≤ (k : Int) := Int.natCast_nonneg _
        have i1 : (k : Int) < (n : Int) := by omega
        generalize A k = y0 at x0
        generalize B k = y1 at x1
        generalize H k = y2 at x2
        clear hlt
        by_cases c1 : y0 < s0
        · have d1 : decide (y0 < s0) = true := decide_eq_true c1
          go_quiet (fail)
          go_wp2
          go_meet
          exact ⟨_, rfl, fun _ => HLT.out, below_drewN hB _, k1⟩
        have d1 : decide (y0 < s0) = false := decide_eq_false c1
        cases e1 : (y0 == s0) with
        | false =>
          go_quiet (fail)
          go_wp2
          go_meet
          exact ⟨_, rfl, fun _ => HLT.out, below_drewN hB _, k1⟩
        | true =>
          by_cases c2 : y1 < s1
          · have d2 : decide (y1 < s1) = true := decide_eq_true c2
            go_quiet (fail)
            go_wp2
            go_meet
            exact ⟨_, rfl, fun _ => HLT.out, below_drewN hB _, k1⟩
          have d2 : decide (y1 < s1) = false := decide_eq_false c2
          cases e2 : (y1 == s1) with
          | false =>
            go_quiet (fail)
            go_wp2
            go_meet
            exact ⟨_, rfl, fun _ => HLT.out, below_drewN hB _, k1⟩
          | true =>
            go_quiet (fail)
            go_wp2
            go_meet
            exact ⟨_, rfl, fun _ => HLT.out, below_drewN hB _, k1⟩
      · have d0 : decide ((k : Int) < (n : Int)) = false := decide_eq_false (by omega)
        have d0' : decide (k < n) = false := decide_eq_false hlt
        have HLT := Lib.hid hlt
        clear hlt
        go_quiet (fail)
        go_wp2
        go_meet
        exact ⟨false, by simp, by simp, below_drewN hB _, k1⟩
    case rest =>
      obtain ⟨b, rfl, hb, hB2, k1'⟩ := hcut
      cases b with
      | true =>
        have hlt := hb rfl
        go_wp2
        go_roundg (n - (k + 1))
        case measure => have := HGK.out; omega
        case rel => exact ⟨k + 1, by omega, rfl, by go_num, hB2, k1'⟩
      | false =>
        clear hb HGK
        have b0 := k1'.cell 0 rfl
        have b1 := k1'.cell 1 rfl
        have b2 := k1'.cell 2 rfl
        have hS2 := (hS.below hB2).take k hk
        have l9 := hB2.size
        go_upto_region 6 with (at_builtin; refine app_threes rfl (.tmp 63) (.tmp 66) rfl w.heap.size _ _ 0 k A B H A B H rfl rfl (OwT.nil _ _ _ _ _) hS2 hB2 (by omega) (by omega) (by omega) ?_; intro v1 w1 ho1 hb1 hg1; have k2 := k1'.kept hg1 (show some _ ≠ Value.ownBlock (.slice none 0 0) by simp [Value.ownBlock]); have b0 := k2.cell 0 rfl; have b1 := k2.cell 1 rfl; have b2 := k2.cell 2 rfl; have l8 := hb1.size)
        go_upto_region 7 with (at_builtin; refine app_three rfl (.tmp 68) (.tmp 70) rfl w.heap.size v1 (0 + k) _ _ _ s0 s1 s2 rfl ho1 hb1 rfl (by omega) (by omega) ?_; intro v2 w2 ho2 hb2 hg2 hat2)
        have l7 := hb2.size
        obtain ⟨U, hU, hS3⟩ := drop_any (hS.below hb2) k hk
        go_wp2_with (at_builtin; refine app_threes rfl (.tmp 72) (.tmp 75) rfl w.heap.size _ _ (0 + k + 1) (n - k) _ _ _ _ _ _ rfl rfl ho2 hS3 hb2 (by omega) (by omega) (by omega) ?_; intro v3 w3 ho3 hb3 hg3)
        refine bodyPost_ret (v := v3) (by simp [results, Try.results49, go_sem]) rfl ⟨v3, _, _, _, rfl, (show OwT w3 w.heap.size v3 (n + 1) _ _ _ from by rw [show n + 1 = 0 + k + 1 + (n - k) by omega]; exact ho3), hb3⟩
end Go.Proofs.Ytjhididnmkbgoaa

