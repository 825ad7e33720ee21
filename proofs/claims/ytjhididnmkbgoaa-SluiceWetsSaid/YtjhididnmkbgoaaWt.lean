import Derived.Test.YtjhididnmkbgoaaSd
import Derived.Test.YtjhididnmkbgoaaPl
set_option linter.unusedVariables false
set_option linter.unusedSimpArgs false
namespace Go.Proofs.Ytjhididnmkbgoaa
open Go.RowKit

/-- The basins of the first k that f tells to be wet. -/
def wets (f : Nat → Int) (k : Nat) : List Nat := (List.range k).filter fun j => decide (0 < f j)
theorem wets_succ (f : Nat → Int) (k : Nat) : wets f (k + 1) = if 0 < f k then wets f k ++ [k] else wets f k := by
  unfold wets
  rw [List.range_succ, List.filter_append]
  split <;> simp_all
theorem wets_len (f : Nat → Int) (k : Nat) : (wets f k).length ≤ k := by
  have := List.length_filter_le (fun j => decide (0 < f j)) (List.range k)
  simpa [wets] using this
theorem wets_congr {f g : Nat → Int} {n : Nat} (h : ∀ k, k < n → (0 < f k ↔ 0 < g k)) : wets f n = wets g n := by
  unfold wets
  refine List.filter_congr fun k hk => ?_
  have := h k (by simpa using hk)
  by_cases c : 0 < f k
  · rw [decide_eq_true c, decide_eq_true (this.1 c)]
  · rw [decide_eq_false c, decide_eq_false (fun q => c (this.2 q))]

theorem OwN.reads {w : World} {base : Nat} {v : Value} {l : List Nat} (h : OwN w base v l) (hl : l.length ≤ 1000000) : RdI w v l.length (fun i => ((l[i]! : Nat) : Int)) := by
  have h' : OwI w base v l.length (fun i => ((l[i]! : Nat) : Int)) := by
    unfold OwI
    have : (List.range l.length).map (fun k => Value.int .i64 ((l[k]! : Nat) : Int)) = l.map fun k => .int .i64 ((k : Nat) : Int) := by
      apply List.ext_getElem
      · simp
      · intro i h1 h2
        simp only [List.getElem_map, List.getElem_range]
        rw [getElem!_pos l i (by simpa using h2)]
    rw [this]
    exact h
  exact h'.reads (by omega)

set_option maxRecDepth 100000 in
set_option maxHeartbeats 2000000 in
theorem rwet25_any (w : World) (va vf vs vg vv lost : Value) (area floor vol LA LB : Nat → Int) (rep : Nat → Nat) (n : Nat)
    (hA : RdI w va n area) (hF : RdI w vf n floor) (hG : RdI w vg n (fun k => (rep k : Int))) (hV : RdI w vv n vol) (hn : n ≤ 8) (rng : Rng area floor) (hr : ∀ k, rep k ≤ k) (hvol : ∀ k, 0 ≤ vol k ∧ vol k ≤ 1000000000000)
    (hLA : LA = lvA area floor rep vol n) (hLB : LB = lvB area floor rep vol n) (hb1 : ∀ k, k < n → 0 ≤ LA k ∧ LA k ≤ 2000000000) (hb2 : ∀ k, k < n → 1 ≤ LB k ∧ LB k ≤ 1000000) (hfl : ∀ k, k < n → floor k * LB k ≤ LA k) :
    Calls Try.prog 25 #[.agg #[va, vf, vs], .agg #[vg, vv, lost]] w fun e w' => ∃ u, e = .returned u ∧ OwN w' w.heap.size u (wets (stA area floor LA LB) n) ∧ Below w.heap.size w w' := by
  have ST := fun W (hb : Below w.heap.size w W) => rstored44_any W va vf vs vg vv lost area floor vol LA LB rep n (hA.below hb) (hF.below hb) (hG.below hb) (hV.below hb) hn rng hr hvol hLA hLB hb1 hb2 hfl
  clear hLA hLB
  obtain ⟨A, ca, rfl, la, ra⟩ := id hA
  obtain ⟨F, cf, rfl, lf, rf⟩ := id hF
  clear ra rf
  go_enter Try.func25, Try.ntmps25
  go_upto_region 1 with (fail)
  refine wp_world fun W hW => ?_
  have hB : Below w.heap.size w W := by rw [hW]; exact ((Below.refl _ _).alloc (Nat.le_refl _) _).alloc (by simp) _
  have k2 : Blk W w.heap.size #[.slice A n ca, .slice F n cf, vs] 27 := by rw [hW]; exact (Blk.new _ _ _).alloc _
  have k3 : Blk W (w.heap.size + 1) #[vg, vv, lost] 32 := by rw [hW]; have := Blk.new (w.alloc (Obj.cells #[Value.slice A n ca, Value.slice F n cf, vs] 27)) #[vg, vv, lost] 32; simp only [World.size_alloc] at this; exact this
  clear hW
  have r0 := k2.cell 0 rfl
  have r1 := k2.cell 1 rfl
  have r2 := k2.cell 2 rfl
  have q0 := k3.cell 0 rfl
  have q1 := k3.cell 1 rfl
  have q2 := k3.cell 2 rfl
  have STW := ST W hB
  go_upto_region 2 with (go_at_call 44; (with_reducible refine STW.mono ?_); rintro e w1 ⟨u5, rfl, hu, hb⟩)
  have hB1 := hB.trans (hb.mono hB.size)
  have hs1 : w.heap.size ≤ w1.heap.size := hB1.size
  clear ST STW r0 r1 r2 q0 q1 q2 k3 k2 hb hB
  obtain ⟨L, cl, rfl⟩ := own_len hu
  obtain ⟨_, _, el, _, rl⟩ := hu.reads (by omega)
  cases el
  have RL := Lib.hid rl
  clear rl hu
  generalize hf : stA area floor LA LB = f at *
  have HF := Lib.hid hf
  clear hf
  go_wp2
  go_loopg [6, 7] n (fun gk v x wr => ∃ k : Nat, k ≤ n ∧ gk = n - k ∧ x = .int .i64 k ∧ OwN wr w1.heap.size v (wets f k) ∧ Below w1.heap.size w1 wr)
  case atStart => exact ⟨0, by omega, rfl, rfl, World.ownsRow_nil _ _ _ _, Below.refl _ _⟩
  case round =>
    obtain ⟨k, hk, hgk, rfl, ho, hbw⟩ := hrel
    have HGK := Lib.hid hgk
    have HM := Lib.hid (wets_succ f k)
    have HWL := Lib.hid (wets_len f k)
    clear hgk
    by_cases hlt : k < n
    · obtain ⟨bl, ol, rfl, l0, _⟩ := RL.out k hlt
      have e5 := cell_up hbw l0
      have i2 : (0 : Int) ≤ (k : Int) := Int.natCast_nonneg _
      have i3 : (k : Int) < (n : Int) := by omega
      clear l0
      by_cases hp : 0 < f k
      · have d1 : decide (0 < f k) = true := decide_eq_true hp
        have HR : Hid (wets f (k + 1) = wets f k ++ [k]) := by have := HM.out; rw [if_pos hp] at this; exact this
        have hwl := HWL.out
        have HO := Lib.hid ho
        have HBW := Lib.hid hbw
        clear HM ho hbw hp
        go_wp2_with (at_builtin; refine app_one (news := [.int .i64 k]) 22 3 (.int .i64 0) 1 8 Try.underlying22 (by kernel_rfl) rfl (by decide) (by decide) rfl (.tmp 23) (.tmp 25) rfl w1.heap.size _ _ _ rfl HO.out rfl rfl (by simp [Value.oneCell']) (by omega) HBW.out.size ?_; intro v' w5 h1 h2 h3)
        have hB7 := HBW.out.grown h2 HBW.out.size (own_base HO.out)
        go_roundg (n - (k + 1))
        case measure => have := HGK.out; omega
        case rel => exact ⟨k + 1, by omega, rfl, by go_num, by rw [HR.out]; exact OwN.snoc h1, hB7⟩
      · have d1 : decide (0 < f k) = false := decide_eq_false hp
        have HR : Hid (wets f (k + 1) = wets f k) := by have := HM.out; rw [if_neg hp] at this; exact this
        have HO := Lib.hid ho
        clear HM ho hp
        go_wp2
        go_roundg (n - (k + 1))
        case measure => have := HGK.out; omega
        case rel => exact ⟨k + 1, by omega, rfl, by go_num, by rw [HR.out]; exact HO.out, hbw⟩
    · obtain rfl : k = n := by omega
      go_wp2
      go_ret
      refine ⟨_, rfl, ?_, hB1.trans (hbw.mono hs1)⟩
      rw [HF.out]
      exact World.ownsRow.mono ho hs1
end Go.Proofs.Ytjhididnmkbgoaa
