import Derived.Test.YtjhididnmkbgoaaFl
import Derived.Test.YtjhididnmkbgoaaGp
set_option linter.unusedVariables false
set_option linter.unusedSimpArgs false
namespace Go.Proofs.Ytjhididnmkbgoaa
open Go.RowKit

/-- What is stored in a basin: the numbers of its fraction. -/
def stN (area floor LA LB : Nat → Int) (k : Nat) : Int := area k * (LA k - floor k * LB k)
def stA (area floor LA LB : Nat → Int) (k : Nat) : Int := stN area floor LA LB k / Int.gcd (stN area floor LA LB k) (LB k)
def stB (area floor LA LB : Nat → Int) (k : Nat) : Int := LB k / Int.gcd (stN area floor LA LB k) (LB k)

theorem mul_bd {a x A X : Int} (h0 : 0 ≤ a) (h1 : a ≤ A) (h2 : 0 ≤ x) (h3 : x ≤ X) : 0 ≤ a * x ∧ a * x ≤ A * X :=
  ⟨Int.mul_nonneg h0 h2, Int.mul_le_mul h1 h3 h2 (Int.le_trans h0 h1)⟩

set_option maxRecDepth 100000 in
set_option maxHeartbeats 2000000 in
theorem rstored44_any (w : World) (va vf vs vg vv lost : Value) (area floor vol LA LB : Nat → Int) (rep : Nat → Nat) (n : Nat)
    (hA : RdI w va n area) (hF : RdI w vf n floor) (hG : RdI w vg n (fun k => (rep k : Int))) (hV : RdI w vv n vol) (hn : n ≤ 8) (rng : Rng area floor) (hr : ∀ k, rep k ≤ k) (hvol : ∀ k, 0 ≤ vol k ∧ vol k ≤ 1000000000000)
    (hLA : LA = lvA area floor rep vol n) (hLB : LB = lvB area floor rep vol n) (hb1 : ∀ k, k < n → 0 ≤ LA k ∧ LA k ≤ 2000000000) (hb2 : ∀ k, k < n → 1 ≤ LB k ∧ LB k ≤ 1000000) (hfl : ∀ k, k < n → floor k * LB k ≤ LA k) :
    Calls Try.prog 44 #[.agg #[va, vf, vs], .agg #[vg, vv, lost]] w fun e w' => ∃ u, e = .returned u ∧ OwP w' w.heap.size u n (stA area floor LA LB) (stB area floor LA LB) ∧ Below w.heap.size w w' := by
  have hinfo : (Try.prog.info? 47).map (fun i => (i.zero, i.size, i.bytes)) = some (some (.agg #[.int .i64 0, .int .i64 0]), 2, 16) := by kernel_rfl
  obtain ⟨inf, hi0, hz0, hz1, hz2⟩ := info_parts hinfo
  have LV := fun W (hb : Below w.heap.size w W) => rlevels_any W va vf vs vg vv lost area floor vol rep n (hA.below hb) (hF.below hb) (hG.below hb) (hV.below hb) hn rng hr hvol
  rw [← hLA, ← hLB] at LV
  clear hLA hLB
  obtain ⟨A, ca, rfl, la, ra⟩ := id hA
  obtain ⟨F, cf, rfl, lf, rf⟩ := id hF
  have RA := Lib.hid ra
  have RF := Lib.hid rf
  clear ra rf
  go_enter Try.func44, Try.ntmps44
  go_upto_region 1 with (fail)
  refine wp_world fun W hW => ?_
  have hB : Below w.heap.size w W := by rw [hW]; exact ((Below.refl _ _).alloc (Nat.le_refl _) _).alloc (by simp) _
  have k2 : Blk W w.heap.size #[.slice A n ca, .slice F n cf, vs] 27 := by rw [hW]; exact (Blk.new _ _ _).alloc _
  have k3 : Blk W (w.heap.size + 1) #[vg, vv, lost] 32 := by rw [hW]; have := Blk.new (w.alloc (Obj.cells #[Value.slice A n ca, Value.slice F n cf, vs] 27)) #[vg, vv, lost] 32; simp only [World.size_alloc] at this; exact this
  clear hW
  have r0 := k2.cell 0 rfl
  have r1 := k2.cell 1 rfl
  have r2 := k2.cell 2 rfl
  have q0 := k3.cell 0 rfl
  have q1 := k3.cell 1 rfl
  have q2 := k3.cell 2 rfl
  have LVW := LV W hB
  go_upto_region 2 with (go_at_call 20; (with_reducible refine LVW.mono ?_); rintro e w1 ⟨u5, rfl, hu, hb⟩)
  have hB1 := hB.trans (hb.mono hB.size)
  have k2 := k2.below hb
  have hs1 : w.heap.size ≤ w1.heap.size := hB1.size
  clear LV LVW r0 r1 r2 q0 q1 q2 k3 hb hB
  obtain ⟨L, cl, rfl⟩ := own_len hu
  obtain ⟨_, _, el, _, rl⟩ := hu.reads (by omega)
  cases el
  have RL := Lib.hid rl
  have HK2 := Lib.hid k2
  clear rl hu
  go_wp2
  go_loopg [6, 7, 8, 9] n (fun gk v x y8 y9 wr => ∃ k : Nat, k ≤ n ∧ gk = n - k ∧ x = .int .i64 k ∧ OwP wr w1.heap.size v k (stA area floor LA LB) (stB area floor LA LB) ∧ Below w1.heap.size w1 wr)
  case atStart => exact ⟨0, by omega, rfl, rfl, World.ownsRow_nil _ _ _ _, Below.refl _ _⟩
  case round =>
    obtain ⟨k, hk, hgk, rfl, ho, hbw⟩ := hrel
    have HGK := Lib.hid hgk
    clear hgk
    by_cases hlt : k < n
    · obtain ⟨ba, oa, rfl, c1⟩ := RA.out k hlt
      obtain ⟨bf, of, rfl, c2⟩ := RF.out k hlt
      obtain ⟨bl, ol, rfl, l0, l1⟩ := RL.out k hlt
      have lba : ba < w.heap.size := World.block_lt_of_cell? w _ c1
      have lbf : bf < w.heap.size := World.block_lt_of_cell? w _ c2
      have lk2 := HK2.out.lt
      have hsw : w1.heap.size ≤ wr.heap.size := hbw.size
      have ne1 : some w.heap.size ≠ u6.ownBlock := fun e => by have := (World.ownsRow.lt ho _ e.symm).1; omega
      have ne3 : some ba ≠ u6.ownBlock := fun e => by have := (World.ownsRow.lt ho _ e.symm).1; omega
      have ne4 : some bf ≠ u6.ownBlock := fun e => by have := (World.ownsRow.lt ho _ e.symm).1; omega
      have e3 := cell_up hbw (cell_up hB1 c1)
      have e4 := cell_up hbw (cell_up hB1 c2)
      have e5 := cell_up hbw l0
      have e6 := cell_up hbw l1
      have k2r := HK2.out.below hbw
      have e0 := k2r.cell 0 rfl
      have e1 := k2r.cell 1 rfl
      have i2 : (0 : Int) ≤ (k : Int) := Int.natCast_nonneg _
      have i3 : (k : Int) < (n : Int) := by omega
      have h63 : k + 1 ≤ maxLen := by unfold maxLen; omega
      have h16 : (k + 1) * 16 ≤ 140737488355328 := by omega
      have x1 := hb1 k hlt
      have x2 := hb2 k hlt
      have x3 := hfl k hlt
      have x4 := mul_bd (rng.f1 k) (rng.f2 k) (show 0 ≤ LB k by omega) x2.2
      have x5 := mul_bd (show 0 ≤ area k by have := rng.a1 k; omega) (rng.a2 k) (show 0 ≤ LA k - floor k * LB k by omega) (show LA k - floor k * LB k ≤ 2000000000 by omega)
      have hw1 : IntKind.i64.wrap (floor k * LB k) = floor k * LB k := IntWalk.i64_in _ (by omega)
      have hw2 : IntKind.i64.wrap (LA k - floor k * LB k) = LA k - floor k * LB k := IntWalk.i64_in _ (by omega)
      have hw3 : IntKind.i64.wrap (area k * (LA k - floor k * LB k)) = area k * (LA k - floor k * LB k) := IntWalk.i64_in _ (by omega)
      have FR := fun W => fraction_any (area k * (LA k - floor k * LB k)) (LB k) W x5.1 x2.1 (by omega) (by omega)
      have HS : Hid (flat2 (k + 1) (stA area floor LA LB) (stB area floor LA LB) = flat2 k (stA area floor LA LB) (stB area floor LA LB) ++ [.int .i64 ((area k * (LA k - floor k * LB k)) / Int.gcd (area k * (LA k - floor k * LB k)) (LB k)), .int .i64 (LB k / Int.gcd (area k * (LA k - floor k * LB k)) (LB k))]) := flat2_succ k _ _
      generalize (area k * (LA k - floor k * LB k)) / (Int.gcd (area k * (LA k - floor k * LB k)) (LB k) : Int) = s0 at *
      generalize LB k / (Int.gcd (area k * (LA k - floor k * LB k)) (LB k) : Int) = s1 at *
      clear c1 c2 l0 l1 x1 x2 x3 x4 x5
      go_upto_region 6 with (fail)
      go_quiet (fail)
      go_upto_region 7 with (fail)
      refine wp_world fun W7 hW7 => ?_
      have hb7 : Below wr.heap.size wr W7 := by rw [hW7]; exact below_drewN (Below.refl _ _) _
      clear hW7
      have e0 := cell_up hb7 e0
      have e1 := cell_up hb7 e1
      have e3 := cell_up hb7 e3
      have e4 := cell_up hb7 e4
      have ho' := own_up hb7 ho
      have hB7 := hbw.trans (hb7.mono hbw.size)
      have hs7 : w1.heap.size ≤ W7.heap.size := hB7.size
      clear hb7 ho hbw e5 e6 k2r
      go_region_held3 (fun w' => w'.cell? ⟨w.heap.size, 0, none⟩ = some (.slice (some ⟨ba, oa, none⟩) n ca) ∧ w'.cell? ⟨w.heap.size, 1, none⟩ = some (.slice (some ⟨bf, of, none⟩) n cf) ∧ w'.cell? ⟨ba, oa + k, none⟩ = some (.int .i64 (area k)) ∧ w'.cell? ⟨bf, of + k, none⟩ = some (.int .i64 (floor k)))
        (go_keep)
        (first | (go_at_call 57; (with_reducible refine (FR _).mono ?_); rintro e w' ⟨rfl, hb⟩; have hb0 := undrew hb; clear hb; have z0 := cell_up hb0 e0; have z1 := cell_up hb0 e1; have z3 := cell_up hb0 e3; have z4 := cell_up hb0 e4; have hb' := hB7.trans (hb0.mono hB7.size); have ho1 := own_up hb0 ho'; clear e0 e1 e3 e4) | ((refine step_append_lies _ (by rfl) _ _ _ (by rfl) w1.heap.size 47 inf _ 2 16 Try.underlying34 hi0 hz0 hz1 hz2 rfl (by decide) u6 k _ (by rfl) (ho1.alloc _) ⟨w'.heap.size, 0, none⟩ 1 1 [.int .i64 s0, .int .i64 s1] (by rfl) (by rfl) (World.news_of_block (t := 47) (fr := (0, 0)) (heap_new w' _)) (two_one _ _) (by decide) h63 h16 (size_up hb'.size _) (w'.heap.size + 1) (World.size_alloc _ _) ?_); intro gg cap w5 hown1 hgrow hat hlt1; have z0 := grown_cell hgrow z0 ne1; have z1 := grown_cell hgrow z1 ne1; have z3 := grown_cell hgrow z3 ne3; have z4 := grown_cell hgrow z4 ne4))
      go_wp2
      go_roundg (n - (k + 1))
      case measure => have := HGK.out; omega
      case rel =>
        refine ⟨k + 1, by omega, rfl, by go_num, ?_, (hb'.alloc hb'.size _).grown hgrow (size_up hb'.size _) (own_base ho')⟩
        have e := HS.out
        unfold flat2 at e
        unfold OwP
        rw [e]
        exact hown1
    · obtain rfl : k = n := by omega
      go_wp2
      go_ret
      exact ⟨_, rfl, World.ownsRow.mono ho hs1, hB1.trans (hbw.mono hs1)⟩
end Go.Proofs.Ytjhididnmkbgoaa
