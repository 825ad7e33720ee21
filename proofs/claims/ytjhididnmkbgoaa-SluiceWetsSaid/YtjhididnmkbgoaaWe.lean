import Derived.Test.YtjhididnmkbgoaaWa
import Derived.Test.YtjhididnmkbgoaaWb
import Derived.Deep.RegionHeld3
import Derived.Deep.AppendLies
set_option linter.unusedVariables false
set_option linter.unusedSimpArgs false
namespace Go.Proofs.Ytjhididnmkbgoaa
open Go.RowKit

theorem own_up {w w1 : World} (hb : Below w.heap.size w w1) {base n : Nat} {e : TypeId} {size : Nat} {v : Value} {xs : List Value} (h : w.ownsRow base e size v n xs) : w1.ownsRow base e size v n xs := h.kept (grown_below hb none) (by cases v.ownBlock <;> simp)

theorem size_up {B : Nat} {w : World} (h : B ≤ w.heap.size) (o : Obj) : B ≤ (w.alloc o).heap.size := by simp; omega
theorem undrew {B : Nat} {W w' : World} (h : Below B W.drew w') : Below B W w' := ⟨h.os, h.tape, h.output, h.size, h.block⟩
theorem grown_cell {w w1 : World} {o : Obj} {row : Option Nat} (hg : (w.alloc o).grownBy w1 row) {a : Addr} {v : Value} (h : w.cell? a = some v) (hne : some a.block ≠ row) : w1.cell? a = some v :=
  World.grownBy.cell hg (cell_up ((Below.refl _ w).alloc (Nat.le_refl _) o) h) hne
theorem two_one (x y : Int) : ∀ u ∈ [Value.int .i64 x, Value.int .i64 y], u.oneCell' = true := by simp [Value.oneCell']

/-- n pairs that the call made. -/
def OwP (w : World) (base : Nat) (v : Value) (n : Nat) (A B : Nat → Int) : Prop := w.ownsRow base 47 2 v n ((List.range n).flatMap fun k => [.int .i64 (A k), .int .i64 (B k)])

/-- A level: the numbers of its fraction. -/
def lvN (area floor : Nat → Int) (rep : Nat → Nat) (vol : Nat → Int) (n k : Nat) : Int := vol (rep k) + grpF area floor (fun i => (rep i : Int)) (rep k) n
def lvD (area : Nat → Int) (rep : Nat → Nat) (n k : Nat) : Int := grpA area (fun i => (rep i : Int)) (rep k) n
def lvA (area floor : Nat → Int) (rep : Nat → Nat) (vol : Nat → Int) (n k : Nat) : Int := lvN area floor rep vol n k / Int.gcd (lvN area floor rep vol n k) (lvD area rep n k)
def lvB (area floor : Nat → Int) (rep : Nat → Nat) (vol : Nat → Int) (n k : Nat) : Int := lvD area rep n k / Int.gcd (lvN area floor rep vol n k) (lvD area rep n k)

theorem lvD_pos {area floor : Nat → Int} (rng : Rng area floor) (rep : Nat → Nat) (n k : Nat) (hk : k < n) : 1 ≤ lvD area rep n k := by
  unfold lvD grpA
  have h0 := rng.a1 k
  have : Slu.sumN n (fun i => 0) < Slu.sumN n (fun i => if ((rep i : Nat) : Int) = (rep k : Nat) then area i else 0) := by
    refine Slu.sumN_lt (fun i _ => ?_) k hk ?_
    · have := rng.a1 i
      split <;> omega
    · rw [if_pos rfl]; omega
  rw [Slu.sumN_zero] at this
  exact this

set_option maxRecDepth 100000 in
set_option maxHeartbeats 2000000 in
theorem rlevels_any (w : World) (va vf vs vg vv lost : Value) (area floor vol : Nat → Int) (rep : Nat → Nat) (n : Nat)
    (hA : RdI w va n area) (hF : RdI w vf n floor) (hG : RdI w vg n (fun k => (rep k : Int))) (hV : RdI w vv n vol) (hn : n ≤ 8) (rng : Rng area floor) (hr : ∀ k, rep k ≤ k) (hvol : ∀ k, 0 ≤ vol k ∧ vol k ≤ 1000000000000) :
    Calls Try.prog 20 #[.agg #[va, vf, vs], .agg #[vg, vv, lost]] w fun e w' => ∃ u, e = .returned u ∧ OwP w' w.heap.size u n (lvA area floor rep vol n) (lvB area floor rep vol n) ∧ Below w.heap.size w w' := by
  have hinfo : (Try.prog.info? 47).map (fun i => (i.zero, i.size, i.bytes)) = some (some (.agg #[.int .i64 0, .int .i64 0]), 2, 16) := by kernel_rfl
  obtain ⟨inf, hi0, hz0, hz1, hz2⟩ := info_parts hinfo
  obtain ⟨A, ca, rfl, la, ra⟩ := id hA
  obtain ⟨F, cf, rfl, lf, rf⟩ := id hF
  obtain ⟨G, cg, rfl, lg, rg⟩ := id hG
  obtain ⟨V, cv, rfl, lv, rv⟩ := id hV
  clear ra rf
  go_enter Try.func20, Try.ntmps20
  go_wp2
  refine wp_world fun W hW => ?_
  have hB : Below w.heap.size w W := by rw [hW]; exact ((Below.refl _ _).alloc (Nat.le_refl _) _).alloc (by simp) _
  have k2 : Blk W w.heap.size #[.slice A n ca, .slice F n cf, vs] 27 := by rw [hW]; exact (Blk.new _ _ _).alloc _
  have k3 : Blk W (w.heap.size + 1) #[.slice G n cg, .slice V n cv, lost] 32 := by rw [hW]; have := Blk.new (w.alloc (Obj.cells #[Value.slice A n ca, Value.slice F n cf, vs] 27)) #[Value.slice G n cg, Value.slice V n cv, lost] 32; simp only [World.size_alloc] at this; exact this
  clear hW
  go_loopw [5, 6] (fun v x wr => ∃ k : Nat, k ≤ n ∧ x = .int .i64 k ∧ OwP wr w.heap.size v k (lvA area floor rep vol n) (lvB area floor rep vol n) ∧ Below w.heap.size w wr ∧ Blk wr w.heap.size #[.slice A n ca, .slice F n cf, vs] 27 ∧ Blk wr (w.heap.size + 1) #[.slice G n cg, .slice V n cv, lost] 32) (fun _ x _ => n - (intOf x).toNat)
  case atStart => exact ⟨0, by omega, rfl, World.ownsRow_nil _ _ _ _, hB, k2, k3⟩
  case round =>
    obtain ⟨k, hk, rfl, ho, hB, k2, k3⟩ := hrel
    by_cases hlt : k < n
    · obtain ⟨b3, o3, rfl, c3⟩ := rg k hlt
      obtain ⟨b4, o4, rfl, c4⟩ := rv (rep k) (by have := hr k; omega)
      have hA1 := hA.below (hB.mono (Nat.le_refl _))
      have hF1 := hF.below (hB.mono (Nat.le_refl _))
      have hG1 := hG.below (hB.mono (Nat.le_refl _))
      have c3w := c3
      have c4w := c4
      have c3 := cell_up hB c3
      have c4 := cell_up hB c4
      have b0 := k2.cell 0 rfl
      have b1 := k2.cell 1 rfl
      have b2 := k2.cell 2 rfl
      have d0 := k3.cell 0 rfl
      have d1 := k3.cell 1 rfl
      have d2 := k3.cell 2 rfl
      have x0 := fun x => Ext.cell b0 x
      have x1 := fun x => Ext.cell b1 x
      have x2 := fun x => Ext.cell b2 x
      have y0 := fun x => Ext.cell d0 x
      have y1 := fun x => Ext.cell d1 x
      have y2 := fun x => Ext.cell d2 x
      have y3 := fun x => Ext.cell c3 x
      clear rg rv
      go_wp2
      refine wp_region_ext (by kernel_rfl) (by kernel_rfl) ?_
      repeat (quiet_step ((go_at_call 56; refine calls_ext (size_any _ _ _ _ _ _ _ area floor (fun k => (rep k : Int)) n _ (hA1.below (Ext.below _)) (hF1.below (Ext.below _)) (hG1.below (Ext.below _)) hn rng))))
      refine wpQuiet_nil ?_
      rintro _ ⟨W2, rfl⟩
      refine world_name fun W3 hW3 => ?_
      have hg1 : Below wr.heap.size wr W3 := by rw [hW3]; exact W2.below
      have hB3 : Below w.heap.size w W3 := hB.trans (hg1.mono hB.size)
      have k2' := k2.below hg1
      have k3' := k3.below hg1
      have ho' : W3.ownsRow w.heap.size 47 2 u5 k ((List.range k).flatMap fun j => [.int .i64 (lvA area floor rep vol n j), .int .i64 (lvB area floor rep vol n j)]) := ho.kept (grown_below hg1 none) (by cases u5.ownBlock <;> simp)
      have e0 := k3'.cell 0 rfl
      have e1 := k3'.cell 1 rfl
      have e3 := cell_up hg1 c3
      have e4 := cell_up hg1 c4
      have hd0 : 1 ≤ grpA area (fun k => (rep k : Int)) (rep k) n := lvD_pos rng rep n k hlt
      have q2 := grpA_range rng (fun i => (rep i : Int)) (rep k) n
      have ne1 := k3'.ne_own (by decide) ho'
      have ne3 : some b3 ≠ u5.ownBlock := fun e => by have := (ho'.lt _ e.symm).1; have h3 : b3 < w.heap.size := World.block_lt_of_cell? w _ c3w; omega
      have ne4 : some b4 ≠ u5.ownBlock := fun e => by have := (ho'.lt _ e.symm).1; have h4 : b4 < w.heap.size := World.block_lt_of_cell? w _ c4w; omega
      have h63 : k + 1 ≤ maxLen := by unfold maxLen; omega
      have h16 : (k + 1) * 16 ≤ 140737488355328 := by omega
      have q0 := hvol (rep k)
      have i0 : (0 : Int) ≤ (rep k : Int) := Int.natCast_nonneg _
      have i1 : (rep k : Int) < (n : Int) := by have := hr k; omega
      have i2 : (0 : Int) ≤ (k : Int) := Int.natCast_nonneg _
      have i3 : (k : Int) < (n : Int) := by omega
      have q1 := grpF_range rng (fun i => (rep i : Int)) (rep k) n
      have hwr : IntKind.i64.wrap (vol (rep k) + grpF area floor (fun k => (rep k : Int)) (rep k) n) = vol (rep k) + grpF area floor (fun k => (rep k : Int)) (rep k) n := IntWalk.i64_in _ (by omega)
      clear c3w c4w hW3 hg1 hB k2 k3 ho b0 b1 b2 d0 d1 d2 x0 x1 x2 y0 y1 y2 y3 c3 c4 hA1 hF1 hG1
      go_wp2
      go_region_held3 (fun w' => w'.cell? ⟨w.heap.size + 1, 0, none⟩ = some (.slice (some ⟨b3, o3, none⟩) n cg) ∧ w'.cell? ⟨w.heap.size + 1, 1, none⟩ = some (.slice (some ⟨b4, o4, none⟩) n cv) ∧ w'.cell? ⟨b3, o3 + k, none⟩ = some (.int .i64 (rep k)) ∧ w'.cell? ⟨b4, o4 + rep k, none⟩ = some (.int .i64 (vol (rep k))))
        (go_keep)
        (first | (go_at_call 57; (with_reducible refine (fraction_any (vol (rep k) + grpF area floor (fun k => (rep k : Int)) (rep k) n) (grpA area (fun k => (rep k : Int)) (rep k) n) _ (by omega) hd0 (by omega) (by omega)).mono ?_); rintro e w' ⟨rfl, hb⟩; have hb0 := undrew hb; clear hb; have z0 := cell_up hb0 e0; have z1 := cell_up hb0 e1; have z3 := cell_up hb0 e3; have z4 := cell_up hb0 e4; have hb' := hB3.trans (hb0.mono hB3.size); have ho1 := own_up hb0 ho'; clear e0 e1 e3 e4) | ((refine step_append_lies _ (by rfl) _ _ _ (by rfl) w.heap.size 47 inf _ 2 16 Try.underlying34 hi0 hz0 hz1 hz2 rfl (by decide) u5 k _ (by rfl) (ho1.alloc _) ⟨w'.heap.size, 0, none⟩ 1 1 [.int .i64 ((vol (rep k) + grpF area floor (fun k => (rep k : Int)) (rep k) n) / (Int.gcd (vol (rep k) + grpF area floor (fun k => (rep k : Int)) (rep k) n) (grpA area (fun k => (rep k : Int)) (rep k) n))), .int .i64 ((grpA area (fun k => (rep k : Int)) (rep k) n) / (Int.gcd (vol (rep k) + grpF area floor (fun k => (rep k : Int)) (rep k) n) (grpA area (fun k => (rep k : Int)) (rep k) n)))] (by rfl) (by rfl) (World.news_of_block (t := 47) (fr := (0, 0)) (heap_new w' _)) (two_one _ _) (by decide) h63 h16 (size_up hb'.size _) (w'.heap.size + 1) (World.size_alloc _ _) ?_); intro gg cap w1 hown1 hgrow hat hlt1; have z0 := grown_cell hgrow z0 ne1; have z1 := grown_cell hgrow z1 ne1; have z3 := grown_cell hgrow z3 ne3; have z4 := grown_cell hgrow z4 ne4))
      go_wp2
      have k2'' := ((k2'.below hb0).alloc _).kept hgrow ((k2'.below hb0).ne_own (by decide) ho1)
      have k3'' := ((k3'.below hb0).alloc _).kept hgrow ne1
      go_roundw
      case rel =>
        refine ⟨k + 1, by omega, by go_num, ?_, (hb'.alloc hb'.size _).grown hgrow (size_up hb'.size _) (own_base ho'), k2'', k3''⟩
        unfold OwP
        rw [List.range_succ, List.flatMap_append]
        exact hown1
      case measure => simp [intOf]; omega
    · have b0 := k2.cell 0 rfl
      clear rg rv
      go_wp2
      go_ret
      exact ⟨_, rfl, by obtain rfl : k = n := by omega
                        exact ho, hB⟩
end Go.Proofs.Ytjhididnmkbgoaa
