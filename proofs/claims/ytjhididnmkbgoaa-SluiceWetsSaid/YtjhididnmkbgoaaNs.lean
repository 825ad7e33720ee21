import Derived.Test.YtjhididnmkbgoaaLv
import Derived.Deep.RegionWith
set_option linter.unusedVariables false
set_option linter.unusedSimpArgs false
namespace Go.Proofs.Ytjhididnmkbgoaa
open Go.RowKit

/-- A new state. -/
def New60 (w : World) (va vf vs : Value) (e : Ending) (w' : World) : Prop :=
  ∃ X, e = .returned (.pointer (some ⟨X, 0, none⟩)) ∧ w.heap.size ≤ X ∧ SX w' X va vf vs (fun i => i) (fun _ => 0) 0 ∧ Below w.heap.size w w'

set_option maxRecDepth 100000 in
set_option maxHeartbeats 1000000 in
theorem newState60_any (w : World) (va vf vs : Value) : Calls Try.prog 60 #[.agg #[va, vf, vs]] w fun e w' => New60 w va vf vs e w' := by
  go_enter Try.func60, Try.ntmps60
  go_upto_region 1 with (fail)
  refine wp_world fun W hW => ?_
  have hB : Below w.heap.size w W := by rw [hW]; exact (Below.refl _ _).alloc (Nat.le_refl _) _
  have k1 : Blk W w.heap.size #[va, vf, vs] 25 := by rw [hW]; exact Blk.new _ _ _
  clear hW
  have c0 : W.cell? ⟨w.heap.size, 0, none⟩ = some va := k1.cell 0 rfl
  have c1 : W.cell? ⟨w.heap.size, 1, none⟩ = some vf := k1.cell 1 rfl
  have c2 : W.cell? ⟨w.heap.size, 2, none⟩ = some vs := k1.cell 2 rfl
  go_region_with ((go_at_call 63; refine (alone63_any _).mono ?_; rintro e w1 ⟨rfl, hb⟩; unfold nine; have d0 := cell_up hb c0; have d1 := cell_up hb c1; have d2 := cell_up hb c2))
  all_goals
    have hb' : Below W.heap.size W w1 := undrew hb
    have hB1 := hB.trans (hb'.mono hB.size)
    go_wp2
    go_ret
    exact ⟨w1.heap.size, rfl, hB1.size, Blk.new _ _ _, hB1.alloc hB1.size _⟩
end Go.Proofs.Ytjhididnmkbgoaa
