import Derived.Test.YtjhididnmkbgoaaWi
import Derived.Test.YtjhididnmkbgoaaWl
import Derived.Test.YtjhididnmkbgoaaWm
import Derived.Maps.OwnOps
import Derived.Maps.Views
set_option linter.unusedVariables false
set_option linter.unusedSimpArgs false
namespace Go.Proofs.Ytjhididnmkbgoaa
open Go.RowKit

/-- The heights that have been seen. -/
def seenD (H : Nat → Int) : Nat → DataW Unit
  | 0 => .map []
  | i + 1 => (seenD H i).put (.int .i64 (H i)) (.lit (.bool true))

theorem seenD_isMap (H : Nat → Int) (i : Nat) : Maps.IsMap (seenD H i) := by
  induction i with
  | zero => exact Maps.isMap_empty
  | succ i ih => exact ih.put _ _

theorem seenD_not {H : Nat → Int} {z : Int} (i : Nat) (h : ∀ k, k < i → H k ≠ z) : (seenD H i).atKey (.int .i64 z) (.lit (.bool false)) = .lit (.bool false) := by
  induction i with
  | zero => rfl
  | succ i ih =>
    simp only [seenD]
    rw [Maps.atKey_put_other (by intro e; cases e; exact h i (by omega) rfl)]
    exact ih fun k hk => h k (by omega)

theorem seenD_has {H : Nat → Int} {z : Int} (i k : Nat) (hk : k < i) (e : H k = z) : (seenD H i).atKey (.int .i64 z) (.lit (.bool false)) = .lit (.bool true) := by
  induction i with
  | zero => omega
  | succ i ih =>
    simp only [seenD]
    by_cases h : H i = z
    · rw [h]; exact Maps.atKey_put_same (k := .int .i64 z) (seenD_isMap H i) (show WideAt.IsKeyLit (.int .i64 z) from trivial) _ _
    · rw [Maps.atKey_put_other (by intro e; cases e; exact h rfl)]
      have : k ≠ i := fun e' => h (by rw [← e']; exact e)
      exact ih (by omega)

theorem plainElem_bool_inv {P : Program} {e : TypeId} (he : P.underlying e = some .bool) {v : Value} {z : DataW Unit × List MemPlace} (h : plainElem P e v = some z) : ∃ x, v = .bool x ∧ z = (.lit (.bool x), []) := by
  unfold plainElem at h
  rw [he] at h
  cases v <;> simp at h
  exact ⟨_, rfl, h.symm⟩

def SeenAt (w : World) (mb i : Nat) (H : Nat → Int) : Prop := w.ownsMap Try.prog 3 (plainElem Try.prog 4) mb i (seenD H i)

theorem wf_small {z : Int} (h0 : 0 ≤ z) (h1 : z ≤ 1000000) : (Lit.int .i64 z).wf = true := by simp [Lit.wf, IntKind.min, IntKind.max, IntKind.signed, IntKind.bits]; omega

theorem SeenAt.look {w : World} {mb i : Nat} {H : Nat → Int} (h : SeenAt w mb i H) {z : Int} (h0 : 0 ≤ z) (h1 : z ≤ 1000000) {b : Bool} (hb : (seenD H i).atKey (.int .i64 z) (.lit (.bool false)) = .lit (.bool b)) :
    (Instr.lookup 130 (.map (some mb)) (.int .i64 z) false).run Try.prog w = .ok (.bool b) w := by
  have hz : (zeroValue 4).run Try.prog w = .ok (.bool false) w := by kernel_rfl
  obtain ⟨v, ps, hrun, hv⟩ := World.ownsMap.lookup h (Maps.int_keyed Try.underlying3) Try.underlying130 hz (plainElem_bool Try.underlying4 false) (Maps.keyOf_int_mk Try.underlying3 (wf_small h0 h1))
  rw [hb] at hv
  obtain ⟨x, rfl, hx⟩ := plainElem_bool_inv Try.underlying4 hv
  have : b = x := by
    have := congrArg Prod.fst hx
    simp at this
    exact this
  rw [this]; exact hrun
end Go.Proofs.Ytjhididnmkbgoaa
