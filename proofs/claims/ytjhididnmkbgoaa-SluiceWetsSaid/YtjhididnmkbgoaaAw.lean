/-
  The three closed basins of the law's own check: their ends, levels, lips and pools.
-/
import Derived.Test.YtjhididnmkbgoaaPl
set_option linter.unusedVariables false
set_option linter.unusedSimpArgs false
namespace Go.Proofs.Ytjhididnmkbgoaa
open Go.RowKit Slu

instance (B : Bas) (rep : Nat → Nat) (g : Nat) (s : Sill) : Decidable (IsLip B rep g s) :=
  decidable_of_iff (s ∈ B.sills ∧ crosses rep s g ∧ ∀ t ∈ B.sills, crosses rep t g → s.h ≤ t.h) ⟨fun h => ⟨h.1, h.2.1, h.2.2⟩, fun h => ⟨h.mem, h.cr, h.least⟩⟩
instance (B : Bas) (st : St) (g : Nat) (s : Sill) : Decidable (Over B st g s) :=
  decidable_of_iff (st.rep g = g ∧ g < B.n ∧ IsLip B st.rep g s ∧ room B st.rep g s.h < st.vol g) ⟨fun h => ⟨h.1, h.2.1, h.2.2.1, h.2.2.2⟩, fun h => ⟨h.root, h.lt, h.lip, h.over⟩⟩
instance (B : Bas) (st : St) (t : Nat) (s : Sill) : Decidable (Meets B st t s) := by unfold Meets; infer_instance

theorem still_dec {B : Bas} {st : St} (h : ∀ g, g < B.n → ∀ s ∈ B.sills, ¬ Over B st g s) : Still B st := still_of fun g s o => h g o.lt s o.lip.mem o

def fA : Nat → Int := fun _ => 1
def fF : Nat → Int := fun _ => 0
def fS1 : Nat → Sill := fun _ => ⟨0, 1, 5⟩
def fS2 : Nat → Sill := fun k => if k = 0 then ⟨0, 1, 5⟩ else ⟨1, 2, 2⟩
def fS3 : Nat → Sill := fun k => if k = 0 then ⟨0, 1, 9⟩ else ⟨1, 2, 4⟩
def fM (x : Int) : Nat → Int := fun k => if k = 0 then x else 0

theorem fRng : Rng fA fF := ⟨fun _ => (by decide : (1 : Int) ≤ 1), fun _ => (by decide : (1 : Int) ≤ 100), fun _ => (by decide : (0 : Int) ≤ 0), fun _ => (by decide : (0 : Int) ≤ 100)⟩

theorem fOk1 : SOk 2 1 fA fF fS1 where
  rng := fRng
  n1 := by decide
  n8 := by decide
  m20 := by decide
  lt := by decide
  le := by decide
  h1 := by decide
  h2 := by decide
  fa := by decide
  fb := by decide
  inj := fun i j hi hj _ => by omega

theorem fOk2 : SOk 2 2 fA fF fS2 where
  rng := fRng
  n1 := by decide
  n8 := by decide
  m20 := by decide
  lt := by decide
  le := by decide
  h1 := by decide
  h2 := by decide
  fa := by decide
  fb := by decide
  inj := fun i j hi hj e => by
    have : i = 0 ∨ i = 1 := by omega
    have : j = 0 ∨ j = 1 := by omega
    rcases ‹i = 0 ∨ i = 1› with rfl | rfl <;> rcases ‹j = 0 ∨ j = 1› with rfl | rfl <;> first | rfl | (exact absurd e (by decide))

theorem fOk3 : SOk 3 2 fA fF fS3 where
  rng := fRng
  n1 := by decide
  n8 := by decide
  m20 := by decide
  lt := by decide
  le := by decide
  h1 := by decide
  h2 := by decide
  fa := by decide
  fb := by decide
  inj := fun i j hi hj e => by
    have : i = 0 ∨ i = 1 := by omega
    have : j = 0 ∨ j = 1 := by omega
    rcases ‹i = 0 ∨ i = 1› with rfl | rfl <;> rcases ‹j = 0 ∨ j = 1› with rfl | rfl <;> first | rfl | (exact absurd e (by decide))

theorem fChk1 : ChkI 2 2 1 fA fF (fun k => ((fS1 k).a : Int)) (fun k => ((fS1 k).b : Int)) (fun k => (fS1 k).h) where
  n1 := by decide
  n8 := by decide
  nf := rfl
  m20 := by decide
  ars := by decide
  fls := by decide
  sill := fun i hi => by obtain rfl : i = 0 := by omega
                         exact ⟨by decide, by decide, by decide, by decide, by decide, by decide, fun _ => by decide, fun h => by omega⟩
  dist := fun i hi k hk => by omega

theorem fChk2 : ChkI 2 2 2 fA fF (fun k => ((fS2 k).a : Int)) (fun k => ((fS2 k).b : Int)) (fun k => (fS2 k).h) where
  n1 := by decide
  n8 := by decide
  nf := rfl
  m20 := by decide
  ars := by decide
  fls := by decide
  sill := fun i hi => by
    have : i = 0 ∨ i = 1 := by omega
    rcases this with rfl | rfl
    · exact ⟨by decide, by decide, by decide, by decide, by decide, by decide, fun _ => by decide, fun h => by omega⟩
    · exact ⟨by decide, by decide, by decide, by decide, by decide, by decide, fun h => absurd h (by decide), fun h => by decide⟩
  dist := fun i hi k hk => by
    have : i = 1 := by omega
    have : k = 0 := by omega
    subst ‹i = 1› ‹k = 0›
    decide

theorem fChk3 : ChkI 3 3 2 fA fF (fun k => ((fS3 k).a : Int)) (fun k => ((fS3 k).b : Int)) (fun k => (fS3 k).h) where
  n1 := by decide
  n8 := by decide
  nf := rfl
  m20 := by decide
  ars := by decide
  fls := by decide
  sill := fun i hi => by
    have : i = 0 ∨ i = 1 := by omega
    rcases this with rfl | rfl
    · exact ⟨by decide, by decide, by decide, by decide, by decide, by decide, fun _ => by decide, fun h => by omega⟩
    · exact ⟨by decide, by decide, by decide, by decide, by decide, by decide, fun h => by decide, fun h => by decide⟩
  dist := fun i hi k hk => by
    have : i = 1 := by omega
    have : k = 0 := by omega
    subst ‹i = 1› ‹k = 0›
    decide

/-! ### Where the water comes to stand -/
abbrev fB1 := mkBas 2 1 fA fF fS1
abbrev fB2 := mkBas 2 2 fA fF fS2

theorem fEnd8 : Slu.Ends fB1 (st0 2 (fM 8)) (moved (st0 2 (fM 8)) 0 1 3) :=
  ⟨.head (step_move (g := 0) (s := ⟨0, 1, 5⟩) (by decide +kernel) (by decide +kernel) (by decide +kernel) (by decide +kernel)) (.refl _), still_dec (by decide +kernel)⟩
def fT12 : St := moved (moved (st0 2 (fM 12)) 0 1 7) 1 2 5
theorem fEnd12 : Slu.Ends fB2 (st0 2 (fM 12)) fT12 :=
  ⟨.head (step_move (g := 0) (t := 1) (r := 7) (s := ⟨0, 1, 5⟩) (by decide +kernel) (by decide +kernel) (by decide +kernel) (by decide +kernel)) (.head (step_move (g := 1) (t := 2) (r := 5) (s := ⟨1, 2, 2⟩) (by decide +kernel) (by decide +kernel) (by decide +kernel) (by decide +kernel)) (.refl _)), still_dec (by decide +kernel)⟩
def fTr : St := moved (moved (st0 2 (aloneF 0 1600000)) 0 1 1599995) 1 2 1599993
theorem fEndR : Slu.Ends fB2 (st0 2 (aloneF 0 1600000)) fTr :=
  ⟨.head (step_move (g := 0) (t := 1) (r := 1599995) (s := ⟨0, 1, 5⟩) (by decide +kernel) (by decide +kernel) (by decide +kernel) (by decide +kernel)) (.head (step_move (g := 1) (t := 2) (r := 1599993) (s := ⟨1, 2, 2⟩) (by decide +kernel) (by decide +kernel) (by decide +kernel) (by decide +kernel)) (.refl _)), still_dec (by decide +kernel)⟩
def fTp : St := merged (moved (st0 2 (fM 12)) 0 1 7) 1 0
theorem fEndP : Slu.Ends fB1 (st0 2 (fM 12)) fTp :=
  ⟨.head (step_move (g := 0) (t := 1) (r := 7) (s := ⟨0, 1, 5⟩) (by decide +kernel) (by decide +kernel) (by decide +kernel) (by decide +kernel)) (.head (step_merge (g := 1) (t := 0) (s := ⟨0, 1, 5⟩) (by decide +kernel) (by decide +kernel) (by decide +kernel)) (.refl _)), still_dec (by decide +kernel)⟩

/-! ### The lists of sills in rising order -/
theorem fSB1 {xs : List (BQ 1)} (h : SB (dOf 1 1 fS1) xs) : sOf xs = [⟨0, 1, 5⟩] := by
  have hp : xs.Perm [bsOf 1 ⟨0, 1, 5⟩] := h.1
  rw [List.perm_singleton.1 hp]
  decide

theorem fSBtwo {q : Nat} {d : Array (BQ q)} {x y : BQ q} (hd : d.toList = [x, y]) (hlt : y.1.h < x.1.h) {xs : List (BQ q)} (h : SB d xs) : xs = [y, x] := by
  have hp : xs.Perm [x, y] := by rw [← hd]; exact h.1
  have hlen := hp.length_eq
  match xs, hlen with
  | [u, v], _ =>
    have h01 := h.2 0 1 (by decide) (by simp)
    have h01 : u.1.h ≤ v.1.h := h01
    have hu : u = x ∨ u = y := by have := hp.subset (show u ∈ [u, v] by simp); simpa using this
    rcases hu with rfl | rfl
    · have hv : v = y := by
        have := (List.perm_cons u).1 hp
        simpa using this
      subst hv; omega
    · have hv : v = x := by
        have := (List.perm_cons u).1 (hp.trans (List.Perm.swap u x []))
        simpa using this
      subst hv; rfl

theorem fSB2 {xs : List (BQ 1)} (h : SB (dOf 1 2 fS2) xs) : sOf xs = [⟨1, 2, 2⟩, ⟨0, 1, 5⟩] := by
  rw [fSBtwo (x := bsOf 1 ⟨0, 1, 5⟩) (y := bsOf 1 ⟨1, 2, 2⟩) rfl (by decide) h]
  decide
theorem fSB3 {xs : List (BQ 2)} (h : SB (dOf 2 2 fS3) xs) : sOf xs = [⟨1, 2, 4⟩, ⟨0, 1, 9⟩] := by
  rw [fSBtwo (x := bsOf 2 ⟨0, 1, 9⟩) (y := bsOf 2 ⟨1, 2, 4⟩) rfl (by decide) h]
  decide

theorem fLip2 : lipF 0 2 (fun i => i) [⟨1, 2, 2⟩, ⟨0, 1, 5⟩] = 5 := by decide
theorem fLip3 : lipF 0 2 (fun i => i) [⟨1, 2, 4⟩, ⟨0, 1, 9⟩] = 9 := by decide

theorem fPools {xs : List (BQ 1)} (h : SB (dOf 1 1 fS1) xs) : (groups (joinL (fun i => i) (sOf (wetL 2 (lvA fA fF fTp.rep fTp.vol 2) (lvB fA fF fTp.rep fTp.vol 2) xs))) 2 2).length = 1 := by
  have hp : xs.Perm [bsOf 1 ⟨0, 1, 5⟩] := h.1
  rw [List.perm_singleton.1 hp]
  decide +kernel

theorem fSame8 : sameP 2 (lvA fA fF (moved (st0 2 (fM 8)) 0 1 3).rep (moved (st0 2 (fM 8)) 0 1 3).vol 2) (lvB fA fF (moved (st0 2 (fM 8)) 0 1 3).rep (moved (st0 2 (fM 8)) 0 1 3).vol 2) 2 (fun k => if k = 0 then 5 else 3) (fun _ => 1) = true := by
  unfold sameP
  decide +kernel
theorem fSame12 : sameP 2 (lvA fA fF fT12.rep fT12.vol 2) (lvB fA fF fT12.rep fT12.vol 2) 2 (fun k => if k = 0 then 5 else 2) (fun _ => 1) = true := by
  unfold sameP
  decide +kernel
end Go.Proofs.Ytjhididnmkbgoaa
