/-
  The reference's pouring: what its parts compute, told of the plain states.
-/
import Derived.Test.YtjhididnmkbgoaaWa
import Derived.Test.YtjhididnmkbgoaaWc
import Derived.Test.YtjhididnmkbgoaaWd
import Derived.Deep.Onto
set_option linter.unusedVariables false
set_option linter.unusedSimpArgs false
namespace Go.Proofs.Ytjhididnmkbgoaa
open Slu

/-- Basins out of numbers. -/
def mkBas (n m : Nat) (area floor : Nat → Int) (S : Nat → Sill) : Bas := { n := n, area := area, floor := floor, sills := (List.range m).map S }

structure SOk (n m : Nat) (area floor : Nat → Int) (S : Nat → Sill) : Prop where
  rng : Rng area floor
  n1 : 1 ≤ n
  n8 : n ≤ 8
  m20 : m ≤ 20
  lt : ∀ k, k < m → (S k).a < (S k).b
  le : ∀ k, k < m → (S k).b ≤ n
  h1 : ∀ k, k < m → 1 ≤ (S k).h
  h2 : ∀ k, k < m → (S k).h ≤ 1000
  fa : ∀ k, k < m → floor (S k).a ≤ (S k).h
  fb : ∀ k, k < m → (S k).b < n → floor (S k).b ≤ (S k).h
  inj : ∀ i j, i < m → j < m → (S i).h = (S j).h → i = j

theorem mem_mk {n m : Nat} {area floor : Nat → Int} {S : Nat → Sill} {s : Sill} : s ∈ (mkBas n m area floor S).sills ↔ ∃ k, k < m ∧ S k = s := by
  unfold mkBas
  simp [List.mem_map, List.mem_range]

theorem SOk.ok {n m : Nat} {area floor : Nat → Int} {S : Nat → Sill} (h : SOk n m area floor S) : (mkBas n m area floor S).Ok where
  area := fun i _ => h.rng.a1 i
  lt := fun s hs => by obtain ⟨k, hk, rfl⟩ := mem_mk.1 hs; exact h.lt k hk
  le := fun s hs => by obtain ⟨k, hk, rfl⟩ := mem_mk.1 hs; exact h.le k hk
  pos := fun s hs => by obtain ⟨k, hk, rfl⟩ := mem_mk.1 hs; exact h.h1 k hk
  fa := fun s hs => by obtain ⟨k, hk, rfl⟩ := mem_mk.1 hs; exact h.fa k hk
  fb := fun s hs hb => by obtain ⟨k, hk, rfl⟩ := mem_mk.1 hs; exact h.fb k hk hb
  dist := fun s t hs ht e => by
    obtain ⟨i, hi, rfl⟩ := mem_mk.1 hs
    obtain ⟨j, hj, rfl⟩ := mem_mk.1 ht
    rw [h.inj i j hi hj e]

theorem not_crosses {rep : Nat → Nat} {s : Sill} {g : Nat} : ¬ crosses rep s g ↔ (rep s.a = rep s.b ∨ (rep s.a ≠ g ∧ rep s.b ≠ g)) := by
  unfold crosses
  omega

/-- What lowR finds. -/
theorem lowR_spec (n : Nat) (S : Nat → Sill) (rep : Nat → Nat) (g : Nat) (m : Nat) :
    ((lowR n S rep g m).1 = -1 ∧ (lowR n S rep g m).2 = n ∧ ∀ k, k < m → ¬ crosses rep (S k) g) ∨
    (∃ i : Nat, (lowR n S rep g m).1 = i ∧ i < m ∧ crosses rep (S i) g ∧ (lowR n S rep g m).2 = other rep (S i) g ∧ ∀ k, k < m → crosses rep (S k) g → (S i).h ≤ (S k).h) := by
  induction m with
  | zero => exact .inl ⟨rfl, rfl, fun k hk => by omega⟩
  | succ m ih =>
    by_cases hc : crosses rep (S m) g
    · have hc' : ¬ (rep (S m).a = rep (S m).b ∨ (rep (S m).a ≠ g ∧ rep (S m).b ≠ g)) := fun h => not_crosses.2 h hc
      have hoth : (if rep (S m).b = g then rep (S m).a else rep (S m).b) = other rep (S m) g := by
        unfold other
        unfold crosses at hc
        split <;> split <;> omega
      rcases ih with ⟨h1, h2, h3⟩ | ⟨i, h1, h2, h3, h4, h5⟩
      · right
        refine ⟨m, ?_, by omega, hc, ?_, fun k hk hck => ?_⟩
        · simp only [lowR]; rw [if_neg (by omega)]
        · simp only [lowR]; rw [if_neg (by omega)]; exact hoth
        · by_cases e : k = m
          · subst e; exact Int.le_refl _
          · exact absurd hck (h3 k (by omega))
      · by_cases hlt : (S i).h < (S m).h
        · right
          have hcond : rep (S m).a = rep (S m).b ∨ (rep (S m).a ≠ g ∧ rep (S m).b ≠ g) ∨ (0 ≤ (lowR n S rep g m).1 ∧ (S (lowR n S rep g m).1.toNat).h < (S m).h) := by
            right; right
            rw [h1]
            exact ⟨by omega, by simpa using hlt⟩
          refine ⟨i, ?_, by omega, h3, ?_, fun k hk hck => ?_⟩
          · simp only [lowR]; rw [if_pos hcond]; exact h1
          · simp only [lowR]; rw [if_pos hcond]; exact h4
          · by_cases e : k = m
            · subst e; omega
            · exact h5 k (by omega) hck
        · right
          have hcond : ¬ (rep (S m).a = rep (S m).b ∨ (rep (S m).a ≠ g ∧ rep (S m).b ≠ g) ∨ (0 ≤ (lowR n S rep g m).1 ∧ (S (lowR n S rep g m).1.toNat).h < (S m).h)) := by
            rw [h1]
            rintro (h | h | h)
            · exact hc' (.inl h)
            · exact hc' (.inr h)
            · exact hlt (by simpa using h.2)
          refine ⟨m, ?_, by omega, hc, ?_, fun k hk hck => ?_⟩
          · simp only [lowR]; rw [if_neg hcond]
          · simp only [lowR]; rw [if_neg hcond]; exact hoth
          · by_cases e : k = m
            · subst e; exact Int.le_refl _
            · have := h5 k (by omega) hck; omega
    · have hcond : rep (S m).a = rep (S m).b ∨ (rep (S m).a ≠ g ∧ rep (S m).b ≠ g) ∨ (0 ≤ (lowR n S rep g m).1 ∧ (S (lowR n S rep g m).1.toNat).h < (S m).h) := by
        rcases not_crosses.1 hc with h | h
        · exact .inl h
        · exact .inr (.inl h)
      have e : lowR n S rep g (m + 1) = lowR n S rep g m := by simp only [lowR]; rw [if_pos hcond]
      rw [e]
      rcases ih with ⟨h1, h2, h3⟩ | ⟨i, h1, h2, h3, h4, h5⟩
      · left
        refine ⟨h1, h2, fun k hk => ?_⟩
        by_cases e : k = m
        · subst e; exact hc
        · exact h3 k (by omega)
      · right
        refine ⟨i, h1, by omega, h3, h4, fun k hk hck => ?_⟩
        by_cases e : k = m
        · subst e; exact absurd hck hc
        · exact h5 k (by omega) hck

theorem room_eq (n m : Nat) (area floor : Nat → Int) (S : Nat → Sill) (rep : Nat → Nat) (g : Nat) (h : Int) :
    grpA area (fun i => (rep i : Int)) g n * h - grpF area floor (fun i => (rep i : Int)) g n = room (mkBas n m area floor S) rep g h := by
  unfold grpA grpF room mkBas
  dsimp only
  induction n with
  | zero => simp [sumN]
  | succ n ih =>
    simp only [sumN]
    rw [← ih, Int.add_mul]
    by_cases e : rep n = g
    · rw [if_pos (by omega), if_pos (by omega), if_pos e, Int.mul_sub]; omega
    · rw [if_neg (by omega), if_neg (by omega), if_neg e]; omega

/-! ### What there is in all stays -/
def tot (B : Bas) (st : St) : Int := sumN (B.n + 1) st.vol

theorem tot_step {B : Bas} (ok : B.Ok) {st st' : St} (gd : Slu.Good B st) (h : Step B st st') : tot B st' = tot B st := by
  unfold tot
  obtain ⟨g, s, o, h⟩ := step_cases h
  have hne := other_ne o.lip.cr
  have hle := other_le ok gd o.lip
  have hg := o.lt
  rcases h with ⟨m, rfl⟩ | ⟨m, rfl⟩
  · have d := sumN_diff (n := B.n + 1) (f := st.vol) (f' := (merged st g (other st.rep s g)).vol) (g := g) (t := other st.rep s g) (by omega) hne (fun i _ h1 h2 => merged_vol h1 h2)
    rw [if_pos (by omega)] at d
    have hm : (merged st g (other st.rep s g)).vol g + (merged st g (other st.rep s g)).vol (other st.rep s g) = st.vol g + st.vol (other st.rep s g) := by
      generalize other st.rep s g = t at *
      unfold merged
      dsimp only
      rcases max_min_of_ne (g := g) (t := t) with ⟨x, y⟩ | ⟨x, y⟩ <;> simp [x, y, hne, Ne.symm hne]
    omega
  · have d := sumN_diff (n := B.n + 1) (f := st.vol) (f' := (mv B st g s).vol) (g := g) (t := other st.rep s g) (by omega) hne (fun i _ h1 h2 => moved_vol_other h1 h2)
    rw [if_pos (by omega)] at d
    have h1 : (mv B st g s).vol g = st.vol g - (st.vol g - room B st.rep g s.h) := moved_vol_g
    have h2 : (mv B st g s).vol (other st.rep s g) = st.vol (other st.rep s g) + (st.vol g - room B st.rep g s.h) := moved_vol_t hne
    omega

theorem tot_star {B : Bas} (ok : B.Ok) {st st' : St} (gd : Slu.Good B st) (h : Star (Step B) st st') : tot B st' = tot B st := by
  induction h with
  | refl => rfl
  | head h1 _ ih => rw [ih (gd.step ok h1), tot_step ok gd h1]

theorem vol_le_tot {B : Bas} {st : St} (gd : Slu.Good B st) {i : Nat} (hi : i ≤ B.n) : st.vol i ≤ tot B st := by
  unfold tot
  have : ∀ n, i < n → st.vol i ≤ sumN n st.vol := by
    intro n hn
    induction n with
    | zero => omega
    | succ n ih =>
      simp only [sumN]
      have h1 := gd.iv.nonneg n
      by_cases e : i = n
      · subst e
        have := sumN_nonneg (n := i) (f := st.vol) (fun j _ => gd.iv.nonneg j)
        omega
      · have := ih (by omega); omega
  exact this _ (by omega)

/-! ### What the reference holds: of what is no least node the cells may be old -/
theorem OwI.put {w : World} {base g n cap : Nat} {f : Nat → Int} (h : OwI w base (.slice (some ⟨g, 0, none⟩) n cap) n f) (j : Nat) (hj : j < n) (x : Int) :
    OwI (w.setCell ⟨g, j, none⟩ (.int .i64 x)) base (.slice (some ⟨g, 0, none⟩) n cap) n (fun i => if i = j then x else f i) := by
  unfold OwI at *
  refine ⟨by simp, .inr ?_⟩
  rcases h.2 with ⟨h1, _⟩ | ⟨g', cap', cur, h1, h2, h3, h4, h5, h6, h7⟩
  · cases h1
  · cases h1
    refine ⟨g, cap, cur.setIfInBounds j (.int .i64 x), rfl, h2, ?_, h4, h5, by simpa using h6, ?_⟩
    · simp only [World.setCell, Array.getElem?_modify]
      rw [if_pos trivial, h3]
      rfl
    · rw [Array.toList_setIfInBounds, List.take_set, h7]
      apply List.ext_getElem
      · simp
      · intro i hi1 hi2
        simp only [List.getElem_set, List.getElem_map, List.getElem_range]
        by_cases e : j = i
        · subst e; simp
        · rw [if_neg e, if_neg (Ne.symm e)]

theorem OwI.cell {w : World} {base g n cap : Nat} {f : Nat → Int} (h : OwI w base (.slice (some ⟨g, 0, none⟩) n cap) n f) (j : Nat) (hj : j < n) : w.cell? ⟨g, j, none⟩ = some (.int .i64 (f j)) := by
  rcases h.2 with ⟨h1, _⟩ | ⟨g', cap', cur, h1, h2, h3, h4, h5, h6, h7⟩
  · cases h1
  · cases h1
    have h8 : cur.toList[j]? = some (.int .i64 (f j)) := by
      have : (cur.toList.take (n * 1))[j]? = some (.int .i64 (f j)) := by rw [h7]; simp [hj]
      rw [List.getElem?_take] at this
      rw [if_pos (by omega)] at this
      exact this
    unfold World.cell?
    rw [show w.heap[(⟨g, j, none⟩ : Addr).block]? = _ from h3]
    simpa using h8

theorem OwI.unfrozen {w : World} {base g n cap : Nat} {f : Nat → Int} (h : OwI w base (.slice (some ⟨g, 0, none⟩) n cap) n f) (j : Nat) : w.frozen? ⟨g, j, none⟩ = false := by
  rcases h.2 with ⟨h1, _⟩ | ⟨g', cap', cur, h1, h2, h3, h4, h5, h6, h7⟩
  · cases h1
  · cases h1
    unfold World.frozen?
    rw [show w.heap[(⟨g, j, none⟩ : Addr).block]? = _ from h3]
    simp

theorem OwI.form {w : World} {base n : Nat} {v : Value} {f : Nat → Int} (h : OwI w base v n f) (hn : 1 ≤ n) : ∃ g cap, v = .slice (some ⟨g, 0, none⟩) n cap := by
  obtain ⟨q, rfl⟩ : ∃ q, n = q + 1 := ⟨n - 1, by omega⟩
  exact own_form h

theorem OwI.mono {w : World} {b b' n : Nat} {v : Value} {f : Nat → Int} (h : OwI w b v n f) (hb : b' ≤ b) : OwI w b' v n f := World.ownsRow.mono h hb

structure PAt (B : Bas) (a0 st : St) (cv : Nat → Int) : Prop where
  star : Star (Step B) a0 st
  agree : ∀ i, i < B.n → st.rep i = i → cv i = st.vol i
  bd : ∀ i, 0 ≤ cv i ∧ cv i ≤ 16000000

theorem PAt.rank_le {B : Bas} {a0 st : St} {cv : Nat → Int} (ok : B.Ok) (gd : Slu.Good B a0) (h : PAt B a0 st cv) : Slu.Good B st := gd.star ok h.star

theorem merged_rep_root {st : St} (iv : ∀ i, st.rep (st.rep i) = st.rep i) {g t i : Nat} (hg : st.rep g = g) (ht : st.rep t = t) (hgt : t ≠ g) (h : (merged st g t).rep i = i) : st.rep i = i ∧ i ≠ max g t := by
  unfold merged at h
  dsimp only at h
  split at h
  · rename_i e
    have : st.rep i = i := by
      rw [← h]
      rcases max_min_of_ne (g := g) (t := t) with ⟨x, y⟩ | ⟨x, y⟩ <;> rw [y] <;> assumption
    omega
  · rename_i e
    exact ⟨h, fun x => e (by rw [h]; exact x)⟩

theorem PAt.merge {B : Bas} {a0 st : St} {cv : Nat → Int} (ok : B.Ok) (gd : Slu.Good B a0) (hT : tot B a0 ≤ 16000000) (h : PAt B a0 st cv) {g t : Nat} {s : Sill} (ov : Over B st g s) (et : other st.rep s g = t) (m : Meets B st t s) :
    PAt B a0 (merged st g t) (oneV cv g t) := by
  have gs := gd.star ok h.star
  have hne : t ≠ g := by rw [← et]; exact other_ne ov.lip.cr
  have hle : t ≤ B.n := by rw [← et]; exact other_le ok gs ov.lip
  have htn : t < B.n := by have := m.1; omega
  have hg := ov.lt
  have rt : st.rep t = t := by rw [← et]; exact ov.other_rep gs.iv
  have st1 := step_merge ov et m
  have sr : Star (Step B) a0 (merged st g t) := h.star.trans (Star.one st1)
  have e1 := h.agree g hg ov.root
  have e2 := h.agree t htn rt
  have eT := tot_star ok gd sr
  have gm := gd.star ok sr
  have hmin : (merged st g t).vol (min g t) = cv g + cv t := by unfold merged; dsimp only; rw [if_pos rfl, e1, e2]
  refine ⟨sr, fun i hi hr => ?_, fun i => ?_⟩
  · have h1 := merged_rep_root (fun i => gs.iv.idem i) ov.root rt hne hr
    unfold oneV
    by_cases e : i = min g t
    · rw [if_pos e, e, hmin]
      rcases max_min_of_ne (g := g) (t := t) with ⟨x, y⟩ | ⟨x, y⟩ <;> rw [x, y] <;> omega
    · rw [if_neg e, h.agree i hi h1.1]
      unfold merged
      dsimp only
      rw [if_neg e, if_neg h1.2]
  · unfold oneV
    have b1 := h.bd i
    by_cases e : i = min g t
    · rw [if_pos e]
      have h2 := vol_le_tot gm (i := min g t) (by omega)
      have b2 := h.bd (max g t)
      have : cv i + cv (max g t) = cv g + cv t := by rw [e]; rcases max_min_of_ne (g := g) (t := t) with ⟨x, y⟩ | ⟨x, y⟩ <;> rw [x, y] <;> omega
      omega
    · rw [if_neg e]; exact b1

theorem merged_oneG (st : St) (g t i : Nat) : ((merged st g t).rep i : Int) = oneG st.rep g t i := by
  unfold merged oneG
  dsimp only
  split <;> rfl

/-- What runs over within the basins. -/
def movV (cv : Nat → Int) (g t : Nat) (r : Int) : Nat → Int := fun i => if i = t then cv t + r else if i = g then cv g - r else cv i

theorem PAt.move {B : Bas} {a0 st : St} {cv : Nat → Int} (ok : B.Ok) (gd : Slu.Good B a0) (hT : tot B a0 ≤ 16000000) (h : PAt B a0 st cv) {g t : Nat} {s : Sill} {r : Int} (ov : Over B st g s) (et : other st.rep s g = t) (er : st.vol g - room B st.rep g s.h = r) (m : ¬ Meets B st t s) (htn : t < B.n) :
    PAt B a0 (moved st g t r) (movV cv g t r) := by
  have gs := gd.star ok h.star
  have hne : t ≠ g := by rw [← et]; exact other_ne ov.lip.cr
  have hg := ov.lt
  have rt : st.rep t = t := by rw [← et]; exact ov.other_rep gs.iv
  have st1 := step_move ov et er m
  have sr : Star (Step B) a0 (moved st g t r) := h.star.trans (Star.one st1)
  have e1 := h.agree g hg ov.root
  have e2 := h.agree t htn rt
  have eT := tot_star ok gd sr
  have gm := gd.star ok sr
  have r0 := gs.room_nonneg ok ov.lip
  have ro := ov.over
  have v1 := vol_le_tot gm (i := t) (by omega)
  rw [moved_vol_t hne] at v1
  refine ⟨sr, fun i hi hr => ?_, fun i => ?_⟩
  · have hr' : st.rep i = i := hr
    have := h.agree i hi hr'
    unfold movV
    by_cases a : i = t
    · subst a; rw [if_pos rfl, moved_vol_t hne]; omega
    · rw [if_neg a]
      by_cases b : i = g
      · subst b; rw [if_pos rfl, moved_vol_g]; omega
      · rw [if_neg b, moved_vol_other b a]; exact this
  · unfold movV
    have b1 := h.bd i
    have bg := h.bd g
    have bt := h.bd t
    split
    · omega
    · split <;> omega

theorem PAt.sea {B : Bas} {a0 st : St} {cv : Nat → Int} (ok : B.Ok) (gd : Slu.Good B a0) (hT : tot B a0 ≤ 16000000) (h : PAt B a0 st cv) {g : Nat} {s : Sill} {r : Int} (ov : Over B st g s) (et : other st.rep s g = B.n) (er : st.vol g - room B st.rep g s.h = r) :
    PAt B a0 (moved st g B.n r) (fun i => if i = g then cv g - r else cv i) ∧ (moved st g B.n r).vol B.n = st.vol B.n + r := by
  have gs := gd.star ok h.star
  have hne : B.n ≠ g := by rw [← et]; exact other_ne ov.lip.cr
  have hg := ov.lt
  have st1 := step_move ov et er (fun m => m.1 rfl)
  have sr : Star (Step B) a0 (moved st g B.n r) := h.star.trans (Star.one st1)
  have e1 := h.agree g hg ov.root
  have eT := tot_star ok gd sr
  have gm := gd.star ok sr
  have r0 := gs.room_nonneg ok ov.lip
  have ro := ov.over
  refine ⟨⟨sr, fun i hi hr => ?_, fun i => ?_⟩, moved_vol_t hne⟩
  · have hr' : st.rep i = i := hr
    have := h.agree i hi hr'
    by_cases b : i = g
    · subst b; rw [if_pos rfl, moved_vol_g]; omega
    · rw [if_neg b, moved_vol_other b (by omega)]; exact this
  · have b1 := h.bd i
    have bg := h.bd g
    split <;> omega
end Go.Proofs.Ytjhididnmkbgoaa
