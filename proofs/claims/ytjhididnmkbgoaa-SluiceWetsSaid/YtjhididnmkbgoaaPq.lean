/-
  Which basins stand as one: the groups of the pouring, and those that sills below the water join.
-/
import Derived.Test.YtjhididnmkbgoaaUf
import Derived.Test.YtjhididnmkbgoaaWe
set_option linter.unusedVariables false
set_option linter.unusedSimpArgs false
namespace Go.Proofs.Ytjhididnmkbgoaa
open Slu
variable {B : Bas}

/-- A sill within a group, below its water and its lip. -/
structure Und (B : Bas) (st : St) (u : Sill) : Prop where
  mem : u ∈ B.sills
  same : st.rep u.a = st.rep u.b
  lip : ∀ s, IsLip B st.rep (st.rep u.a) s → u.h < s.h
  wet : room B st.rep (st.rep u.a) u.h < st.vol (st.rep u.a)

/-- Whatever is one group is joined by sills below its water. -/
def UndAll (B : Bas) (st : St) : Prop := ∀ i k, st.rep i = st.rep k → ∃ l : List Sill, (∀ u, u ∈ l → Und B st u) ∧ Cn l i k

theorem room_le (ok : B.Ok) {rep : Nat → Nat} {g : Nat} {h h' : Int} (hle : h ≤ h') : room B rep g h ≤ room B rep g h' := by
  unfold room
  refine sumN_le fun i hi => ?_
  by_cases e : rep i = g
  · rw [if_pos e, if_pos e]
    exact Int.mul_le_mul_of_nonneg_left (by omega) (by have := ok.area i hi; omega)
  · rw [if_neg e, if_neg e]; exact Int.le_refl _

theorem rep_lt_of_sill (ok : B.Ok) {st : St} (gd : Slu.Good B st) {u : Sill} (hu : u ∈ B.sills) : st.rep u.a < B.n := by
  have h1 := ok.lt u hu
  have h2 := ok.le u hu
  have := gd.iv.le u.a
  omega

theorem Und.move (ok : B.Ok) {st : St} (gd : Slu.Good B st) {u : Sill} (h : Und B st u) {g : Nat} {s : Sill} (ov : Over B st g s) : Und B (mv B st g s) u := by
  refine ⟨h.mem, h.same, h.lip, ?_⟩
  have hne := other_ne ov.lip.cr
  show room B st.rep (st.rep u.a) u.h < (mv B st g s).vol (st.rep u.a)
  have hw := h.wet
  unfold mv
  by_cases e : st.rep u.a = g
  · have := h.lip s (by rw [e]; exact ov.lip)
    rw [e, moved_vol_g]
    have := room_lt ok ov.lt ov.root this
    omega
  · by_cases e2 : st.rep u.a = other st.rep s g
    · have hov := ov.over
      rw [e2, moved_vol_t hne]
      rw [e2] at hw
      omega
    · rw [moved_vol_other e e2]; exact hw

theorem Und.merge (ok : B.Ok) {st : St} (gd : Slu.Good B st) {u : Sill} (h : Und B st u) {g : Nat} {s : Sill} (ov : Over B st g s) (m : Meets B st (other st.rep s g) s) : Und B (merged st g (other st.rep s g)) u := by
  have hr := ov.other_rep gd.iv
  have hne := other_ne ov.lip.cr
  generalize other st.rep s g = t at *
  have hsame : (merged st g t).rep u.a = (merged st g t).rep u.b := by
    show (if st.rep u.a = max g t then min g t else st.rep u.a) = (if st.rep u.b = max g t then min g t else st.rep u.b)
    rw [h.same]
  by_cases c : st.rep u.a = g ∨ st.rep u.a = t
  · have hm : (merged st g t).rep u.a = min g t := (merged_rep_min ov.root hr u.a).2 c
    have hlt : u.h < s.h := by
      rcases c with c | c
      · exact h.lip s (by rw [c]; exact ov.lip)
      · exact h.lip s (by rw [c]; exact m.2.1)
    refine ⟨h.mem, hsame, fun v hv => ?_, ?_⟩
    · rw [hm] at hv
      have := merged_lip_min ok ov.root hr ov.lip m.2.1 (Ne.symm hne) hv
      omega
    · rw [hm]
      have hroom : room B (merged st g t).rep (min g t) s.h = room B st.rep g s.h + room B st.rep t s.h := by
        unfold room
        rw [← sumN_add]
        apply sumN_congr
        intro i _
        have := merged_rep_min (st := st) ov.root hr i
        by_cases a : st.rep i = g
        · rw [if_pos (this.2 (.inl a)), if_pos a, if_neg (by omega)]; omega
        · by_cases b : st.rep i = t
          · rw [if_pos (this.2 (.inr b)), if_neg a, if_pos b]; omega
          · rw [if_neg (fun e => by rcases this.1 e with x | x; exact a x; exact b x), if_neg a, if_neg b]; omega
      have hvol : (merged st g t).vol (min g t) = st.vol g + st.vol t := by unfold merged; dsimp only; rw [if_pos rfl]
      have h1 := room_le ok (rep := (merged st g t).rep) (g := min g t) (show u.h ≤ s.h by omega)
      have h2 := ov.over
      have h3 := m.2.2
      omega
  · have c1 : st.rep u.a ≠ g := fun e => c (.inl e)
    have c2 : st.rep u.a ≠ t := fun e => c (.inr e)
    have hm : (merged st g t).rep u.a = st.rep u.a := by
      show (if st.rep u.a = max g t then min g t else st.rep u.a) = _
      rw [if_neg (by omega)]
    refine ⟨h.mem, hsame, fun v hv => ?_, ?_⟩
    · rw [hm] at hv
      exact h.lip v ((merged_lip c1 c2 v).1 hv)
    · rw [hm, merged_room c1 c2, merged_vol c1 c2]; exact h.wet

/-- The sill of a merge is one. -/
theorem Und.new (ok : B.Ok) {st : St} (gd : Slu.Good B st) {g : Nat} {s : Sill} (ov : Over B st g s) (m : Meets B st (other st.rep s g) s) : Und B (merged st g (other st.rep s g)) s := by
  have hr := ov.other_rep gd.iv
  have hne := other_ne ov.lip.cr
  have hab : (st.rep s.a = g ∨ st.rep s.a = other st.rep s g) ∧ (st.rep s.b = g ∨ st.rep s.b = other st.rep s g) := by
    have hc := ov.lip.cr
    unfold crosses at hc
    unfold other
    split <;> omega
  generalize other st.rep s g = t at *
  have ha : (merged st g t).rep s.a = min g t := (merged_rep_min ov.root hr s.a).2 hab.1
  have hb : (merged st g t).rep s.b = min g t := (merged_rep_min ov.root hr s.b).2 hab.2
  refine ⟨ov.lip.mem, ha.trans hb.symm, fun v hv => ?_, ?_⟩
  · rw [ha] at hv
    exact merged_lip_min ok ov.root hr ov.lip m.2.1 (Ne.symm hne) hv
  · rw [ha]
    have hroom : room B (merged st g t).rep (min g t) s.h = room B st.rep g s.h + room B st.rep t s.h := by
      unfold room
      rw [← sumN_add]
      apply sumN_congr
      intro i _
      have := merged_rep_min (st := st) ov.root hr i
      by_cases a : st.rep i = g
      · rw [if_pos (this.2 (.inl a)), if_pos a, if_neg (by omega)]; omega
      · by_cases b : st.rep i = t
        · rw [if_pos (this.2 (.inr b)), if_neg a, if_pos b]; omega
        · rw [if_neg (fun e => by rcases this.1 e with x | x; exact a x; exact b x), if_neg a, if_neg b]; omega
    have hvol : (merged st g t).vol (min g t) = st.vol g + st.vol t := by unfold merged; dsimp only; rw [if_pos rfl]
    have h2 := ov.over
    have h3 := m.2.2
    omega

theorem UndAll.step (ok : B.Ok) {st st' : St} (gd : Slu.Good B st) (h : UndAll B st) (hs : Step B st st') : UndAll B st' := by
  cases hs with
  | @move g s ov m =>
    intro i k e
    obtain ⟨l, hl, hc⟩ := h i k e
    exact ⟨l, fun u hu => (hl u hu).move ok gd ov, hc⟩
  | @merge g s ov m =>
    have hr := ov.other_rep gd.iv
    have hne := other_ne ov.lip.cr
    intro i k e
    have lift : ∀ i k, st.rep i = st.rep k → ∃ l : List Sill, (∀ u, u ∈ l → Und B (merged st g (other st.rep s g)) u) ∧ Cn l i k := fun i k e => by
      obtain ⟨l, hl, hc⟩ := h i k e
      exact ⟨l, fun u hu => (hl u hu).merge ok gd ov m, hc⟩
    have glue : ∀ {i j k : Nat}, (∃ l : List Sill, (∀ u, u ∈ l → Und B (merged st g (other st.rep s g)) u) ∧ Cn l i j) → (∃ l : List Sill, (∀ u, u ∈ l → Und B (merged st g (other st.rep s g)) u) ∧ Cn l j k) →
        ∃ l : List Sill, (∀ u, u ∈ l → Und B (merged st g (other st.rep s g)) u) ∧ Cn l i k := by
      rintro i j k ⟨l1, h1, c1⟩ ⟨l2, h2, c2⟩
      refine ⟨l1 ++ l2, fun u hu => ?_, (c1.mono fun x hx => List.mem_append_left _ hx).trans (c2.mono fun x hx => List.mem_append_right _ hx)⟩
      rw [List.mem_append] at hu
      rcases hu with hu | hu
      · exact h1 u hu
      · exact h2 u hu
    have new : ∃ l : List Sill, (∀ u, u ∈ l → Und B (merged st g (other st.rep s g)) u) ∧ Cn l s.a s.b := ⟨[s], fun u hu => by
      obtain rfl : u = s := by simpa using hu
      exact Und.new ok gd ov m, .sill (by simp)⟩
    have new' : ∃ l : List Sill, (∀ u, u ∈ l → Und B (merged st g (other st.rep s g)) u) ∧ Cn l s.b s.a := by
      obtain ⟨l, h1, h2⟩ := new
      exact ⟨l, h1, h2.symm⟩
    by_cases c : st.rep i = st.rep k
    · exact lift i k c
    · have hab : (st.rep s.a = g ∧ st.rep s.b = other st.rep s g) ∨ (st.rep s.b = g ∧ st.rep s.a = other st.rep s g) := by
        have hc := ov.lip.cr
        unfold crosses at hc
        unfold other
        split <;> omega
      have e' : (if st.rep i = max g (other st.rep s g) then min g (other st.rep s g) else st.rep i) = (if st.rep k = max g (other st.rep s g) then min g (other st.rep s g) else st.rep k) := e
      generalize ht : other st.rep s g = t at *
      have hik : (st.rep i = g ∧ st.rep k = t) ∨ (st.rep i = t ∧ st.rep k = g) := by
        split at e' <;> split at e' <;> omega
      rcases hab with ⟨a1, a2⟩ | ⟨a1, a2⟩
      · rcases hik with ⟨b1, b2⟩ | ⟨b1, b2⟩
        · exact glue (lift i s.a (by omega)) (glue new (lift s.b k (by omega)))
        · exact glue (lift i s.b (by omega)) (glue new' (lift s.a k (by omega)))
      · rcases hik with ⟨b1, b2⟩ | ⟨b1, b2⟩
        · exact glue (lift i s.b (by omega)) (glue new' (lift s.a k (by omega)))
        · exact glue (lift i s.a (by omega)) (glue new (lift s.b k (by omega)))

theorem UndAll.star (ok : B.Ok) {st st' : St} (gd : Slu.Good B st) (h : UndAll B st) (hs : Star (Step B) st st') : UndAll B st' := by
  induction hs with
  | refl => exact h
  | head h1 _ ih => exact ih (gd.step ok h1) (h.step ok gd h1)

theorem UndAll.start {n : Nat} (am : Nat → Int) : UndAll B (st0 n am) := fun i k e => ⟨[], by simp, by
  have e' : i = k := e
  subst e'
  exact .refl _⟩
end Go.Proofs.Ytjhididnmkbgoaa
