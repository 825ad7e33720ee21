namespace Slu
set_option linter.unusedVariables false
set_option linter.unusedSimpArgs false

/-- Sum of f 0 .. f (n-1). -/
def sumN : Nat → (Nat → Int) → Int
  | 0, _ => 0
  | n + 1, f => sumN n f + f n

theorem sumN_congr {n : Nat} {f g : Nat → Int} (h : ∀ i, i < n → f i = g i) : sumN n f = sumN n g := by
  induction n with
  | zero => rfl
  | succ n ih => simp only [sumN]; rw [ih (fun i hi => h i (by omega)), h n (by omega)]

theorem sumN_add (n : Nat) (f g : Nat → Int) : sumN n (fun i => f i + g i) = sumN n f + sumN n g := by
  induction n with
  | zero => rfl
  | succ n ih => simp only [sumN, ih]; omega

theorem sumN_nonneg {n : Nat} {f : Nat → Int} (h : ∀ i, i < n → 0 ≤ f i) : 0 ≤ sumN n f := by
  induction n with
  | zero => exact Int.le_refl _
  | succ n ih => simp only [sumN]; have := ih (fun i hi => h i (by omega)); have := h n (by omega); omega

theorem sumN_le {n : Nat} {f g : Nat → Int} (h : ∀ i, i < n → f i ≤ g i) : sumN n f ≤ sumN n g := by
  induction n with
  | zero => exact Int.le_refl _
  | succ n ih => simp only [sumN]; have := ih (fun i hi => h i (by omega)); have := h n (by omega); omega

theorem sumN_lt {n : Nat} {f g : Nat → Int} (h : ∀ i, i < n → f i ≤ g i) (k : Nat) (hk : k < n) (hlt : f k < g k) : sumN n f < sumN n g := by
  induction n with
  | zero => omega
  | succ n ih =>
    simp only [sumN]
    by_cases e : k = n
    · subst e
      have := sumN_le (fun i hi => h i (Nat.lt_succ_of_lt hi)); omega
    · have := ih (fun i hi => h i (by omega)) (by omega); have := h n (by omega); omega

theorem sumN_zero (n : Nat) : sumN n (fun _ => 0) = 0 := by
  induction n with
  | zero => rfl
  | succ n ih => simp only [sumN, ih]; omega

structure Sill where
  a : Nat
  b : Nat
  h : Int
deriving DecidableEq

structure Bas where
  n : Nat
  area : Nat → Int
  floor : Nat → Int
  sills : List Sill

structure Bas.Ok (B : Bas) : Prop where
  area : ∀ i, i < B.n → 1 ≤ B.area i
  lt : ∀ s, s ∈ B.sills → s.a < s.b
  le : ∀ s, s ∈ B.sills → s.b ≤ B.n
  pos : ∀ s, s ∈ B.sills → 1 ≤ s.h
  fa : ∀ s, s ∈ B.sills → B.floor s.a ≤ s.h
  fb : ∀ s, s ∈ B.sills → s.b < B.n → B.floor s.b ≤ s.h
  dist : ∀ s t, s ∈ B.sills → t ∈ B.sills → s.h = t.h → s = t

/-- The water: of each node its group's least node; of each group's least node what is in it (of the sea: what is lost). -/
structure St where
  rep : Nat → Nat
  vol : Nat → Int

def room (B : Bas) (rep : Nat → Nat) (g : Nat) (h : Int) : Int := sumN B.n (fun i => if rep i = g then B.area i * (h - B.floor i) else 0)

def crosses (rep : Nat → Nat) (s : Sill) (g : Nat) : Prop := rep s.a ≠ rep s.b ∧ (rep s.a = g ∨ rep s.b = g)
instance (rep : Nat → Nat) (s : Sill) (g : Nat) : Decidable (crosses rep s g) := by unfold crosses; infer_instance
def other (rep : Nat → Nat) (s : Sill) (g : Nat) : Nat := if rep s.a = g then rep s.b else rep s.a

structure IsLip (B : Bas) (rep : Nat → Nat) (g : Nat) (s : Sill) : Prop where
  mem : s ∈ B.sills
  cr : crosses rep s g
  least : ∀ t, t ∈ B.sills → crosses rep t g → s.h ≤ t.h

theorem IsLip.unique {B : Bas} (ok : B.Ok) {rep : Nat → Nat} {g : Nat} {s t : Sill} (h1 : IsLip B rep g s) (h2 : IsLip B rep g t) : s = t :=
  ok.dist s t h1.mem h2.mem (Int.le_antisymm (h1.least t h2.mem h2.cr) (h2.least s h1.mem h1.cr))

theorem crosses_other {rep : Nat → Nat} {s : Sill} {g : Nat} (h : crosses rep s g) : crosses rep s (other rep s g) := by
  unfold crosses other at *
  split <;> simp_all

theorem other_ne {rep : Nat → Nat} {s : Sill} {g : Nat} (h : crosses rep s g) : other rep s g ≠ g := by
  unfold crosses other at *
  split
  · rename_i e; rw [e] at h; exact fun x => h.1 x.symm
  · rename_i e; exact e

theorem other_other {rep : Nat → Nat} {s : Sill} {g : Nat} (h : crosses rep s g) : other rep s (other rep s g) = g := by
  unfold crosses at h
  unfold other
  by_cases e : rep s.a = g
  · rw [if_pos e]; rw [if_neg h.1]; exact e
  · rw [if_neg e, if_pos rfl]; rcases h.2 with h | h
    · exact absurd h e
    · exact h

/-- A sill that crosses two groups crosses no third. -/
theorem crosses_two {rep : Nat → Nat} {s : Sill} {g k : Nat} (h : crosses rep s g) (h' : crosses rep s k) : k = g ∨ k = other rep s g := by
  unfold crosses at *
  unfold other
  by_cases e : rep s.a = g
  · rw [if_pos e]; rcases h'.2 with x | x
    · exact .inl (x.symm.trans e)
    · exact .inr x.symm
  · rw [if_neg e]; rcases h'.2 with x | x
    · exact .inr x.symm
    · rcases h.2 with y | y
      · exact absurd y e
      · exact .inl (x.symm.trans y)

def upd (f : Nat → Int) (g : Nat) (x : Int) : Nat → Int := fun i => if i = g then x else f i

/-- r runs over from g to t. -/
def moved (st : St) (g t : Nat) (r : Int) : St := { rep := st.rep, vol := fun i => if i = g then st.vol i - r else if i = t then st.vol i + r else st.vol i }

/-- g and t become one. -/
def merged (st : St) (g t : Nat) : St :=
  { rep := fun i => if st.rep i = max g t then min g t else st.rep i
    vol := fun i => if i = min g t then st.vol g + st.vol t else if i = max g t then 0 else st.vol i }

theorem merged_comm (st : St) (g t : Nat) : merged st g t = merged st t g := by
  unfold merged
  rw [Nat.max_comm, Nat.min_comm, Int.add_comm]

/-- The other group is full up to the sill, and has no lower one. -/
def Meets (B : Bas) (st : St) (t : Nat) (s : Sill) : Prop := t ≠ B.n ∧ IsLip B st.rep t s ∧ room B st.rep t s.h ≤ st.vol t

structure Over (B : Bas) (st : St) (g : Nat) (s : Sill) : Prop where
  root : st.rep g = g
  lt : g < B.n
  lip : IsLip B st.rep g s
  over : room B st.rep g s.h < st.vol g

inductive Step (B : Bas) : St → St → Prop
  | merge {st : St} {g : Nat} {s : Sill} (ov : Over B st g s) (m : Meets B st (other st.rep s g) s) : Step B st (merged st g (other st.rep s g))
  | move {st : St} {g : Nat} {s : Sill} (ov : Over B st g s) (m : ¬ Meets B st (other st.rep s g) s) :
      Step B st (moved st g (other st.rep s g) (st.vol g - room B st.rep g s.h))

inductive Star {α : Type} (R : α → α → Prop) : α → α → Prop
  | refl (a : α) : Star R a a
  | head {a b c : α} (h : R a b) (t : Star R b c) : Star R a c

theorem Star.trans {α : Type} {R : α → α → Prop} {a b c : α} (h : Star R a b) (k : Star R b c) : Star R a c := by
  induction h with
  | refl => exact k
  | head h _ ih => exact .head h (ih k)

theorem Star.one {α : Type} {R : α → α → Prop} {a b : α} (h : R a b) : Star R a b := .head h (.refl _)

def Joins {α : Type} (R : α → α → Prop) (a b : α) : Prop := ∃ c, Star R a c ∧ Star R b c

structure Inv (B : Bas) (st : St) : Prop where
  idem : ∀ i, st.rep (st.rep i) = st.rep i
  le : ∀ i, st.rep i ≤ i
  sea : ∀ i, st.rep i = B.n ↔ i = B.n
  junk : ∀ i, st.rep i ≠ i → st.vol i = 0
  nonneg : ∀ i, 0 ≤ st.vol i

/-! ### Facts on one step -/
section
variable {B : Bas} {st : St}

theorem crosses_rep {rep : Nat → Nat} (idem : ∀ i, rep (rep i) = rep i) {s : Sill} {g : Nat} (h : crosses rep s g) : rep g = g := by
  unfold crosses at h
  rcases h.2 with x | x <;> rw [← x, idem]

theorem Over.other_rep (iv : Inv B st) {g : Nat} {s : Sill} (ov : Over B st g s) : st.rep (other st.rep s g) = other st.rep s g :=
  crosses_rep iv.idem (crosses_other ov.lip.cr)

theorem max_min_of_ne {g t : Nat} : (max g t = g ∧ min g t = t) ∨ (max g t = t ∧ min g t = g) := by omega

theorem merged_rep_other {g t k : Nat} (h1 : k ≠ g) (h2 : k ≠ t) (i : Nat) : ((merged st g t).rep i = k) ↔ st.rep i = k := by
  unfold merged
  dsimp only
  split <;> omega

theorem merged_crosses {g t k : Nat} (h1 : k ≠ g) (h2 : k ≠ t) (s : Sill) : crosses (merged st g t).rep s k ↔ crosses st.rep s k := by
  unfold crosses
  constructor
  · rintro ⟨hn, h⟩
    rw [merged_rep_other h1 h2, merged_rep_other h1 h2] at h
    refine ⟨fun e => ?_, h⟩
    apply hn
    unfold merged
    dsimp only
    rw [e]
  · rintro ⟨hn, h⟩
    rw [merged_rep_other h1 h2, merged_rep_other h1 h2]
    refine ⟨fun e => ?_, h⟩
    rcases h with h | h
    · have h' := h
      rw [← merged_rep_other h1 h2] at h'
      rw [h'] at e
      have := (merged_rep_other h1 h2 _).1 e.symm
      exact hn (h.trans this.symm)
    · have h' := h
      rw [← merged_rep_other h1 h2] at h'
      rw [h'] at e
      have := (merged_rep_other h1 h2 _).1 e
      exact hn (this.trans h.symm)

theorem merged_lip {g t k : Nat} (h1 : k ≠ g) (h2 : k ≠ t) (s : Sill) : IsLip B (merged st g t).rep k s ↔ IsLip B st.rep k s := by
  constructor
  · intro h
    exact ⟨h.mem, (merged_crosses h1 h2 s).1 h.cr, fun u hu hc => h.least u hu ((merged_crosses h1 h2 u).2 hc)⟩
  · intro h
    exact ⟨h.mem, (merged_crosses h1 h2 s).2 h.cr, fun u hu hc => h.least u hu ((merged_crosses h1 h2 u).1 hc)⟩

theorem merged_room {g t k : Nat} (h1 : k ≠ g) (h2 : k ≠ t) (h : Int) : room B (merged st g t).rep k h = room B st.rep k h := by
  unfold room
  apply sumN_congr
  intro i _
  have e : ((merged st g t).rep i = k) = (st.rep i = k) := propext (merged_rep_other h1 h2 i)
  simp only [e]

theorem merged_vol {g t k : Nat} (h1 : k ≠ g) (h2 : k ≠ t) : (merged st g t).vol k = st.vol k := by
  unfold merged
  dsimp only
  rw [if_neg (by omega), if_neg (by omega)]

/-- Where a sill leads, behind a merge. -/
theorem merged_other {g t k : Nat} (h1 : k ≠ g) (h2 : k ≠ t) (s : Sill) : other (merged st g t).rep s k = if other st.rep s k = max g t then min g t else other st.rep s k := by
  unfold other
  by_cases e : st.rep s.a = k
  · rw [if_pos ((merged_rep_other h1 h2 _).2 e), if_pos e]; rfl
  · rw [if_neg (fun x => e ((merged_rep_other h1 h2 _).1 x)), if_neg e]; rfl

theorem merged_over {g t k : Nat} (h1 : k ≠ g) (h2 : k ≠ t) {s : Sill} (ov : Over B st k s) : Over B (merged st g t) k s :=
  ⟨(merged_rep_other h1 h2 _).2 ov.root, ov.lt, (merged_lip h1 h2 s).2 ov.lip, by rw [merged_room h1 h2, merged_vol h1 h2]; exact ov.over⟩

theorem merged_meets {g t k : Nat} (h1 : k ≠ g) (h2 : k ≠ t) {s : Sill} : Meets B (merged st g t) k s ↔ Meets B st k s := by
  unfold Meets
  rw [merged_lip h1 h2, merged_room h1 h2, merged_vol h1 h2]

theorem moved_vol_g {g t : Nat} {r : Int} : (moved st g t r).vol g = st.vol g - r := by simp [moved]
theorem moved_vol_t {g t : Nat} {r : Int} (h : t ≠ g) : (moved st g t r).vol t = st.vol t + r := by simp [moved, h]
theorem moved_vol_other {g t k : Nat} {r : Int} (h1 : k ≠ g) (h2 : k ≠ t) : (moved st g t r).vol k = st.vol k := by simp [moved, h1, h2]

theorem St.ext' {a b : St} (h1 : ∀ i, a.rep i = b.rep i) (h2 : ∀ i, a.vol i = b.vol i) : a = b := by
  cases a; cases b
  simp only [St.mk.injEq]
  exact ⟨funext h1, funext h2⟩

theorem room_nonneg (ok : B.Ok) {rep : Nat → Nat} (sea : ∀ i, rep i = B.n ↔ i = B.n) {g : Nat} {h : Int} (hf : ∀ i, i < B.n → rep i = g → B.floor i ≤ h) : 0 ≤ room B rep g h := by
  unfold room
  apply sumN_nonneg
  intro i hi
  split
  · rename_i e
    exact Int.mul_nonneg (by have := ok.area i hi; omega) (by have := hf i hi e; omega)
  · exact Int.le_refl _

theorem Inv.merged (iv : Inv B st) {g t : Nat} (hg : st.rep g = g) (ht : st.rep t = t) (hgn : g ≠ B.n) (htn : t ≠ B.n) : Inv B (merged st g t) := by
  refine ⟨fun i => ?_, fun i => ?_, fun i => ?_, fun i hi => ?_, fun i => ?_⟩
  · have h1 := iv.idem i
    unfold Slu.merged
    dsimp only
    by_cases e : st.rep i = max g t
    · rw [if_pos e]
      rcases max_min_of_ne (g := g) (t := t) with ⟨x, y⟩ | ⟨x, y⟩ <;> rw [y] <;> simp [*] <;> omega
    · rw [if_neg e, if_neg (by rw [h1]; exact e), h1]
  · have := iv.le i
    have := iv.le g
    unfold Slu.merged
    dsimp only
    split
    · omega
    · omega
  · unfold Slu.merged
    dsimp only
    split
    · rename_i e
      constructor
      · intro; omega
      · intro h
        have := (iv.sea i).2 h
        omega
    · exact iv.sea i
  · unfold Slu.merged at hi ⊢
    dsimp only at hi ⊢
    by_cases e : i = min g t
    · exfalso
      rw [e] at hi
      have hm : st.rep (min g t) = min g t := by rcases max_min_of_ne (g := g) (t := t) with ⟨x, y⟩ | ⟨x, y⟩ <;> rw [y] <;> assumption
      rw [hm] at hi
      by_cases e2 : min g t = max g t
      · rw [if_pos e2] at hi; exact hi rfl
      · rw [if_neg e2] at hi; exact hi rfl
    · rw [if_neg e]
      by_cases e2 : i = max g t
      · rw [if_pos e2]
      · rw [if_neg e2]
        apply iv.junk
        intro h
        rw [h, if_neg e2] at hi
        exact hi rfl
  · have := iv.nonneg g
    have := iv.nonneg t
    have := iv.nonneg i
    unfold Slu.merged
    dsimp only
    split
    · omega
    · split <;> omega

theorem Inv.moved (iv : Inv B st) {g t : Nat} {r : Int} (hg : st.rep g = g) (ht : st.rep t = t) (h0 : 0 ≤ r) (h1 : r ≤ st.vol g) : Inv B (moved st g t r) := by
  refine ⟨iv.idem, iv.le, iv.sea, fun i hi => ?_, fun i => ?_⟩
  · have := iv.junk i hi
    unfold Slu.moved at hi ⊢
    dsimp only at hi ⊢
    rw [if_neg (by rintro rfl; exact hi hg), if_neg (by rintro rfl; exact hi ht)]
    exact this
  · have := iv.nonneg i
    unfold Slu.moved
    dsimp only
    split
    · rename_i e; subst e; omega
    · split <;> omega
end

/-! ### Floors -/
/-- A group's floors lie at most as high as its lip. -/
def Floors (B : Bas) (rep : Nat → Nat) : Prop := ∀ g s, IsLip B rep g s → ∀ i, i < B.n → rep i = g → B.floor i ≤ s.h

section
variable {B : Bas} {st : St}

theorem merged_rep_min {g t : Nat} (hg : st.rep g = g) (ht : st.rep t = t) (i : Nat) : (merged st g t).rep i = min g t ↔ st.rep i = g ∨ st.rep i = t := by
  unfold merged
  dsimp only
  split <;> omega

theorem merged_crosses_min {g t : Nat} (hg : st.rep g = g) (ht : st.rep t = t) {s : Sill} (h : crosses (merged st g t).rep s (min g t)) :
    crosses st.rep s g ∨ crosses st.rep s t := by
  unfold crosses at *
  obtain ⟨hn, h⟩ := h
  rw [merged_rep_min hg ht, merged_rep_min hg ht] at h
  have hne : st.rep s.a ≠ st.rep s.b := by
    intro e
    apply hn
    unfold merged
    dsimp only
    rw [e]
  rcases h with (h | h) | (h | h)
  · exact .inl ⟨hne, .inl h⟩
  · exact .inr ⟨hne, .inl h⟩
  · exact .inl ⟨hne, .inr h⟩
  · exact .inr ⟨hne, .inr h⟩

/-- The sill that joins two groups is below what leads out of both. -/
theorem merged_lip_min (ok : B.Ok) {g t : Nat} {s u : Sill} (hg : st.rep g = g) (ht : st.rep t = t) (hs : IsLip B st.rep g s) (hst : IsLip B st.rep t s) (hgt : g ≠ t)
    (hu : IsLip B (merged st g t).rep (min g t) u) : s.h < u.h := by
  have hle : s.h ≤ u.h := by
    rcases merged_crosses_min hg ht hu.cr with h | h
    · exact hs.least u hu.mem h
    · exact hst.least u hu.mem h
  rcases Int.lt_or_eq_of_le hle with h | h
  · exact h
  · exfalso
    have e : s = u := ok.dist s u hs.mem hu.mem h
    subst e
    have h1 := hs.cr
    have h2 := hst.cr
    have hc := hu.cr
    unfold crosses at h1 h2 hc
    apply hc.1
    have : ∀ i, st.rep i = g ∨ st.rep i = t → (merged st g t).rep i = min g t := fun i h => (merged_rep_min hg ht i).2 h
    rw [this s.a (by omega), this s.b (by omega)]

theorem Floors.merged (ok : B.Ok) (fl : Floors B st.rep) {g t : Nat} {s : Sill} (hg : st.rep g = g) (ht : st.rep t = t) (hs : IsLip B st.rep g s) (hst : IsLip B st.rep t s) (hgt : g ≠ t) :
    Floors B (merged st g t).rep := by
  intro k u hu i hi hk
  by_cases e : k = min g t
  · subst e
    have := merged_lip_min ok hg ht hs hst hgt hu
    rcases (merged_rep_min hg ht i).1 hk with h | h
    · have := fl g s hs i hi h; omega
    · have := fl t s hst i hi h; omega
  · by_cases e2 : k = max g t
    · exfalso
      subst e2
      unfold Slu.merged at hk
      dsimp only at hk
      split at hk <;> omega
    · exact fl k u ((merged_lip (by omega) (by omega) u).1 hu) i hi ((merged_rep_other (by omega) (by omega) i).1 hk)

structure Good (B : Bas) (st : St) : Prop where
  iv : Inv B st
  fl : Floors B st.rep

theorem Good.room_nonneg (ok : B.Ok) (gd : Good B st) {g : Nat} {s : Sill} (h : IsLip B st.rep g s) : 0 ≤ room B st.rep g s.h :=
  Slu.room_nonneg ok gd.iv.sea (fun i hi e => gd.fl g s h i hi e)

theorem Good.other_ne_self (gd : Good B st) {g : Nat} {s : Sill} (ov : Over B st g s) : other st.rep s g ≠ g := other_ne ov.lip.cr

theorem Good.step (ok : B.Ok) (gd : Good B st) {st' : St} (h : Step B st st') : Good B st' := by
  cases h with
  | @merge g s ov m =>
    have h1 := ov.other_rep gd.iv
    have h2 := gd.other_ne_self ov
    exact ⟨gd.iv.merged ov.root h1 (by have := ov.lt; omega) m.1, gd.fl.merged ok ov.root h1 ov.lip m.2.1 (Ne.symm h2)⟩
  | @move g s ov m =>
    have h1 := ov.other_rep gd.iv
    have h3 := gd.room_nonneg ok ov.lip
    have h4 := ov.over
    exact ⟨gd.iv.moved ov.root h1 (by omega) (by omega), gd.fl⟩

theorem Good.star (ok : B.Ok) (gd : Good B st) {st' : St} (h : Star (Step B) st st') : Good B st' := by
  induction h with
  | refl => exact gd
  | head h _ ih => exact ih (gd.step ok h)

/-! ### Two ways meet again -/
theorem step_move {g t : Nat} {s : Sill} {r : Int} (ov : Over B st g s) (et : other st.rep s g = t) (er : st.vol g - room B st.rep g s.h = r) (m : ¬ Meets B st t s) : Step B st (moved st g t r) := by
  subst et er; exact .move ov m

theorem step_merge {g t : Nat} {s : Sill} (ov : Over B st g s) (et : other st.rep s g = t) (m : Meets B st t s) : Step B st (merged st g t) := by
  subst et; exact .merge ov m

theorem moved_over_other {g t : Nat} {r : Int} {k : Nat} {s : Sill} (h1 : k ≠ g) (h0 : 0 ≤ r) (ov : Over B st k s) : Over B (moved st g t r) k s := by
  refine ⟨ov.root, ov.lt, ov.lip, ?_⟩
  have := ov.over
  by_cases e : k = t
  · subst e; rw [moved_vol_t h1]; show room B st.rep k s.h < _; omega
  · rw [moved_vol_other h1 e]; exact this


/-- What is over g's lip, moved, whether the other group meets it or not. -/
def mv (B : Bas) (st : St) (g : Nat) (s : Sill) : St := moved st g (other st.rep s g) (st.vol g - room B st.rep g s.h)

theorem merged_moved {g t : Nat} {r : Int} (h : t ≠ g) : merged (moved st g t r) g t = merged st g t := by
  refine St.ext' (fun i => rfl) (fun i => ?_)
  show (if i = min g t then (moved st g t r).vol g + (moved st g t r).vol t else if i = max g t then 0 else (moved st g t r).vol i) = _
  unfold merged
  dsimp only
  rw [moved_vol_g, moved_vol_t h]
  split
  · omega
  · split
    · rfl
    · exact moved_vol_other (by omega) (by omega)

/-- A step comes to where the move leads. -/
theorem fire (ok : B.Ok) (gd : Good B st) {g : Nat} {s : Sill} (ov : Over B st g s) : ∃ z, Step B st z ∧ Star (Step B) (mv B st g s) z := by
  by_cases m : Meets B st (other st.rep s g) s
  · refine ⟨_, .merge ov m, ?_⟩
    have hne := other_ne ov.lip.cr
    have hov := ov.over
    rw [← merged_moved (r := st.vol g - room B st.rep g s.h) hne, merged_comm]
    refine .one (step_merge (s := s) ⟨ov.other_rep gd.iv, ?_, m.2.1, ?_⟩ (other_other ov.lip.cr) ⟨by have := ov.lt; omega, ov.lip, ?_⟩)
    · have h1 := m.1
      have := ov.other_rep gd.iv
      have := (ok.lt s ov.lip.mem)
      have := (ok.le s ov.lip.mem)
      have h2 := gd.iv.le s.a
      have h3 := gd.iv.le s.b
      have h4 : other st.rep s g ≤ B.n := by
        unfold other
        split <;> omega
      omega
    · unfold mv
      rw [moved_vol_t hne]
      have := m.2.2
      show room B st.rep _ s.h < _
      omega
    · unfold mv
      rw [moved_vol_g]
      show room B st.rep g s.h ≤ _
      omega
  · exact ⟨_, .move ov m, .refl _⟩

theorem local_moves (ok : B.Ok) (gd : Good B st) {g1 g2 : Nat} {s1 s2 : Sill} (hne : g1 ≠ g2) (o1 : Over B st g1 s1) (o2 : Over B st g2 s2)
    (m1 : ¬ Meets B st (other st.rep s1 g1) s1) (m2 : ¬ Meets B st (other st.rep s2 g2) s2) :
    Joins (Step B) (mv B st g1 s1) (mv B st g2 s2) := by
  have ha : Good B (mv B st g1 s1) := gd.step ok (.move o1 m1)
  have hb : Good B (mv B st g2 s2) := gd.step ok (.move o2 m2)
  have r1 := o1.over
  have r2 := o2.over
  have hs12 : s1 ≠ s2 ∨ other st.rep s1 g1 = g2 := by
    by_cases e : s1 = s2
    · subst e
      right
      rcases crosses_two o1.lip.cr o2.lip.cr with h | h
      · exact absurd h.symm hne
      · exact h.symm
    · exact .inl e
  -- over the same sill, both would meet
  have hs : s1 ≠ s2 := by
    rcases hs12 with h | h
    · exact h
    · rintro rfl
      apply m1
      rw [h]
      exact ⟨by have := o2.lt; omega, o2.lip, by omega⟩
  have hcyc : ¬ (other st.rep s1 g1 = g2 ∧ other st.rep s2 g2 = g1) := by
    rintro ⟨h1, h2⟩
    apply hs
    have c1 := crosses_other o1.lip.cr
    have c2 := crosses_other o2.lip.cr
    rw [h1] at c1
    rw [h2] at c2
    exact ok.dist _ _ o1.lip.mem o2.lip.mem (Int.le_antisymm (o1.lip.least _ o2.lip.mem c2) (o2.lip.least _ o1.lip.mem c1))
  have oa : Over B (mv B st g1 s1) g2 s2 := moved_over_other (Ne.symm hne) (by omega) o2
  have ob : Over B (mv B st g2 s2) g1 s1 := moved_over_other hne (by omega) o1
  have n1 : other st.rep s1 g1 ≠ g1 := other_ne o1.lip.cr
  have n2 : other st.rep s2 g2 ≠ g2 := other_ne o2.lip.cr
  -- the first runs into the second
  have chain : ∀ (g1 g2 : Nat) (s1 s2 : Sill), g1 ≠ g2 → Over B st g1 s1 → Over B st g2 s2 → other st.rep s1 g1 ≠ g1 → other st.rep s2 g2 ≠ g2 →
      ¬ Meets B st (other st.rep s2 g2) s2 → s1 ≠ s2 → Good B (mv B st g2 s2) → Over B (mv B st g1 s1) g2 s2 → Over B (mv B st g2 s2) g1 s1 → other st.rep s1 g1 = g2 → other st.rep s2 g2 ≠ g1 → Joins (Step B) (mv B st g1 s1) (mv B st g2 s2) := by
    intro g1 g2 s1 s2 hne o1 o2 n1 n2 m2 hs hb oa ob h1 h2
    have r1 := o1.over
    have r2 := o2.over
    have ea : Step B (mv B st g1 s1) (mv B (mv B st g1 s1) g2 s2) := by
      refine .move oa fun m => m2 ⟨m.1, m.2.1, ?_⟩
      have := m.2.2
      have e : (mv B st g1 s1).vol (other st.rep s2 g2) = st.vol (other st.rep s2 g2) := moved_vol_other h2 (by rw [h1]; exact n2)
      rw [show (mv B st g1 s1).rep = st.rep from rfl] at this
      rw [e] at this
      exact this
    have eb : Step B (mv B st g2 s2) (mv B (mv B st g2 s2) g1 s1) := by
      refine .move ob fun m => hs ?_
      have hl : IsLip B st.rep (other st.rep s1 g1) s1 := m.2.1
      rw [h1] at hl
      exact hl.unique ok o2.lip
    have hb2 := hb.step ok eb
    have ob2 : Over B (mv B (mv B st g2 s2) g1 s1) g2 s2 := by
      refine ⟨o2.root, o2.lt, o2.lip, ?_⟩
      show room B st.rep g2 s2.h < _
      have : (mv B (mv B st g2 s2) g1 s1).vol g2 = room B st.rep g2 s2.h + (st.vol g1 - room B st.rep g1 s1.h) := by
        simp only [mv, moved]
        simp [Ne.symm hne, h1, hne, Ne.symm h2]
        omega
      omega
    obtain ⟨z, hz1, hz2⟩ := fire ok hb2 ob2
    refine ⟨z, .head ea ?_, .head eb (.one hz1)⟩
    have : mv B (mv B st g1 s1) g2 s2 = mv B (mv B (mv B st g2 s2) g1 s1) g2 s2 := by
      refine St.ext' (fun i => rfl) (fun i => ?_)
      simp only [mv, moved, h1]
      by_cases e1 : i = g1
      · subst e1; simp [hne, Ne.symm hne, Ne.symm h2]
      · by_cases e2 : i = g2
        · subst e2; simp [hne, Ne.symm hne, n2, Ne.symm n2, Ne.symm h2]; omega
        · by_cases e3 : i = other st.rep s2 g2
          · subst e3; simp [hne, Ne.symm hne, h2, Ne.symm h2, n2]; omega
          · simp [e1, e2, e3]
    rw [this]
    exact hz2
  by_cases c1 : other st.rep s1 g1 = g2
  · exact chain g1 g2 s1 s2 hne o1 o2 n1 n2 m2 hs hb oa ob c1 (fun h => hcyc ⟨c1, h⟩)
  by_cases c2 : other st.rep s2 g2 = g1
  · obtain ⟨c, x, y⟩ := chain g2 g1 s2 s1 (Ne.symm hne) o2 o1 n2 n1 m1 (Ne.symm hs) ha ob oa c2 c1
    exact ⟨c, y, x⟩
  -- neither runs into the other
  have com : mv B (mv B st g1 s1) g2 s2 = mv B (mv B st g2 s2) g1 s1 := by
    refine St.ext' (fun i => rfl) (fun i => ?_)
    simp only [mv, moved]
    by_cases e1 : i = g1
    · subst e1; simp [hne, Ne.symm hne, Ne.symm c1, Ne.symm c2]
    · by_cases e2 : i = g2
      · subst e2; simp [hne, Ne.symm hne, Ne.symm c1, Ne.symm c2]
      · simp only [e1, e2, if_false, hne, Ne.symm hne, Ne.symm c1, Ne.symm c2]
        split <;> split <;> omega
  obtain ⟨za, a1, a2⟩ := fire ok ha oa
  obtain ⟨zb, b1, b2⟩ := fire ok hb ob
  by_cases ma : Meets B (mv B st g1 s1) (other st.rep s2 g2) s2
  · -- then the other one doesn't meet
    have hx : Step B (mv B st g2 s2) (mv B (mv B st g2 s2) g1 s1) := by
      refine .move ob fun m => ?_
      have : other st.rep s1 g1 = other st.rep s2 g2 := by
        refine Classical.byContradiction fun hc => m2 ⟨ma.1, ma.2.1, ?_⟩
        have h := ma.2.2
        have e : (mv B st g1 s1).vol (other st.rep s2 g2) = st.vol (other st.rep s2 g2) := moved_vol_other c2 (Ne.symm hc)
        rw [e] at h
        exact h
      have hl : IsLip B st.rep (other st.rep s1 g1) s1 := m.2.1
      rw [this] at hl
      exact hs (hl.unique ok ma.2.1)
    refine ⟨za, .one a1, .head hx ?_⟩
    rw [← com]; exact a2
  · refine ⟨zb, .head (.move oa ma) ?_, .one b1⟩
    show Star (Step B) (mv B (mv B st g1 s1) g2 s2) zb
    rw [com]; exact b2
end

section
variable {B : Bas} {st : St}

theorem over_eq {g : Nat} {s s' : Sill} (ok : B.Ok) (o : Over B st g s) (o' : Over B st g s') : s = s' := o.lip.unique ok o'.lip

/-- A merge and another step. -/
theorem local_merge (ok : B.Ok) (gd : Good B st) {g1 g2 : Nat} {s1 s2 : Sill} (hne : g1 ≠ g2) (o1 : Over B st g1 s1) (o2 : Over B st g2 s2)
    (m1 : Meets B st (other st.rep s1 g1) s1) {b : St}
    (hb : (Meets B st (other st.rep s2 g2) s2 ∧ b = merged st g2 (other st.rep s2 g2)) ∨ (¬ Meets B st (other st.rep s2 g2) s2 ∧ b = mv B st g2 s2)) :
    Joins (Step B) (merged st g1 (other st.rep s1 g1)) b := by
  generalize ht1 : other st.rep s1 g1 = t1 at *
  generalize ht2 : other st.rep s2 g2 = t2 at *
  have n1 : t1 ≠ g1 := by rw [← ht1]; exact other_ne o1.lip.cr
  have n2 : t2 ≠ g2 := by rw [← ht2]; exact other_ne o2.lip.cr
  have r1 := o1.over
  have r2 := o2.over
  have q1 : st.rep t1 = t1 := by rw [← ht1]; exact o1.other_rep gd.iv
  have q2 : st.rep t2 = t2 := by rw [← ht2]; exact o2.other_rep gd.iv
  by_cases e : g2 = t1
  · -- the second merges with the first
    subst e
    have hs : s1 = s2 := m1.2.1.unique ok o2.lip
    subst hs
    have ht : t2 = g1 := by rw [← ht2, ← ht1]; exact other_other o1.lip.cr
    subst ht
    rcases hb with ⟨_, rfl⟩ | ⟨hm, _⟩
    · rw [merged_comm]; exact ⟨_, .refl _, .refl _⟩
    · exact absurd ⟨by have := o1.lt; omega, o1.lip, by omega⟩ hm
  have hs : s1 ≠ s2 := by
    rintro rfl
    rcases crosses_two o1.lip.cr o2.lip.cr with h | h
    · exact hne h.symm
    · rw [ht1] at h; exact e h
  have ha : Good B (merged st g1 t1) := gd.step ok (step_merge o1 ht1 m1)
  have oa : Over B (merged st g1 t1) g2 s2 := merged_over (Ne.symm hne) e o2
  have oth : other (merged st g1 t1).rep s2 g2 = if t2 = max g1 t1 then min g1 t1 else t2 := by rw [merged_other (Ne.symm hne) e, ht2]
  by_cases c : t2 = g1 ∨ t2 = t1
  · -- it runs into what is merged
    have nm : ¬ Meets B st t2 s2 := by
      intro m
      rcases c with c | c <;> subst c
      · exact hs (o1.lip.unique ok m.2.1)
      · exact hs (m1.2.1.unique ok m.2.1)
    rcases hb with ⟨hm, _⟩ | ⟨_, rfl⟩
    · exact absurd hm nm
    obtain ⟨z, z1, z2⟩ := fire ok ha oa
    have ob : Over B (mv B st g2 s2) g1 s1 := moved_over_other hne (by omega) o1
    have mb : Meets B (mv B st g2 s2) t1 s1 := by
      refine ⟨m1.1, m1.2.1, ?_⟩
      have h := m1.2.2
      show room B st.rep t1 s1.h ≤ _
      unfold mv
      rw [ht2]
      by_cases x : t1 = t2
      · rw [← x, moved_vol_t (Ne.symm e)]; omega
      · rw [moved_vol_other (Ne.symm e) x]; exact h
    refine ⟨z, .one z1, .head (step_merge ob ht1 mb) ?_⟩
    have : merged (mv B st g2 s2) g1 t1 = mv B (merged st g1 t1) g2 s2 := by
      have hr : room B (merged st g1 t1).rep g2 s2.h = room B st.rep g2 s2.h := merged_room (Ne.symm hne) e _
      have hv : (merged st g1 t1).vol g2 = st.vol g2 := merged_vol (Ne.symm hne) e
      refine St.ext' (fun i => rfl) (fun i => ?_)
      simp only [mv, hr, hv, oth, ht2]
      have hto : (if t2 = max g1 t1 then min g1 t1 else t2) = min g1 t1 := by split <;> omega
      rw [hto]
      simp only [merged, moved]
      have hmn : min g1 t1 ≠ g2 := by omega
      have hmx : max g1 t1 ≠ g2 := by omega
      have hmm : min g1 t1 ≠ max g1 t1 := by omega
      by_cases i1 : i = min g1 t1
      · subst i1
        simp only [if_true, hmn, if_false, hne, Ne.symm e, hmm]
        rcases c with c | c <;> subst c
        · simp only [if_true, n1, if_false]; omega
        · simp only [if_true, Ne.symm n1, if_false]; omega
      · by_cases i2 : i = max g1 t1
        · subst i2; simp only [i1, if_true, if_false, hmx]
        · simp only [i1, i2, if_false]
          by_cases i3 : i = g2
          · simp [i3]
          · simp only [i3, if_false]; split <;> omega
    rw [this]; exact z2
  · -- it has nothing to do with what is merged
    have ca : t2 ≠ g1 := fun h => c (.inl h)
    have cb : t2 ≠ t1 := fun h => c (.inr h)
    have oth' : other (merged st g1 t1).rep s2 g2 = t2 := by rw [oth, if_neg (by omega)]
    have hr : room B (merged st g1 t1).rep g2 s2.h = room B st.rep g2 s2.h := merged_room (Ne.symm hne) e _
    have hv : (merged st g1 t1).vol g2 = st.vol g2 := merged_vol (Ne.symm hne) e
    rcases hb with ⟨m2, rfl⟩ | ⟨m2, rfl⟩
    · have sa : Step B (merged st g1 t1) (merged (merged st g1 t1) g2 t2) := step_merge oa oth' ((merged_meets ca cb).2 m2)
      have ob : Over B (merged st g2 t2) g1 s1 := merged_over hne (Ne.symm ca) o1
      have oth1 : other (merged st g2 t2).rep s1 g1 = t1 := by rw [merged_other hne (Ne.symm ca), ht1, if_neg (by omega)]
      have sb : Step B (merged st g2 t2) (merged (merged st g2 t2) g1 t1) := step_merge ob oth1 ((merged_meets (Ne.symm e) (Ne.symm cb)).2 m1)
      refine ⟨_, .one sa, ?_⟩
      have : merged (merged st g1 t1) g2 t2 = merged (merged st g2 t2) g1 t1 := by
        refine St.ext' (fun i => ?_) (fun i => ?_)
        · show (if (if st.rep i = max g1 t1 then min g1 t1 else st.rep i) = max g2 t2 then min g2 t2 else (if st.rep i = max g1 t1 then min g1 t1 else st.rep i)) =
            (if (if st.rep i = max g2 t2 then min g2 t2 else st.rep i) = max g1 t1 then min g1 t1 else (if st.rep i = max g2 t2 then min g2 t2 else st.rep i))
          by_cases x : st.rep i = max g1 t1
          · rw [if_pos x, if_neg (show ¬ min g1 t1 = max g2 t2 by omega), x, if_neg (show ¬ max g1 t1 = max g2 t2 by omega), if_pos rfl]
          · rw [if_neg x]
            by_cases y : st.rep i = max g2 t2
            · rw [if_pos y, if_neg (by omega)]
            · rw [if_neg y, if_neg x]
        · simp only [merged]
          have k1 : min g1 t1 ≠ min g2 t2 := by omega
          have k2 : min g1 t1 ≠ max g2 t2 := by omega
          have k3 : max g1 t1 ≠ min g2 t2 := by omega
          have k4 : max g1 t1 ≠ max g2 t2 := by omega
          have u1 : ¬ g2 = min g1 t1 := by omega
          have u2 : ¬ g2 = max g1 t1 := by omega
          have u3 : ¬ t2 = min g1 t1 := by omega
          have u4 : ¬ t2 = max g1 t1 := by omega
          have u5 : ¬ g1 = min g2 t2 := by omega
          have u6 : ¬ g1 = max g2 t2 := by omega
          have u7 : ¬ t1 = min g2 t2 := by omega
          have u8 : ¬ t1 = max g2 t2 := by omega
          simp only [u1, u2, u3, u4, u5, u6, u7, u8, if_false]
          by_cases i1 : i = min g1 t1
          · subst i1; simp [k1, k2]
          · by_cases i2 : i = max g1 t1
            · subst i2; simp only [i1, k3, k4, if_false, if_true]
            · simp only [i1, i2, if_false]
      rw [this]; exact .one sb
    · have sa : Step B (merged st g1 t1) (mv B (merged st g1 t1) g2 s2) := .move oa (by rw [oth']; exact fun m => m2 ((merged_meets ca cb).1 m))
      have ob : Over B (mv B st g2 s2) g1 s1 := moved_over_other hne (by omega) o1
      have vt : (mv B st g2 s2).vol t1 = st.vol t1 := by unfold mv; rw [ht2]; exact moved_vol_other (Ne.symm e) (Ne.symm cb)
      have sb : Step B (mv B st g2 s2) (merged (mv B st g2 s2) g1 t1) := step_merge ob ht1 ⟨m1.1, m1.2.1, by rw [vt]; exact m1.2.2⟩
      refine ⟨_, .one sa, ?_⟩
      have : mv B (merged st g1 t1) g2 s2 = merged (mv B st g2 s2) g1 t1 := by
        refine St.ext' (fun i => rfl) (fun i => ?_)
        simp only [mv, hr, hv, oth', ht2]
        simp only [merged, moved]
        have u1 : ¬ g2 = min g1 t1 := by omega
        have u2 : ¬ g2 = max g1 t1 := by omega
        have u3 : ¬ t2 = min g1 t1 := by omega
        have u4 : ¬ t2 = max g1 t1 := by omega
        simp only [hne, Ne.symm e, Ne.symm ca, Ne.symm cb, if_false]
        by_cases i1 : i = min g1 t1
        · subst i1; simp only [if_true, Ne.symm u1, Ne.symm u3, if_false]
        · by_cases i2 : i = max g1 t1
          · subst i2; simp only [i1, if_true, Ne.symm u2, Ne.symm u4, if_false]
          · simp only [i1, i2, if_false]
      rw [this]; exact .one sb

theorem step_cases {st' : St} (h : Step B st st') : ∃ g s, Over B st g s ∧
    ((Meets B st (other st.rep s g) s ∧ st' = merged st g (other st.rep s g)) ∨ (¬ Meets B st (other st.rep s g) s ∧ st' = mv B st g s)) := by
  cases h with
  | merge ov m => exact ⟨_, _, ov, .inl ⟨m, rfl⟩⟩
  | move ov m => exact ⟨_, _, ov, .inr ⟨m, rfl⟩⟩

theorem local_conf (ok : B.Ok) (gd : Good B st) {a b : St} (ha : Step B st a) (hb : Step B st b) : Joins (Step B) a b := by
  obtain ⟨g1, s1, o1, h1⟩ := step_cases ha
  obtain ⟨g2, s2, o2, h2⟩ := step_cases hb
  by_cases hne : g1 = g2
  · subst hne
    have := over_eq ok o1 o2
    subst this
    rcases h1 with ⟨m1, rfl⟩ | ⟨m1, rfl⟩ <;> rcases h2 with ⟨m2, rfl⟩ | ⟨m2, rfl⟩
    · exact ⟨_, .refl _, .refl _⟩
    · exact absurd m1 m2
    · exact absurd m2 m1
    · exact ⟨_, .refl _, .refl _⟩
  · rcases h1 with ⟨m1, rfl⟩ | ⟨m1, rfl⟩
    · exact local_merge ok gd hne o1 o2 m1 h2
    · rcases h2 with ⟨m2, rfl⟩ | ⟨m2, rfl⟩
      · obtain ⟨c, x, y⟩ := local_merge ok gd (Ne.symm hne) o2 o1 m2 (.inr ⟨m1, rfl⟩)
        exact ⟨c, y, x⟩
      · exact local_moves ok gd hne o1 o2 m1 m2
end

/-! ### The lip as a function -/
def minBy : List Sill → Option Sill
  | [] => none
  | s :: l => match minBy l with
    | none => some s
    | some t => if s.h ≤ t.h then some s else some t

theorem minBy_none {l : List Sill} (h : minBy l = none) : l = [] := by
  cases l with
  | nil => rfl
  | cons s l =>
    simp only [minBy] at h
    split at h
    · cases h
    · split at h <;> cases h

theorem minBy_some {l : List Sill} {s : Sill} (h : minBy l = some s) : s ∈ l ∧ ∀ t, t ∈ l → s.h ≤ t.h := by
  induction l generalizing s with
  | nil => cases h
  | cons u l ih =>
    simp only [minBy] at h
    split at h
    · rename_i e
      have := minBy_none e
      subst this
      cases h
      simp
    · rename_i t e
      obtain ⟨h1, h2⟩ := ih e
      split at h
      · rename_i hle
        cases h
        refine ⟨by simp, fun v hv => ?_⟩
        rcases List.mem_cons.1 hv with rfl | hv
        · exact Int.le_refl _
        · have := h2 v hv; omega
      · rename_i hle
        cases h
        refine ⟨List.mem_cons_of_mem _ h1, fun v hv => ?_⟩
        rcases List.mem_cons.1 hv with rfl | hv
        · omega
        · exact h2 v hv

def lipOf (B : Bas) (rep : Nat → Nat) (g : Nat) : Option Sill := minBy (B.sills.filter fun s => decide (crosses rep s g))

theorem lipOf_some {B : Bas} {rep : Nat → Nat} {g : Nat} {s : Sill} (h : lipOf B rep g = some s) : IsLip B rep g s := by
  obtain ⟨h1, h2⟩ := minBy_some h
  rw [List.mem_filter] at h1
  refine ⟨h1.1, by simpa using h1.2, fun t ht hc => h2 t ?_⟩
  rw [List.mem_filter]
  exact ⟨ht, by simpa using hc⟩

theorem lipOf_none {B : Bas} {rep : Nat → Nat} {g : Nat} (h : lipOf B rep g = none) {s : Sill} (hs : s ∈ B.sills) : ¬ crosses rep s g := by
  intro hc
  have := minBy_none h
  have h2 : s ∈ B.sills.filter fun s => decide (crosses rep s g) := by rw [List.mem_filter]; exact ⟨hs, by simpa using hc⟩
  rw [this] at h2
  cases h2

theorem lipOf_eq {B : Bas} (ok : B.Ok) {rep : Nat → Nat} {g : Nat} {s : Sill} (h : IsLip B rep g s) : lipOf B rep g = some s := by
  cases e : lipOf B rep g with
  | none => exact absurd h.cr (lipOf_none e h.mem)
  | some t => rw [(lipOf_some e).unique ok h]

/-! ### It ends -/
def cnt (B : Bas) (st : St) : Int := sumN B.n fun i => if st.rep i = i then 1 else 0
def freeAt (B : Bas) (st : St) (g : Nat) : Int := match lipOf B st.rep g with
  | none => 0
  | some s => max 0 (room B st.rep g s.h - st.vol g)
def free (B : Bas) (st : St) : Int := sumN B.n (freeAt B st)
def potAt (B : Bas) (st : St) (g : Nat) : Int := match lipOf B st.rep g with
  | none => 0
  | some s => st.vol g * s.h
def pot (B : Bas) (st : St) : Int := sumN B.n (potAt B st)

theorem sumN_diff {n : Nat} {f f' : Nat → Int} {g t : Nat} (hg : g < n) (hgt : t ≠ g) (h : ∀ i, i < n → i ≠ g → i ≠ t → f' i = f i) :
    sumN n f' - sumN n f = (f' g - f g) + (if t < n then f' t - f t else 0) := by
  induction n with
  | zero => omega
  | succ n ih =>
    simp only [sumN]
    by_cases e1 : g = n
    · subst e1
      by_cases e2 : t < g
      · have hrest : sumN g f' - sumN g f = f' t - f t := by
          clear ih
          have : ∀ m, m ≤ g → sumN m f' - sumN m f = if t < m then f' t - f t else 0 := by
            intro m hm
            induction m with
            | zero => simp [sumN]
            | succ m ih =>
              have := ih (by omega)
              simp only [sumN]
              by_cases e : m = t
              · subst e
                rw [if_neg (by omega)] at this
                rw [if_pos (by omega)]; omega
              · have hm' := h m (by omega) (by omega) e
                by_cases e3 : t < m
                · rw [if_pos e3] at this; rw [if_pos (by omega)]; omega
                · rw [if_neg e3] at this; rw [if_neg (by omega)]; omega
          have := this g (Nat.le_refl _)
          rw [if_pos e2] at this
          exact this
        rw [if_pos (by omega)]; omega
      · have hrest : sumN g f' = sumN g f := sumN_congr fun i hi => h i (by omega) (by omega) (by omega)
        rw [if_neg (by omega)]; omega
    · have := ih (by omega) (fun i hi => h i (by omega))
      by_cases e2 : t = n
      · subst e2
        rw [if_neg (by omega)] at this
        rw [if_pos (by omega)]; omega
      · have hn := h n (by omega) (Ne.symm e1) (Ne.symm e2)
        by_cases e3 : t < n
        · rw [if_pos e3] at this; rw [if_pos (by omega)]; omega
        · rw [if_neg e3] at this; rw [if_neg (by omega)]; omega

section
variable {B : Bas} {st : St}

theorem free_nonneg : 0 ≤ free B st := by
  unfold free freeAt
  apply sumN_nonneg
  intro i _
  split <;> omega

theorem cnt_nonneg : 0 ≤ cnt B st := by
  unfold cnt
  apply sumN_nonneg
  intro i _
  split <;> omega

theorem pot_nonneg (ok : B.Ok) (gd : Good B st) : 0 ≤ pot B st := by
  unfold pot potAt
  apply sumN_nonneg
  intro i _
  split
  · omega
  · rename_i s e
    exact Int.mul_nonneg (gd.iv.nonneg i) (by have := ok.pos s (lipOf_some e).mem; omega)

theorem cnt_merged {g t : Nat} (hg : st.rep g = g) (ht : st.rep t = t) (hgt : t ≠ g) (hgn : g < B.n) (htn : t < B.n) : cnt B (merged st g t) < cnt B st := by
  unfold cnt
  refine sumN_lt (k := max g t) (fun i _ => ?_) (by omega) ?_
  · by_cases e : (merged st g t).rep i = i
    · rw [if_pos e]
      unfold merged at e
      dsimp only at e
      split at e
      · rename_i h
        have : st.rep i = i := by rcases max_min_of_ne (g := g) (t := t) with ⟨x, y⟩ | ⟨x, y⟩ <;> rw [y] at e <;> rw [← e] <;> assumption
        rw [if_pos this]; omega
      · rw [if_pos e]; omega
    · rw [if_neg e]; split <;> omega
  · have hm : st.rep (max g t) = max g t := by rcases max_min_of_ne (g := g) (t := t) with ⟨x, y⟩ | ⟨x, y⟩ <;> rw [x] <;> assumption
    have : ¬ (merged st g t).rep (max g t) = max g t := by
      unfold merged
      dsimp only
      rw [hm, if_pos rfl]; omega
    rw [if_neg this, if_pos hm]; omega

theorem other_le (ok : B.Ok) (gd : Good B st) {g : Nat} {s : Sill} (h : IsLip B st.rep g s) : other st.rep s g ≤ B.n := by
  have := (ok.lt s h.mem)
  have := (ok.le s h.mem)
  have h2 := gd.iv.le s.a
  have h3 := gd.iv.le s.b
  unfold other
  split <;> omega

/-- A move that doesn't meet: less is free, or as much is free and it lies lower. -/
theorem move_less (ok : B.Ok) (gd : Good B st) {g : Nat} {s : Sill} (ov : Over B st g s) (m : ¬ Meets B st (other st.rep s g) s) :
    free B (mv B st g s) < free B st ∨ (free B (mv B st g s) ≤ free B st ∧ pot B (mv B st g s) < pot B st) := by
  generalize ht : other st.rep s g = t at *
  have hne : t ≠ g := by rw [← ht]; exact other_ne ov.lip.cr
  have hle : t ≤ B.n := by rw [← ht]; exact other_le ok gd ov.lip
  have hlg : lipOf B st.rep g = some s := lipOf_eq ok ov.lip
  have hov := ov.over
  have hpos := ok.pos s ov.lip.mem
  have vg : (mv B st g s).vol g = room B st.rep g s.h := by unfold mv; rw [moved_vol_g]; omega
  have vt : (mv B st g s).vol t = st.vol t + (st.vol g - room B st.rep g s.h) := by unfold mv; rw [ht, moved_vol_t hne]
  have vo : ∀ i, i ≠ g → i ≠ t → (mv B st g s).vol i = st.vol i := fun i h1 h2 => by unfold mv; rw [ht]; exact moved_vol_other h1 h2
  have dF := sumN_diff (f := freeAt B st) (f' := freeAt B (mv B st g s)) ov.lt hne (fun i _ h1 h2 => by
    unfold freeAt; rw [vo i h1 h2]; rfl)
  have dP := sumN_diff (f := potAt B st) (f' := potAt B (mv B st g s)) ov.lt hne (fun i _ h1 h2 => by
    unfold potAt; rw [vo i h1 h2]; rfl)
  have fg : freeAt B st g = 0 := by unfold freeAt; rw [hlg]; dsimp only; omega
  have fg' : freeAt B (mv B st g s) g = 0 := by
    unfold freeAt
    rw [show (mv B st g s).rep = st.rep from rfl, hlg]
    dsimp only
    rw [vg]; omega
  have pg : potAt B st g = st.vol g * s.h := by unfold potAt; rw [hlg]
  have pg' : potAt B (mv B st g s) g = room B st.rep g s.h * s.h := by
    unfold potAt
    rw [show (mv B st g s).rep = st.rep from rfl, hlg]
    dsimp only
    rw [vg]
  unfold free pot
  have hgap : 0 < (st.vol g - room B st.rep g s.h) * s.h := Int.mul_pos (by omega) (by omega)
  have hgap' : st.vol g * s.h - room B st.rep g s.h * s.h = (st.vol g - room B st.rep g s.h) * s.h := (Int.sub_mul ..).symm
  by_cases htn : t < B.n
  · rw [if_pos htn] at dF dP
    cases hlt : lipOf B st.rep t with
    | none => exact absurd (crosses_other ov.lip.cr) (by rw [ht]; exact lipOf_none hlt ov.lip.mem)
    | some u =>
      have hu := lipOf_some hlt
      have ft : freeAt B st t = max 0 (room B st.rep t u.h - st.vol t) := by unfold freeAt; rw [hlt]
      have ft' : freeAt B (mv B st g s) t = max 0 (room B st.rep t u.h - (st.vol t + (st.vol g - room B st.rep g s.h))) := by
        unfold freeAt
        rw [show (mv B st g s).rep = st.rep from rfl, hlt]
        dsimp only
        rw [vt]
      have pt : potAt B st t = st.vol t * u.h := by unfold potAt; rw [hlt]
      have pt' : potAt B (mv B st g s) t = (st.vol t + (st.vol g - room B st.rep g s.h)) * u.h := by
        unfold potAt
        rw [show (mv B st g s).rep = st.rep from rfl, hlt]
        dsimp only
        rw [vt]
      by_cases hus : u = s
      · subst hus
        left
        have : st.vol t < room B st.rep t u.h := by
          refine Int.not_le.1 fun h => m ⟨by omega, hu, h⟩
        omega
      · right
        have hlow : u.h < s.h := by
          have h1 := hu.least s ov.lip.mem (by rw [← ht]; exact crosses_other ov.lip.cr)
          rcases Int.lt_or_eq_of_le h1 with h | h
          · exact h
          · exact absurd (ok.dist u s hu.mem ov.lip.mem h) hus
        refine ⟨by omega, ?_⟩
        have e1 : (st.vol t + (st.vol g - room B st.rep g s.h)) * u.h - st.vol t * u.h = (st.vol g - room B st.rep g s.h) * u.h := by rw [Int.add_mul]; omega
        have e2 : (st.vol g - room B st.rep g s.h) * u.h < (st.vol g - room B st.rep g s.h) * s.h := Int.mul_lt_mul_of_pos_left hlow (by omega)
        omega
  · rw [if_neg htn] at dF dP
    right
    omega

theorem step_acc (ok : B.Ok) : ∀ st, Good B st → Acc (fun b a => Step B a b) st := by
  have key : ∀ (c f p : Nat) (st : St), Good B st → (cnt B st).toNat = c → (free B st).toNat = f → (pot B st).toNat = p → Acc (fun b a => Step B a b) st := by
    intro c
    induction c using Nat.strongRecOn with
    | _ c ihc =>
      intro f
      induction f using Nat.strongRecOn with
      | _ f ihf =>
        intro p
        induction p using Nat.strongRecOn with
        | _ p ihp =>
          intro st gd hc hf hp
          refine ⟨_, fun st' h => ?_⟩
          have gd' := gd.step ok h
          cases h with
          | @merge g s ov m =>
            have hlt := cnt_merged (B := B) ov.root (ov.other_rep gd.iv) (other_ne ov.lip.cr) ov.lt (by have := other_le ok gd ov.lip; have := m.1; omega)
            have := @cnt_nonneg B (merged st g (other st.rep s g))
            exact ihc _ (by omega) _ _ _ gd' rfl rfl rfl
          | @move g s ov m =>
            have hcc : cnt B (mv B st g s) = cnt B st := rfl
            have h0 := @free_nonneg B (mv B st g s)
            rcases move_less ok gd ov m with h | ⟨h1, h2⟩
            · exact ihf _ (by unfold mv at h0 h; omega) _ _ gd' (by rw [← hc, ← hcc]; rfl) rfl rfl
            · by_cases e : free B (mv B st g s) < free B st
              · exact ihf _ (by unfold mv at h0 e; omega) _ _ gd' (by rw [← hc, ← hcc]; rfl) rfl rfl
              · have h3 := pot_nonneg ok gd'
                have h4 := pot_nonneg ok gd
                exact ihp (pot B (mv B st g s)).toNat (by unfold mv at h2 ⊢; omega) _ gd' (by rw [← hc, ← hcc]; rfl) (by rw [← hf]; congr 1; show free B (mv B st g s) = free B st; omega) rfl
  exact fun st gd => key _ _ _ st gd rfl rfl rfl
end

/-! ### One end -/
def Still (B : Bas) (st : St) : Prop := ∀ st', ¬ Step B st st'

theorem conf {B : Bas} (ok : B.Ok) {a : St} (ga : Good B a) : ∀ {b c : St}, Star (Step B) a b → Star (Step B) a c → Joins (Step B) b c := by
  have key : ∀ a, Acc (fun b a => Step B a b) a → Good B a → ∀ {b c : St}, Star (Step B) a b → Star (Step B) a c → Joins (Step B) b c := by
    intro a ha
    induction ha with
    | intro a _ ih =>
      intro ga b c hb hc
      cases hb with
      | refl => exact ⟨c, hc, .refl _⟩
      | head h1 t1 =>
        cases hc with
        | refl => exact ⟨b, .refl _, .head h1 t1⟩
        | head h2 t2 =>
          obtain ⟨d, d1, d2⟩ := local_conf ok ga h1 h2
          have g1 := ga.step ok h1
          have g2 := ga.step ok h2
          obtain ⟨e, e1, e2⟩ := ih _ h1 g1 t1 d1
          obtain ⟨f, f1, f2⟩ := ih _ h2 g2 t2 (d2.trans e2)
          exact ⟨f, e1.trans f2, f1⟩
  intro b c hb hc
  exact key a (step_acc ok a ga) ga hb hc

theorem Still.star {B : Bas} {a b : St} (h : Still B a) (s : Star (Step B) a b) : b = a := by
  cases s with
  | refl => rfl
  | head h1 _ => exact absurd h1 (h _)

theorem ends_same {B : Bas} (ok : B.Ok) {a b c : St} (ga : Good B a) (hb : Star (Step B) a b) (hc : Star (Step B) a c) (nb : Still B b) (nc : Still B c) : b = c := by
  obtain ⟨d, d1, d2⟩ := conf ok ga hb hc
  rw [← nb.star d1, nc.star d2]

theorem ends {B : Bas} (ok : B.Ok) {a : St} (ga : Good B a) : ∃ b, Star (Step B) a b ∧ Still B b := by
  have key : ∀ a, Acc (fun b a => Step B a b) a → ∃ b, Star (Step B) a b ∧ Still B b := by
    intro a ha
    induction ha with
    | intro a _ ih =>
      by_cases h : ∃ b, Step B a b
      · obtain ⟨b, hb⟩ := h
        obtain ⟨c, c1, c2⟩ := ih b hb
        exact ⟨c, .head hb c1, c2⟩
      · exact ⟨a, .refl _, fun b hb => h ⟨b, hb⟩⟩
  exact key a (step_acc ok a ga)

/-! ### How many steps there can be -/
def Bd (B : Bas) : Nat → St → Prop
  | 0, st => Still B st
  | k + 1, st => ∀ st', Step B st st' → Bd B k st'

theorem Bd.mono {B : Bas} : ∀ {k : Nat} {st : St}, Bd B k st → Bd B (k + 1) st
  | 0, st, h => fun st' hs => absurd hs (h st')
  | k + 1, st, h => fun st' hs => (h st' hs).mono

theorem Bd.le {B : Bas} {k m : Nat} {st : St} (h : Bd B k st) (hk : k ≤ m) : Bd B m st := by
  induction m with
  | zero => obtain rfl : k = 0 := by omega
            exact h
  | succ m ih =>
    by_cases e : k = m + 1
    · subst e; exact h
    · exact (ih (by omega)).mono

theorem step_at {B : Bas} (ok : B.Ok) {st a b : St} {g : Nat} {s s' : Sill} (o : Over B st g s) (o' : Over B st g s')
    (ha : (Meets B st (other st.rep s g) s ∧ a = merged st g (other st.rep s g)) ∨ (¬ Meets B st (other st.rep s g) s ∧ a = mv B st g s))
    (hb : (Meets B st (other st.rep s' g) s' ∧ b = merged st g (other st.rep s' g)) ∨ (¬ Meets B st (other st.rep s' g) s' ∧ b = mv B st g s')) : a = b := by
  have := over_eq ok o o'
  subst this
  rcases ha with ⟨m, rfl⟩ | ⟨m, rfl⟩ <;> rcases hb with ⟨m', rfl⟩ | ⟨m', rfl⟩
  · rfl
  · exact absurd m m'
  · exact absurd m' m
  · rfl

theorem bd_some {B : Bas} (ok : B.Ok) : ∀ st, Good B st → ∃ k, Bd B k st := by
  have key : ∀ a, Acc (fun b a => Step B a b) a → ∃ k, Bd B k a := by
    intro a ha
    induction ha with
    | intro a _ ih =>
      have upto : ∀ m, ∃ k, ∀ g s b, g < m → Over B a g s →
          ((Meets B a (other a.rep s g) s ∧ b = merged a g (other a.rep s g)) ∨ (¬ Meets B a (other a.rep s g) s ∧ b = mv B a g s)) → Bd B k b := by
        intro m
        induction m with
        | zero => exact ⟨0, fun g s b hg => by omega⟩
        | succ m ihm =>
          obtain ⟨k, hk⟩ := ihm
          by_cases h : ∃ s b, Over B a m s ∧ ((Meets B a (other a.rep s m) s ∧ b = merged a m (other a.rep s m)) ∨ (¬ Meets B a (other a.rep s m) s ∧ b = mv B a m s))
          · obtain ⟨s, b, o, hb⟩ := h
            have hst : Step B a b := by
              rcases hb with ⟨m', rfl⟩ | ⟨m', rfl⟩
              · exact .merge o m'
              · exact .move o m'
            obtain ⟨k', hk'⟩ := ih b hst
            refine ⟨max k k', fun g s' b' hg o' hb' => ?_⟩
            by_cases e : g = m
            · subst e
              rw [step_at ok o' o hb' hb]
              exact hk'.le (by omega)
            · exact (hk g s' b' (by omega) o' hb').le (by omega)
          · refine ⟨k, fun g s' b' hg o' hb' => ?_⟩
            by_cases e : g = m
            · subst e; exact absurd ⟨s', b', o', hb'⟩ h
            · exact hk g s' b' (by omega) o' hb'
      obtain ⟨k, hk⟩ := upto B.n
      refine ⟨k + 1, fun st' hs => ?_⟩
      obtain ⟨g, s, o, h⟩ := step_cases hs
      exact hk g s st' o.lt o h
  exact fun st gd => key st (step_acc ok st gd)

theorem least_nat {p : Nat → Prop} (h : ∃ k, p k) : ∃ k, p k ∧ ∀ m, p m → k ≤ m := by
  obtain ⟨k, hk⟩ := h
  induction k using Nat.strongRecOn with
  | _ k ih =>
    by_cases h : ∃ m, m < k ∧ p m
    · obtain ⟨m, hm, hp⟩ := h; exact ih m hm hp
    · exact ⟨k, hk, fun m hm => Nat.not_lt.1 fun hl => h ⟨m, hl, hm⟩⟩

open Classical in
/-- The greatest number of steps. -/
noncomputable def rank (B : Bas) (st : St) : Nat := if h : ∃ k, Bd B k st then Classical.choose (least_nat h) else 0

theorem rank_lt {B : Bas} (ok : B.Ok) {st st' : St} (gd : Good B st) (h : Step B st st') : rank B st' < rank B st := by
  have h1 := bd_some ok st gd
  have h2 := bd_some ok st' (gd.step ok h)
  unfold rank
  rw [dif_pos h1, dif_pos h2]
  have c1 := Classical.choose_spec (least_nat h1)
  have c2 := Classical.choose_spec (least_nat h2)
  revert c1 c2
  generalize Classical.choose (least_nat h1) = k
  generalize Classical.choose (least_nat h2) = m
  intro c1 c2
  cases k with
  | zero => exact absurd h (c1.1 st')
  | succ k => have := c2.2 k (c1.1 st' h); omega

theorem rank_star {B : Bas} (ok : B.Ok) {st st' : St} (gd : Good B st) (h : Star (Step B) st st') : rank B st' ≤ rank B st := by
  induction h with
  | refl => exact Nat.le_refl _
  | head h _ ih => have := rank_lt ok gd h; have := ih (gd.step ok h); omega

/-! ### More water -/
/-- x more in the group of node i. -/
def add (st : St) (i : Nat) (x : Int) : St := { rep := st.rep, vol := fun k => if k = st.rep i then st.vol k + x else st.vol k }

theorem St.rep_add (st : St) (i : Nat) (x : Int) : (add st i x).rep = st.rep := rfl

theorem Good.add {B : Bas} {st : St} (gd : Good B st) {i : Nat} {x : Int} (h : 0 ≤ x) : Good B (add st i x) := by
  refine ⟨⟨gd.iv.idem, gd.iv.le, gd.iv.sea, fun k hk => ?_, fun k => ?_⟩, gd.fl⟩
  · unfold Slu.add at hk ⊢
    dsimp only at hk ⊢
    rw [if_neg]
    · exact gd.iv.junk k hk
    · rintro rfl; exact hk (gd.iv.idem i)
  · have := gd.iv.nonneg k
    unfold Slu.add
    dsimp only
    split <;> omega

theorem step_add {B : Bas} (ok : B.Ok) {st st' : St} (gd : Good B st) {i : Nat} {x : Int} (hx : 0 ≤ x) (h : Step B st st') : Joins (Step B) (add st i x) (add st' i x) := by
  have ga := gd.add (i := i) hx
  obtain ⟨g, s, o, h⟩ := step_cases h
  have hov := o.over
  have hne := other_ne o.lip.cr
  have oa : Over B (add st i x) g s := by
    refine ⟨o.root, o.lt, o.lip, ?_⟩
    show room B st.rep g s.h < _
    unfold add
    dsimp only
    split <;> omega
  rcases h with ⟨m, rfl⟩ | ⟨m, rfl⟩
  · -- a merge stays one
    have ma : Meets B (add st i x) (other (add st i x).rep s g) s := by
      refine ⟨m.1, m.2.1, ?_⟩
      have := m.2.2
      show room B st.rep (other st.rep s g) s.h ≤ _
      unfold add
      dsimp only
      split <;> omega
    refine ⟨_, .one (.merge oa ma), ?_⟩
    have : merged (add st i x) g (other (add st i x).rep s g) = add (merged st g (other st.rep s g)) i x := by
      refine St.ext' (fun k => rfl) (fun k => ?_)
      show (merged (add st i x) g (other st.rep s g)).vol k = _
      generalize other st.rep s g = t at *
      have hr : (merged st g t).rep i = if st.rep i = max g t then min g t else st.rep i := rfl
      show _ = (if k = (merged st g t).rep i then (merged st g t).vol k + x else (merged st g t).vol k)
      rw [hr]
      unfold add merged
      dsimp only
      generalize st.rep i = r
      by_cases k1 : k = min g t
      · subst k1
        by_cases r1 : r = max g t
        · subst r1
          simp only [if_true]
          rcases max_min_of_ne (g := g) (t := t) with ⟨a, b⟩ | ⟨a, b⟩ <;> simp [a, hne, Ne.symm hne] <;> omega
        · simp only [r1, if_false, if_true]
          by_cases r2 : r = min g t
          · subst r2
            simp only [if_true]
            rcases max_min_of_ne (g := g) (t := t) with ⟨a, b⟩ | ⟨a, b⟩ <;> simp [b, hne, Ne.symm hne] <;> omega
          · rw [if_neg (show ¬ g = r by omega), if_neg (show ¬ t = r by omega), if_neg (Ne.symm r2)]
      · simp only [k1, if_false]
        by_cases k2 : k = max g t
        · subst k2
          simp only [if_true]
          by_cases r1 : r = max g t
          · subst r1; rw [if_pos rfl, if_neg k1]
          · rw [if_neg r1, if_neg (Ne.symm r1)]
        · simp only [k2, if_false]
          by_cases r1 : r = max g t
          · subst r1; rw [if_pos rfl, if_neg k2, if_neg k1]
          · rw [if_neg r1]
    rw [this]; exact .refl _
  · by_cases e : st.rep i = g
    · -- it is poured where it runs over
      by_cases x0 : x = 0
      · subst x0
        have z : ∀ u : St, add u i 0 = u := fun u => St.ext' (fun _ => rfl) (fun k => by unfold add; dsimp only; split <;> omega)
        rw [z, z]
        exact ⟨_, .one (.move o m), .refl _⟩
      have gb : Good B (mv B st g s) := gd.step ok (.move o m)
      have gc : Good B (add (mv B st g s) i x) := gb.add hx
      have ma : ¬ Meets B (add st i x) (other (add st i x).rep s g) s := by
        rintro ⟨h1, h2, h3⟩
        refine m ⟨h1, h2, ?_⟩
        have : (add st i x).vol (other st.rep s g) = st.vol (other st.rep s g) := by unfold add; dsimp only; rw [if_neg (by omega)]
        rw [← this]; exact h3
      have oc : Over B (add (mv B st g s) i x) g s := by
        refine ⟨o.root, o.lt, o.lip, ?_⟩
        show room B st.rep g s.h < _
        have : (add (mv B st g s) i x).vol g = room B st.rep g s.h + x := by
          show (if g = st.rep i then (mv B st g s).vol g + x else _) = _
          rw [if_pos e.symm]
          unfold mv
          rw [moved_vol_g]; omega
        omega
      obtain ⟨z, z1, z2⟩ := fire ok gc oc
      refine ⟨z, .head (.move oa ma) ?_, .one z1⟩
      have : moved (add st i x) g (other (add st i x).rep s g) ((add st i x).vol g - room B (add st i x).rep g s.h) = mv B (add (mv B st g s) i x) g s := by
        refine St.ext' (fun k => rfl) (fun k => ?_)
        show (moved (add st i x) g (other st.rep s g) ((add st i x).vol g - room B st.rep g s.h)).vol k = (moved (add (mv B st g s) i x) g (other st.rep s g) ((add (mv B st g s) i x).vol g - room B st.rep g s.h)).vol k
        have a1 : (add st i x).vol = fun k => if k = g then st.vol k + x else st.vol k := by unfold add; rw [e]
        have a2 : (add (mv B st g s) i x).vol = fun k => if k = g then (mv B st g s).vol k + x else (mv B st g s).vol k := by unfold add; rw [show (mv B st g s).rep = st.rep from rfl, e]
        have a3 : (mv B st g s).vol = fun k => if k = g then st.vol k - (st.vol g - room B st.rep g s.h) else if k = other st.rep s g then st.vol k + (st.vol g - room B st.rep g s.h) else st.vol k := rfl
        unfold moved
        dsimp only
        rw [a1, a2, a3]
        generalize other st.rep s g = t at *
        dsimp only
        by_cases k1 : k = g
        · subst k1; simp only [if_true]; omega
        · by_cases k2 : k = t
          · subst k2; simp only [k1, if_true, if_false]; omega
          · simp only [k1, k2, if_false]
      rw [this]; exact z2
    · obtain ⟨z, z1, z2⟩ := fire ok ga oa
      refine ⟨z, .one z1, ?_⟩
      have : add (mv B st g s) i x = mv B (add st i x) g s := by
        refine St.ext' (fun k => rfl) (fun k => ?_)
        show (if k = st.rep i then (mv B st g s).vol k + x else (mv B st g s).vol k) = (moved (add st i x) g (other st.rep s g) ((add st i x).vol g - room B st.rep g s.h)).vol k
        have a1 : (add st i x).vol g = st.vol g := by unfold add; dsimp only; rw [if_neg (Ne.symm e)]
        rw [a1]
        unfold mv moved add
        dsimp only
        generalize st.rep i = r at *
        by_cases k1 : k = g
        · subst k1; rw [if_neg (Ne.symm e), if_pos rfl, if_pos rfl, if_neg (Ne.symm e)]
        · rw [if_neg k1, if_neg k1]
          split <;> split <;> omega
      rw [this]; exact z2

/-- Where it ends doesn't hang on when water comes. -/
theorem star_add {B : Bas} (ok : B.Ok) {st st' : St} (gd : Good B st) {i : Nat} {x : Int} (hx : 0 ≤ x) (h : Star (Step B) st st') : Joins (Step B) (add st i x) (add st' i x) := by
  induction h with
  | refl => exact ⟨_, .refl _, .refl _⟩
  | head h1 _ ih =>
    obtain ⟨c, c1, c2⟩ := step_add ok gd hx h1 (i := i)
    obtain ⟨d, d1, d2⟩ := ih (gd.step ok h1)
    have gb := (gd.step ok h1).add (i := i) hx
    obtain ⟨e, e1, e2⟩ := conf ok gb c2 d1
    exact ⟨e, c1.trans e1, d2.trans e2⟩

/-- The end. -/
def Ends (B : Bas) (a b : St) : Prop := Star (Step B) a b ∧ Still B b

theorem Ends.unique {B : Bas} (ok : B.Ok) {a b c : St} (ga : Good B a) (h1 : Ends B a b) (h2 : Ends B a c) : b = c := ends_same ok ga h1.1 h2.1 h1.2 h2.2

theorem Ends.more {B : Bas} (ok : B.Ok) {a b c : St} (ga : Good B a) {i : Nat} {x : Int} (hx : 0 ≤ x) (h1 : Ends B a b) (h2 : Ends B (add b i x) c) : Ends B (add a i x) c := by
  obtain ⟨d, d1, d2⟩ := star_add ok ga hx h1.1 (i := i)
  have gb := (ga.star ok h1.1).add (i := i) hx
  obtain ⟨e, e1, e2⟩ := conf ok gb h2.1 d2
  have := h2.2.star e1
  subst this
  exact ⟨d1.trans e2, h2.2⟩

theorem add_add (st : St) (i j : Nat) (x y : Int) : add (add st i x) j y = add (add st j y) i x := by
  refine St.ext' (fun _ => rfl) (fun k => ?_)
  unfold add
  dsimp only
  split <;> split <;> omega

theorem add_same (st : St) (i : Nat) (x y : Int) : add (add st i x) i y = add st i (x + y) := by
  refine St.ext' (fun _ => rfl) (fun k => ?_)
  unfold add
  dsimp only
  split <;> omega
end Slu
