/-
  What the program's pouring does to the plain states.
-/
import Derived.Test.YtjhididnmkbgoaaSt
import Derived.Test.YtjhididnmkbgoaaWf
set_option linter.unusedVariables false
set_option linter.unusedSimpArgs false
namespace Go.Proofs.Ytjhididnmkbgoaa
open Slu

section
variable {B : Bas} {st : St}

theorem over_of_still (h : Still B st) (g : Nat) (s : Sill) : ¬ Over B st g s := fun o => by
  by_cases m : Meets B st (other st.rep s g) s
  · exact h _ (.merge o m)
  · exact h _ (.move o m)

theorem room_lt (ok : B.Ok) {rep : Nat → Nat} {g : Nat} (hg : g < B.n) (hr : rep g = g) {h h' : Int} (hlt : h < h') : room B rep g h < room B rep g h' := by
  unfold room
  refine sumN_lt (fun i hi => ?_) g hg ?_
  · by_cases e : rep i = g
    · rw [if_pos e, if_pos e]
      exact Int.mul_le_mul_of_nonneg_left (by omega) (by have := ok.area i hi; omega)
    · rw [if_neg e, if_neg e]; exact Int.le_refl _
  · rw [if_pos hr, if_pos hr]
    have := ok.area g hg
    exact Int.mul_lt_mul_of_pos_left (by omega) (by omega)

theorem add_vol_at (st : St) (i : Nat) (x : Int) : (add st i x).vol (st.rep i) = st.vol (st.rep i) + x := by unfold add; dsimp only; rw [if_pos rfl]
theorem add_vol_ne (st : St) (i : Nat) (x : Int) {k : Nat} (h : k ≠ st.rep i) : (add st i x).vol k = st.vol k := by unfold add; dsimp only; rw [if_neg h]

/-- Water that a pool has room for. -/
theorem still_add (h : Still B st) {i : Nat} {x : Int} (hx : st.rep i < B.n → ∀ s, IsLip B st.rep (st.rep i) s → st.vol (st.rep i) + x ≤ room B st.rep (st.rep i) s.h) : Still B (add st i x) := by
  refine still_of fun g s o => ?_
  have hov := o.over
  by_cases e : g = st.rep i
  · subst e
    have := hx o.lt s o.lip
    rw [add_vol_at] at hov
    have h2 : room B (add st i x).rep (st.rep i) s.h = room B st.rep (st.rep i) s.h := rfl
    omega
  · rw [add_vol_ne st i x e] at hov
    exact over_of_still h g s ⟨o.root, o.lt, o.lip, hov⟩

theorem ends_step {a b c : St} (h : Step B a b) (k : Slu.Ends B b c) : Slu.Ends B a c := ⟨.head h k.1, k.2⟩

/-- What runs over is poured on the other side. -/
theorem move_eq {i t : Nat} {s : Sill} {amount stays rest : Int} (hs : stays = room B st.rep (st.rep i) s.h - st.vol (st.rep i)) (ha : amount = stays + rest) (ht : st.rep t = other st.rep s (st.rep i)) (hne : other st.rep s (st.rep i) ≠ st.rep i) :
    mv B (add st i amount) (st.rep i) s = add (add st i stays) t rest := by
  refine St.ext' (fun _ => rfl) (fun k => ?_)
  unfold mv
  show (moved (add st i amount) (st.rep i) (other st.rep s (st.rep i)) ((add st i amount).vol (st.rep i) - room B st.rep (st.rep i) s.h)).vol k = _
  rw [add_vol_at]
  unfold moved
  dsimp only
  show _ = (if k = st.rep t then (add st i stays).vol k + rest else (add st i stays).vol k)
  rw [ht]
  by_cases k1 : k = st.rep i
  · subst k1
    rw [if_pos rfl, if_neg (Ne.symm hne), add_vol_at, add_vol_at]
    omega
  · rw [if_neg k1, add_vol_ne st i amount k1, add_vol_ne st i stays k1]
    by_cases k2 : k = other st.rep s (st.rep i)
    · rw [if_pos k2, if_pos k2]; omega
    · rw [if_neg k2, if_neg k2]

theorem merge_eq {i t : Nat} {amount stays rest : Int} (ha : amount = stays + rest) (idem : ∀ i, st.rep (st.rep i) = st.rep i) (hne : t ≠ st.rep i) :
    merged (add st i amount) (st.rep i) t = add (merged (add st i stays) (st.rep i) t) i rest := by
  refine St.ext' (fun _ => rfl) (fun k => ?_)
  have hr : (merged (add st i stays) (st.rep i) t).rep i = min (st.rep i) t := by
    show (if st.rep i = max (st.rep i) t then min (st.rep i) t else st.rep i) = _
    split <;> omega
  show _ = (if k = (merged (add st i stays) (st.rep i) t).rep i then (merged (add st i stays) (st.rep i) t).vol k + rest else (merged (add st i stays) (st.rep i) t).vol k)
  rw [hr]
  show (if k = min (st.rep i) t then (add st i amount).vol (st.rep i) + (add st i amount).vol t else if k = max (st.rep i) t then 0 else (add st i amount).vol k) = _
  have e2 : (merged (add st i stays) (st.rep i) t).vol k = if k = min (st.rep i) t then (add st i stays).vol (st.rep i) + (add st i stays).vol t else if k = max (st.rep i) t then 0 else (add st i stays).vol k := rfl
  rw [e2, add_vol_at, add_vol_at, add_vol_ne st i amount hne, add_vol_ne st i stays hne]
  by_cases k1 : k = min (st.rep i) t
  · rw [if_pos k1, if_pos k1, if_pos k1]; omega
  · rw [if_neg k1, if_neg k1, if_neg k1]
    by_cases k2 : k = max (st.rep i) t
    · rw [if_pos k2, if_pos k2]
    · rw [if_neg k2, if_neg k2]
      by_cases k3 : k = st.rep i
      · omega
      · rw [add_vol_ne st i amount k3, add_vol_ne st i stays k3]

/-- A full neighbour's lip is the sill. -/
theorem full_lip (ok : B.Ok) (h : Still B st) {g : Nat} {s : Sill} (hs : IsLip B st.rep g s) (iv : Inv B st) {t : Nat} (ht : other st.rep s g = t) (htn : t < B.n) (hf : room B st.rep t s.h ≤ st.vol t) :
    IsLip B st.rep t s ∧ st.vol t = room B st.rep t s.h := by
  have hc : crosses st.rep s t := by rw [← ht]; exact crosses_other hs.cr
  have hr : st.rep t = t := crosses_rep iv.idem hc
  cases e : lipOf B st.rep t with
  | none => exact absurd hc (lipOf_none e hs.mem)
  | some u =>
    have hu := lipOf_some e
    have hle := hu.least s hs.mem hc
    have hno := over_of_still h t u
    have hvol : st.vol t ≤ room B st.rep t u.h := by
      rcases Int.lt_or_le (room B st.rep t u.h) (st.vol t) with hlt | hle
      · exact absurd ⟨hr, htn, hu, hlt⟩ hno
      · exact hle
    have heq : u.h = s.h := by
      rcases Int.lt_or_le u.h s.h with hlt | h2
      · have := room_lt ok htn hr hlt; omega
      · omega
    have hus : u = s := ok.dist u s hu.mem hs.mem heq
    subst hus
    exact ⟨hu, by omega⟩

/-- Two pools that stand at the sill. -/
theorem still_merged (ok : B.Ok) (gd : Slu.Good B st) (h : Still B st) {g t : Nat} {s : Sill} (hg : st.rep g = g) (hgn : g < B.n) (ht : st.rep t = t) (htn : t < B.n) (hs : IsLip B st.rep g s) (hst : IsLip B st.rep t s) (hgt : g ≠ t)
    (h1 : st.vol g = room B st.rep g s.h) (h2 : st.vol t = room B st.rep t s.h) : Still B (merged st g t) := by
  refine still_of fun k u o => ?_
  by_cases k1 : k = min g t
  · subst k1
    have hlt := merged_lip_min ok hg ht hs hst hgt o.lip
    have hroom : ∀ x, room B (merged st g t).rep (min g t) x = room B st.rep g x + room B st.rep t x := by
      intro x
      unfold room
      rw [← sumN_add]
      apply sumN_congr
      intro i _
      have := merged_rep_min (st := st) hg ht i
      by_cases a : st.rep i = g
      · rw [if_pos (this.2 (.inl a)), if_pos a, if_neg (by omega)]; omega
      · by_cases b : st.rep i = t
        · rw [if_pos (this.2 (.inr b)), if_neg a, if_pos b]; omega
        · rw [if_neg (fun e => by rcases this.1 e with x | x; exact a x; exact b x), if_neg a, if_neg b]; omega
    have hvol : (merged st g t).vol (min g t) = st.vol g + st.vol t := by unfold merged; dsimp only; rw [if_pos rfl]
    have hov := o.over
    rw [hvol, h1, h2, hroom] at hov
    have a1 := room_lt ok hgn hg hlt
    have a2 := room_lt ok htn ht hlt
    omega
  · by_cases k2 : k = max g t
    · have := o.root
      rw [k2] at this
      unfold merged at this
      dsimp only at this
      have hm : st.rep (max g t) = max g t := by rcases max_min_of_ne (g := g) (t := t) with ⟨x, _⟩ | ⟨x, _⟩ <;> rw [x] <;> assumption
      rw [if_pos hm] at this
      omega
    · have hkg : k ≠ g := by omega
      have hkt : k ≠ t := by omega
      have hov := o.over
      rw [merged_room hkg hkt, merged_vol hkg hkt] at hov
      exact over_of_still h k u ⟨(merged_rep_other hkg hkt k).1 o.root, o.lt, (merged_lip hkg hkt u).1 o.lip, hov⟩
end

theorem rootN_join {p : Nat → Nat} (hp : ∀ k, p k ≤ k) {a c : Nat} (hac : a < c) (ha : p a = a) (hc : p c = c) :
    ∀ k i, i < k → rootN k (fun j => if j = c then a else p j) i = if rootN k p i = c then a else rootN k p i := by
  intro k
  induction k with
  | zero => intro i hi; omega
  | succ k ih =>
    intro i hi
    have ea : ∀ q, rootN q (fun j => if j = c then a else p j) a = a := fun q => rootN_fix _ a (by show (if a = c then a else p a) = a; rw [if_neg (by omega), ha]) q
    by_cases e : i = c
    · subst e
      rw [rootN_fix p i hc, if_pos rfl]
      rw [rootN]
      show (if (if i = i then a else p i) = i then i else rootN k _ (if i = i then a else p i)) = a
      rw [if_pos rfl, if_neg (by omega)]
      exact ea k
    · rw [rootN, rootN]
      show (if (if i = c then a else p i) = i then i else rootN k _ (if i = c then a else p i)) = _
      rw [if_neg e]
      by_cases f : p i = i
      · rw [if_pos f, if_pos f, if_neg e]
      · rw [if_neg f, if_neg f]
        exact ih (p i) (by have := hp i; omega)

/-- The state's memory tells a plain state. -/
structure PS (n : Nat) (p : Nat → Nat) (s : Nat → Int) (lost : Int) (st : St) : Prop where
  le : ∀ k, p k ≤ k
  hi : ∀ k, 9 ≤ k → p k = k
  rep : ∀ i, st.rep i = rootN 9 p i
  vol : ∀ i, i < n → st.rep i = i → s i = st.vol i
  lost : lost = st.vol n
  bd : ∀ k, 0 ≤ s k ∧ s k ≤ 16000000

theorem PS.repf {n : Nat} {p : Nat → Nat} {s : Nat → Int} {lost : Int} {st : St} (h : PS n p s lost st) : st.rep = rootN 9 p := funext h.rep

theorem root_fix {p : Nat → Nat} (hp : ∀ k, p k ≤ k) : ∀ k i, i < k → p (rootN k p i) = rootN k p i := by
  intro k
  induction k with
  | zero => intro i hi; omega
  | succ k ih =>
    intro i hi
    rw [rootN]
    split
    · assumption
    · exact ih (p i) (by have := hp i; omega)

theorem PS.fix {n : Nat} {p : Nat → Nat} {s : Nat → Int} {lost : Int} {st : St} (h : PS n p s lost st) {g : Nat} (hg : st.rep g = g) : p g = g := by
  rcases Nat.lt_or_ge g 9 with h9 | h9
  · have := root_fix h.le 9 g h9
    rw [← h.rep, hg] at this
    exact this
  · exact h.hi g h9

theorem PS.addroot {n : Nat} {p : Nat → Nat} {s : Nat → Int} {lost : Int} {st : St} (h : PS n p s lost st) {i : Nat} {x : Int} (hn : st.rep i ≠ n) (hb : 0 ≤ s (st.rep i) + x ∧ s (st.rep i) + x ≤ 16000000) :
    PS n p (fun k => if k = st.rep i then s (st.rep i) + x else s k) lost (add st i x) := by
  refine ⟨h.le, h.hi, h.rep, fun k hk hr => ?_, ?_, fun k => ?_⟩
  · have hr' : st.rep k = k := hr
    have := h.vol k hk hr'
    by_cases e : k = st.rep i
    · subst e; rw [if_pos rfl, add_vol_at, this]
    · rw [if_neg e, add_vol_ne st i x e, this]
  · rw [add_vol_ne st i x (Ne.symm hn)]; exact h.lost
  · have := h.bd k
    split <;> omega

theorem PS.addsea {n : Nat} {p : Nat → Nat} {s : Nat → Int} {lost : Int} {st : St} (h : PS n p s lost st) {x : Int} (hn : st.rep n = n) : PS n p s (lost + x) (add st n x) := by
  refine ⟨h.le, h.hi, h.rep, fun k hk hr => ?_, ?_, h.bd⟩
  · have hr' : st.rep k = k := hr
    rw [add_vol_ne st n x (by omega)]; exact h.vol k hk hr'
  · have := add_vol_at st n x
    rw [hn] at this
    rw [this, h.lost]

theorem PS.merge {n : Nat} {p : Nat → Nat} {s : Nat → Int} {lost : Int} {st : St} (h : PS n p s lost st) {g t : Nat} (hg : st.rep g = g) (ht : st.rep t = t) (hgt : g ≠ t) (hgn : g < n) (htn : t < n) (hn8 : n ≤ 8) (idem : ∀ i, st.rep (st.rep i) = st.rep i) (hb : s g + s t ≤ 16000000) :
    PS n (fun i => if i = max g t then min g t else p i) (fun i => if i = min g t then s g + s t else s i) lost (merged st g t) := by
  have fg := h.fix hg
  have ft := h.fix ht
  refine ⟨fun k => ?_, fun k hk => ?_, fun i => ?_, fun k hk hr => ?_, ?_, fun k => ?_⟩
  · have := h.le k; split <;> omega
  · rw [if_neg (by omega)]; exact h.hi k hk
  · have e : (merged st g t).rep i = if st.rep i = max g t then min g t else st.rep i := rfl
    rw [e, h.rep]
    rcases Nat.lt_or_ge i 9 with h9 | h9
    · refine (rootN_join h.le (a := min g t) (c := max g t) (by omega) ?_ ?_ 9 i h9).symm
      · rcases max_min_of_ne (g := g) (t := t) with ⟨_, x⟩ | ⟨_, x⟩ <;> rw [x] <;> assumption
      · rcases max_min_of_ne (g := g) (t := t) with ⟨x, _⟩ | ⟨x, _⟩ <;> rw [x] <;> assumption
    · have e1 : rootN 9 p i = i := rootN_fix p i (h.hi i h9) 9
      have e2 : rootN 9 (fun j => if j = max g t then min g t else p j) i = i := rootN_fix _ i (by show (if i = max g t then min g t else p i) = i; rw [if_neg (by omega)]; exact h.hi i h9) 9
      rw [e1, e2, if_neg (by omega)]
  · have h1 := merged_rep_root idem hg ht (Ne.symm hgt) hr
    by_cases e : k = min g t
    · rw [if_pos e, e]
      unfold merged; dsimp only; rw [if_pos rfl, h.vol g hgn hg, h.vol t htn ht]
    · rw [if_neg e, h.vol k hk h1.1]
      unfold merged; dsimp only; rw [if_neg e, if_neg h1.2]
  · rw [merged_vol (by omega) (by omega)]; exact h.lost
  · have a := h.bd k
    have b := h.bd g
    have c := h.bd t
    split <;> omega
end Go.Proofs.Ytjhididnmkbgoaa
