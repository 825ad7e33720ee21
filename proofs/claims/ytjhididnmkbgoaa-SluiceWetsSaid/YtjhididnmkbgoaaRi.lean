import Derived.Test.YtjhididnmkbgoaaRs
import Derived.RangeFuncNested
import Derived.RangeFuncBound
import Derived.RangeFuncCalls
import Derived.RangeFuncLeaves
import Derived.Shelf.Abstract
import Derived.Shelf.RegionOpen
import Derived.OwnWalkIn
import Derived.TacticsInMore
import Derived.LoopNIn
import Derived.LoopIn
set_option linter.unusedVariables false
set_option linter.unusedSimpArgs false
namespace Go.Proofs.Ytjhididnmkbgoaa
open Go.RowKit Go.Shelf
attribute [local go_sem] Oper.semAt_some
variable {q : Nat}

/-- Where the body of a loop may write: block Out; it moves to new blocks alone. -/
structure OutOk (w : World) (Out : World → Option Nat) : Prop where
  start : ∀ W, Below w.heap.size w W → Out W = none
  step : ∀ A B : World, w.heap.size ≤ A.heap.size → Below A.heap.size A B → Out B = Out A
  put : ∀ (W : World) (l : Nat) (o' : Obj), w.heap.size ≤ l → Out (W.putObj l o') = Out W

theorem outNone (w : World) : OutOk w (fun _ => none) := ⟨fun _ _ => rfl, fun _ _ _ _ => rfl, fun _ _ _ _ => rfl⟩

/-- What a round keeps. -/
structure KpB (n0 : Nat) (Out : World → Option Nat) (A B : World) : Prop where
  size : A.heap.size ≤ B.heap.size
  out : Out B = Out A ∨ ∃ b, Out B = some b ∧ A.heap.size ≤ b
  keep : ∀ b o, n0 ≤ b → A.heap[b]? = some o → o.isCells = true → some b ≠ Out A → B.heap[b]? = some o

theorem KpB.trans {n0 : Nat} {Out : World → Option Nat} {A B C : World} (h : KpB n0 Out A B) (k : KpB n0 Out B C) : KpB n0 Out A C := by
  refine ⟨Nat.le_trans h.size k.size, ?_, fun b o hb ho hc hne => ?_⟩
  · rcases k.out with e | ⟨b, e, hb⟩
    · rcases h.out with e' | ⟨b, e', hb⟩
      · exact .inl (e.trans e')
      · exact .inr ⟨b, e.trans e', hb⟩
    · exact .inr ⟨b, e, Nat.le_trans h.size hb⟩
  · refine k.keep b o hb (h.keep b o hb ho hc hne) hc ?_
    have hlt : b < A.heap.size := (Array.getElem?_eq_some_iff.1 ho).1
    rcases h.out with e | ⟨b', e, hb'⟩
    · rw [e]; exact hne
    · rw [e]; intro e'; cases e'; omega

theorem KpB.put {w : World} {Out : World → Option Nat} (ok : OutOk w Out) (W : World) (l : Nat) (o o' : Obj) (hl : w.heap.size ≤ l) (h : W.heap[l]? = some o) (hc : o.isCells = false) (_ : o.isWalk = false) : KpB w.heap.size Out W (W.putObj l o') := by
  refine ⟨by have := (grownBy_putObj' W l o').size; exact this, .inl (ok.put W l o' hl), fun b ob hb hob hcb hne => ?_⟩
  refine ((grownBy_putObj' W l o').block b (Array.getElem?_eq_some_iff.1 hob).1 (fun e => ?_)).trans hob
  cases e
  rw [h] at hob
  cases hob
  rw [hc] at hcb
  cases hcb

/-- A body that only makes new blocks. -/
theorem KpB.of_below {w A B : World} {Out : World → Option Nat} (ok : OutOk w Out) (hA : w.heap.size ≤ A.heap.size) (h : Below A.heap.size A B) : KpB w.heap.size Out A B :=
  ⟨h.size, .inl (ok.step A B hA h), fun b o hb ho hc hne => (h.block b (Array.getElem?_eq_some_iff.1 ho).1).trans ho⟩

def SB (d : Array (BQ q)) (xs : List (BQ q)) : Prop := xs.Perm d.toList ∧ Rise xs
def SBp (d : Array (BQ q)) (pre : List (BQ q)) : Prop := ∃ xs, SB d xs ∧ pre <+: xs

theorem cells_of_cell {w : World} {a : Addr} {v : Value} (h : w.cell? a = some v) : ∃ o, w.heap[a.block]? = some o ∧ o.isCells = true := by
  unfold World.cell? at h
  split at h
  · rename_i c t f e
    exact ⟨_, e, rfl⟩
  · cases h

theorem take_snoc (l : List (BQ q)) (k : Nat) (h : k < l.length) : l.take (k + 1) = l.take k ++ [l[k]!] := by
  rw [List.take_succ_eq_append_getElem h, getElem!_pos l k h]


/-- The row behind the sort: where it lies. -/
def RowAt (w : World) (base : Nat) (a : Option Addr) (d : Array (BQ q)) : Prop := 0 < d.size → ∃ g o, a = some ⟨g, 0, none⟩ ∧ base ≤ g ∧ w.heap[g]? = some o ∧ o.isCells = true ∧ Row3 w g d.size (AB d) (BB d) (HB d)

/-- What the sort leaves. -/
def Sorted68 (w : World) (base : Nat) (u : Value) (d : Array (BQ q)) (e : Ending) (w' : World) : Prop :=
  e = .returned (.tuple #[]) ∧ ∃ (d' : Array (BQ q)) (a : Option Addr) (cap : Nat), u = .slice a d.size cap ∧ d.size ≤ cap ∧ d'.size = d.size ∧ SB d d'.toList ∧ RowAt w' base a d' ∧ w.grownBy w' u.ownBlock ∧ Below base w w'

theorem sort68_all (w : World) (base : Nat) (u : Value) (d : Array (BQ q)) (hd : d.size ≤ 1000) (hbase : base ≤ w.heap.size) (h : OwT w base u d.size (AB d) (BB d) (HB d)) :
    Calls Try.prog 68 #[u, .func (.func 84) #[] #[]] w fun e w' => Sorted68 w base u d e w' := by
  rcases Nat.eq_zero_or_pos d.size with h0 | h0
  · obtain ⟨a, cap, hu, hl, _⟩ := h.reads (by omega)
    subst hu
    have hc := sort68_none w a cap (.func (.func 84) #[] #[])
    have e0 : d = #[] := Array.eq_empty_of_size_eq_zero h0
    rw [h0]
    refine hc.mono ?_
    rintro e w' ⟨rfl, rfl⟩
    refine ⟨rfl, d, a, cap, by rw [h0], hl.2, rfl, ⟨List.Perm.refl _, fun i j hij hj => ?_⟩, fun hp => by omega, World.grownBy.refl _ _, Below.refl _ _⟩
    rw [e0] at hj; simp at hj
  · obtain ⟨g, cap, rfl⟩ : ∃ g cap, u = .slice (some ⟨g, 0, none⟩) d.size cap := by
      obtain ⟨q', hq⟩ : ∃ q', d.size = q' + 1 := ⟨d.size - 1, by omega⟩
      rw [hq] at h
      rw [hq]
      exact own_form h
    obtain ⟨a, cap', hu, hl, _⟩ := h.reads (by omega)
    cases hu
    have hlt := h.lt g rfl
    refine (sort68_any w base g cap d hd h).mono ?_
    rintro e w' ⟨rfl, d', hs, hp, hr, hrow, hg⟩
    refine ⟨rfl, d', _, cap, rfl, hl.2, hs, ⟨hp, hr⟩, fun _ => ?_, hg, (Below.refl _ _).grown hg hbase (fun k e => by cases e; exact hlt.1)⟩
    obtain ⟨o, ho, hoc⟩ := cells_of_cell (hrow 0 (by omega)).1
    exact ⟨g, o, rfl, hlt.1, ho, hoc, hrow⟩

theorem RowAt.below {w w' : World} {base : Nat} {a : Option Addr} {d : Array (BQ q)} (h : RowAt w base a d) (hb : Below w.heap.size w w') : RowAt w' base a d := fun h0 => by
  obtain ⟨g, o, e, hg, ho, hc, hr⟩ := h h0
  exact ⟨g, o, e, hg, (hb.block g (Array.getElem?_eq_some_iff.1 ho).1).trans ho, hc, fun k hk => ⟨cell_up hb (hr k hk).1, cell_up hb (hr k hk).2.1, cell_up hb (hr k hk).2.2⟩⟩

theorem RowAt.kp {w w' : World} {base n0 : Nat} {Out : World → Option Nat} {a : Option Addr} {d : Array (BQ q)} (h : RowAt w base a d) (hn : n0 ≤ base) (hk : KpB n0 Out w w') (hne : ∀ g, a = some ⟨g, 0, none⟩ → some g ≠ Out w) : RowAt w' base a d := fun h0 => by
  obtain ⟨g, o, e, hg, ho, hc, hr⟩ := h h0
  have hs := hk.keep g o (Nat.le_trans hn hg) ho hc (hne g e)
  have hc2 : ∀ j, w'.cell? ⟨g, j, none⟩ = w.cell? ⟨g, j, none⟩ := fun j => World.cell?_of_block (hs.trans ho.symm)
  exact ⟨g, o, e, hg, hs, hc, fun k hk => by rw [hc2, hc2, hc2]; exact hr k hk⟩
set_option maxRecDepth 100000 in
set_option maxHeartbeats 2000000 in
theorem rising82_stops (n : Nat) (hn : 1 ≤ n) (w : World) (Bb : Nat) (va vf vs : Value) (d : Array (BQ q)) (hd : d.size ≤ 1000) (hb : Blk w Bb #[va, vf, vs] 25) (hS : RdT w vs d.size (AB d) (BB d) (HB d)) (Out : World → Option Nat) (ok : OutOk w Out) :
    SeqStopsK Fence.wide n Try.prog 82 #[.pointer (some ⟨Bb, 0, none⟩)] (fun x : (BQ q) => #[.agg (encB x).toArray]) (KpB w.heap.size Out) (SB d) (SBp d) d.size w := by
  intro l J Jx W hW hJ hJx hY h0
  have c2 := (hb.below hW).cell 2 rfl
  have hS1 := hS.below hW
  obtain ⟨V, cs, rfl, ls, rs⟩ := id hS1
  clear rs hS hb
  refine callsIn_of_wp Try.func82 rfl trivial ?_ rfl
  simp only [Try.ntmps82, List.size_toArray, List.length_cons, List.length_nil, Nat.reduceAdd, Nat.reduceSub, Array.replicate_succ, Array.replicate_zero, List.push_toArray, List.append_toArray, List.nil_append, List.cons_append]
  gi_wp2_with (refine ⟨trivial, ?_⟩; gi_at_call 83; refine (callsIn_wide.2 (clone83_any _ _ d.size (AB d) (BB d) (HB d) hS1 hd)).mono ?_; rintro e w1 ⟨u, rfl, hu, hb1⟩)
  refine ⟨trivial, ?_⟩
  gi_at_call 68
  refine (callsIn_wide.2 (sort68_all _ _ u d hd hb1.size hu)).mono ?_
  rintro e w2 ⟨rfl, d', a, cap, rfl, hcap, hsz, hSB, hrow, hg, hb2⟩
  have hB := hb1.trans hb2
  have hJ2 : J [] w2 := hJ _ _ _ none h0 (grown_below hB none) (by simp)
  have hO2 : ∀ g, a = some ⟨g, 0, none⟩ → some g ≠ Out w2 := fun g _ => by
    rw [ok.start w2 (hW.trans (hB.mono hW.size))]; simp
  have hw2 : W.heap.size ≤ w2.heap.size := hB.size
  have hW0 := hW.size
  have HSB := Lib.hid hSB
  have HSZ := Lib.hid hsz
  rw [← hsz]
  rw [← hsz] at hcap hY
  have hd' : d'.size ≤ 1000 := by omega
  clear hsz hSB hB hb1 hb2 hg hu hS1 ls c2 h0 hcap hd
  gi_wp2_with fail
  gi_loopw [13] (fun i wr => ∃ k : Nat, k ≤ d'.size ∧ i = .int .i64 k ∧ J (d'.toList.take k) wr ∧ RowAt wr W.heap.size a d' ∧ (∀ g, a = some ⟨g, 0, none⟩ → some g ≠ Out wr) ∧ W.heap.size ≤ wr.heap.size) (fun i _ => d'.size - (intOf i).toNat)
  case atStart => exact ⟨0, by omega, rfl, hJ2, hrow, hO2, hw2⟩
  case round =>
    obtain ⟨k, hk, rfl, hJk, hrow, hO, hsw⟩ := hrel
    clear hJ2 hO2 hw2
    by_cases hlt : k < d'.size
    · obtain ⟨g, o, rfl, hg, ho, hoc, hr⟩ := hrow (by omega)
      obtain ⟨r0, r1, r2⟩ := hr k hlt
      have HR := Lib.hid hrow
      have HO := Lib.hid hO
      have hWJ : J (d'.toList.take k) (wr.alloc (.cells (encB d'[k]!).toArray 75)) := hJ _ _ _ none hJk (World.grownBy_alloc _ _ none) (by simp)
      obtain ⟨fn, tmps, assign, body, hy, hR⟩ := hY (d'.toList.take k) d'[k]! _ hWJ (by simp; omega)
      clear hr hrow hO ho
      replace hy : (Instr.yield l #[.agg #[.int .i64 (AB d' k), .int .i64 (BB d' k), .int .i64 (HB d' k)]]).run Try.prog (wr.alloc (.cells #[.int .i64 (AB d' k), .int .i64 (BB d' k), .int .i64 (HB d' k)] 75)) = .ok (.round l fn tmps assign body) (wr.alloc (.cells #[.int .i64 (AB d' k), .int .i64 (BB d' k), .int .i64 (HB d' k)] 75)) := hy
      have HT := Lib.hid (take_snoc d'.toList k (by simpa using hlt))
      rw [Array.getElem!_toList] at HT
      gi_wp2_with fail
      refine hR.mono ?_
      rintro e W3 (⟨rfl, hJ3, hk3⟩ | ⟨rfl, hJx3⟩)
      · gi_wp2_with fail
        go_roundw
        case rel =>
          have hb3 : Below wr.heap.size wr (wr.alloc (.cells (encB d'[k]!).toArray 75)) := (Below.refl _ _).alloc (Nat.le_refl _) _
          have e3 := ok.step wr _ (by omega) hb3
          refine ⟨k + 1, by omega, by go_num, by rw [HT.out]; exact hJ3, (HR.out.below hb3).kp (by omega) hk3 (fun g hg => by rw [e3]; exact HO.out g hg), fun g' hg' => ?_, by have := hk3.size; simp at this; omega⟩
          rcases hk3.out with e4 | ⟨b, e4, hb⟩
          · rw [e4, e3]; exact HO.out g' hg'
          · rw [e4]; intro e5; cases e5
            obtain ⟨g2, o2, e6, _, ho2, _⟩ := HR.out (by omega)
            rw [e6] at hg'
            cases hg'
            have := (Array.getElem?_eq_some_iff.1 ho2).1
            simp at hb
            omega
        case measure => simp [intOf]; omega
      · gi_wp2_with fail
        refine bodyPost_ret (results_none rfl _ _ _) rfl ?_
        exact ⟨⟨_, rfl⟩, .inr ⟨_, ⟨d'.toList, HSB.out, by rw [← HT.out]; exact List.take_prefix _ _⟩, hJx3⟩⟩
    · obtain rfl : k = d'.size := by omega
      gi_wp2_with fail
      go_end0
      refine ⟨⟨_, rfl⟩, .inl ⟨d'.toList, HSB.out, ?_⟩⟩
      rw [List.take_of_length_le (by simp)] at hJk
      exact hJk
end Go.Proofs.Ytjhididnmkbgoaa
