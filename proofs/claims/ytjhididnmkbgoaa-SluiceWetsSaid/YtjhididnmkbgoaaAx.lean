import Derived.Test.YtjhididnmkbgoaaAw
import Derived.Test.YtjhididnmkbgoaaMo
set_option linter.unusedVariables false
set_option linter.unusedSimpArgs false
namespace Go.Proofs.Ytjhididnmkbgoaa
open Go.RowKit

set_option maxRecDepth 100000 in
theorem check47_empty (w : World) : Calls Try.prog 47 #[.agg #[.slice none 0 0, .slice none 0 0, .slice none 0 0]] w fun e w' => e = .returned (.int .i64 90) ∧ Below w.heap.size w w' := by
  go_enter Try.func47, Try.ntmps47
  go_upto_region 1 with (fail)
  refine wp_world fun W hW => ?_
  have hB : Below w.heap.size w W := by rw [hW]; exact (Below.refl _ _).alloc (Nat.le_refl _) _
  have k1 : Blk W w.heap.size #[.slice none 0 0, .slice none 0 0, .slice none 0 0] 25 := by rw [hW]; exact Blk.new _ _ _
  clear hW
  have c0 := k1.cell 0 rfl
  go_wp2
  go_ret
  exact ⟨rfl, hB⟩

theorem rdI_blk {w : World} {b : Nat} {l : List Int} {f : Nat → Int} {n : Nat} (h : Blk w b (l.map (Value.int .i64)).toArray 3) (hl : l.length = n) (hn : n ≤ 1000) (hf : ∀ k, k < n → l[k]! = f k) : RdI w (.slice (some ⟨b, 0, none⟩) n n) n f := by
  subst hl
  exact ⟨_, _, rfl, by omega, fun k hk => ⟨b, 0, rfl, by
    rw [Nat.zero_add]
    refine h.cell k ?_
    rw [← hf k hk, getElem!_pos l k hk]
    simp [hk]⟩⟩

theorem rdP_blk {w : World} {b : Nat} {l : List Int} {A B : Nat → Int} {m : Nat} (h : Blk w b (l.map (Value.int .i64)).toArray 47) (hl : l.length = m * 2) (hm : m ≤ 1000) (hf : ∀ k, k < m → l[k * 2]! = A k ∧ l[k * 2 + 1]! = B k) : RdP w (.slice (some ⟨b, 0, none⟩) m m) m A B := by
  have key : ∀ i, i < l.length → w.cell? ⟨b, 0 + i, none⟩ = some (.int .i64 l[i]!) := fun i hi => by
    rw [Nat.zero_add]
    refine h.cell i ?_
    rw [getElem!_pos l i hi]
    simp [hi]
  refine ⟨_, _, rfl, by omega, fun k hk => ⟨b, 0, rfl, ?_, ?_⟩⟩
  · rw [← (hf k hk).1]; exact key _ (by omega)
  · rw [← (hf k hk).2]; exact key (k * 2 + 1) (by omega)

theorem rdT_blk {w : World} {b : Nat} {l : List Int} {A B H : Nat → Int} {m : Nat} (h : Blk w b (l.map (Value.int .i64)).toArray 75) (hl : l.length = m * 3) (hm : m ≤ 1000) (hf : ∀ k, k < m → l[k * 3]! = A k ∧ l[k * 3 + 1]! = B k ∧ l[k * 3 + 2]! = H k) : RdT w (.slice (some ⟨b, 0, none⟩) m m) m A B H := by
  have key : ∀ i, i < l.length → w.cell? ⟨b, 0 + i, none⟩ = some (.int .i64 l[i]!) := fun i hi => by
    rw [Nat.zero_add]
    refine h.cell i ?_
    rw [getElem!_pos l i hi]
    simp [hi]
  refine ⟨_, _, rfl, by omega, fun k hk => ⟨b, 0, rfl, ?_, ?_, ?_⟩⟩
  · rw [← (hf k hk).1]; exact key _ (by omega)
  · rw [← (hf k hk).2.1]; exact key (k * 3 + 1) (by omega)
  · rw [← (hf k hk).2.2]; exact key (k * 3 + 2) (by omega)

theorem fM_bd (x : Int) (h : 0 ≤ x ∧ x ≤ 1000000) : ∀ k, 0 ≤ fM x k ∧ fM x k ≤ 1000000 := fun k => by unfold fM; split <;> omega

theorem aw_pour8 (w : World) (va vf vs vm : Value) (hb : Bs w va vf vs 2 1 fA fF fS1) (hM : RdI w vm 2 (fM 8)) : Calls Try.prog 29 #[.agg #[va, vf, vs], vm] w fun e w' => ∃ u, e = .returned (.tuple #[u, .int .i64 0, .int .i64 0]) ∧
    RdP w' u 2 (lvA fA fF (Slu.moved (st0 2 (fM 8)) 0 1 3).rep (Slu.moved (st0 2 (fM 8)) 0 1 3).vol 2) (lvB fA fF (Slu.moved (st0 2 (fM 8)) 0 1 3).rep (Slu.moved (st0 2 (fM 8)) 0 1 3).vol 2) ∧ Below w.heap.size w w' := by
  refine (pour29_any w va vf vs vm 2 1 fA fF (fM 8) fS1 hb hM (fM_bd 8 (by omega))).mono ?_
  rintro e w' ⟨u, st, rfl, hE, hu, hB⟩
  obtain rfl := Slu.Ends.unique fOk1.ok (st0_good fOk1.ok (am := fM 8) fun k => (fM_bd 8 (by omega) k).1) hE fEnd8
  exact ⟨u, rfl, hu.reads (by omega), hB⟩

theorem aw_pour12 (w : World) (va vf vs vm : Value) (hb : Bs w va vf vs 2 2 fA fF fS2) (hM : RdI w vm 2 (fM 12)) : Calls Try.prog 29 #[.agg #[va, vf, vs], vm] w fun e w' => ∃ u, e = .returned (.tuple #[u, .int .i64 5, .int .i64 0]) ∧
    RdP w' u 2 (lvA fA fF fT12.rep fT12.vol 2) (lvB fA fF fT12.rep fT12.vol 2) ∧ Below w.heap.size w w' := by
  refine (pour29_any w va vf vs vm 2 2 fA fF (fM 12) fS2 hb hM (fM_bd 12 (by omega))).mono ?_
  rintro e w' ⟨u, st, rfl, hE, hu, hB⟩
  obtain rfl := Slu.Ends.unique fOk2.ok (st0_good fOk2.ok (am := fM 12) fun k => (fM_bd 12 (by omega) k).1) hE fEnd12
  exact ⟨u, by rw [show fT12.vol 2 = 5 by decide +kernel], hu.reads (by omega), hB⟩

theorem aw_room (w : World) (va vf vs : Value) (hb : Bs w va vf vs 2 2 fA fF fS2) : Calls Try.prog 27 #[.agg #[va, vf, vs], .int .i64 0] w fun e w' => e = .returned (.tuple #[.int .i64 7, .int .i64 0]) ∧ Below w.heap.size w w' := by
  refine (room27_any w va vf vs 2 2 fA fF fS2 hb 0 (by decide)).mono ?_
  rintro e w' ⟨hB, xs, hxs, ⟨h0, _⟩ | ⟨_, st, hE, rfl⟩⟩
  · rw [fSB2 hxs, fLip2] at h0; cases h0
  · obtain rfl := Slu.Ends.unique fOk2.ok (st0_good fOk2.ok (am := aloneF 0 1600000) fun k => by unfold aloneF; split <;> omega) hE fEndR
    exact ⟨by rw [show fTr.vol 2 = 1599993 by decide +kernel]; rfl, hB⟩

theorem aw_pools (w : World) (va vf vs vm : Value) (hb : Bs w va vf vs 2 1 fA fF fS1) (hM : RdI w vm 2 (fM 12)) : Calls Try.prog 40 #[.agg #[va, vf, vs], vm] w fun e w' => (∃ A c, e = .returned (.tuple #[.slice A 1 c, .int .i64 0])) ∧ Below w.heap.size w w' := by
  refine (pools40_any w va vf vs vm 2 1 fA fF (fM 12) fS1 hb hM (fM_bd 12 (by omega))).mono ?_
  rintro e w' ⟨hB, u, st, xs, hxs, hE, rfl, us, _, hu, _⟩
  obtain rfl := Slu.Ends.unique fOk1.ok (st0_good fOk1.ok (am := fM 12) fun k => (fM_bd 12 (by omega) k).1) hE fEndP
  rw [fPools hxs] at hu
  obtain ⟨A, c, rfl⟩ := own_len hu
  exact ⟨⟨A, c, rfl⟩, hB⟩

theorem aw_lip (w : World) (va vf vs : Value) (hb : Bs w va vf vs 3 2 fA fF fS3) : Calls Try.prog 28 #[.agg #[va, vf, vs], .int .i64 0, .int .i64 2] w fun e w' => e = .returned (.tuple #[.int .i64 9, .int .i64 0]) ∧ Below w.heap.size w w' := by
  refine (lip28_any w va vf vs 3 2 fA fF fS3 hb 0 2 (by decide) (by decide) (by decide)).mono ?_
  rintro e w' ⟨xs, hxs, rfl, hB⟩
  rw [fSB3 hxs, fLip3]
  exact ⟨rfl, hB⟩

set_option maxRecDepth 100000 in
set_option maxHeartbeats 4000000 in
theorem awake21_any (w : World) : Calls Try.prog 21 #[] w fun e w' => e = .returned (.bool true) ∧ Below w.heap.size w w' := by
  go_enter Try.func21, Try.ntmps21
  go_upto_region 2 with (fail)
  refine wp_world fun W hW => ?_
  have hB : Below w.heap.size w W := by rw [hW]; exact ((((Below.refl _ _).alloc (Nat.le_refl _) _).alloc (by simp) _).alloc (by simp; omega) _).alloc (by simp; omega) _
  have q1 : Blk W w.heap.size ([1, 1].map (Value.int .i64)).toArray 3 := by rw [hW]; exact (((Blk.new _ _ _).alloc _).alloc _).alloc _
  have q2 : Blk W (w.heap.size + 1) ([0, 0].map (Value.int .i64)).toArray 3 := by rw [hW]; have := Blk.new (w.alloc (.cells ([1, 1].map (Value.int .i64)).toArray 3)) ([0, 0].map (Value.int .i64)).toArray 3; simp only [World.size_alloc] at this; exact (this.alloc _).alloc _
  have q3 : Blk W (w.heap.size + 1 + 1) ([0, 1, 5].map (Value.int .i64)).toArray 75 := by rw [hW]; have := Blk.new ((w.alloc (.cells ([1, 1].map (Value.int .i64)).toArray 3)).alloc (.cells ([0, 0].map (Value.int .i64)).toArray 3)) ([0, 1, 5].map (Value.int .i64)).toArray 75; simp only [World.size_alloc] at this; exact this.alloc _
  have q4 : Blk W (w.heap.size + 1 + 1 + 1) #[.slice (some ⟨w.heap.size, 0, none⟩) 2 2, .slice (some ⟨w.heap.size + 1, 0, none⟩) 2 2, .slice (some ⟨w.heap.size + 1 + 1, 0, none⟩) 1 1] 25 := by rw [hW]; have := Blk.new (((w.alloc (.cells ([1, 1].map (Value.int .i64)).toArray 3)).alloc (.cells ([0, 0].map (Value.int .i64)).toArray 3)).alloc (.cells ([0, 1, 5].map (Value.int .i64)).toArray 75)) #[.slice (some ⟨w.heap.size, 0, none⟩) 2 2, .slice (some ⟨w.heap.size + 1, 0, none⟩) 2 2, .slice (some ⟨w.heap.size + 1 + 1, 0, none⟩) 1 1] 25; simp only [World.size_alloc] at this; exact this
  have hb1 : Bs W (.slice (some ⟨w.heap.size, 0, none⟩) 2 2) (.slice (some ⟨w.heap.size + 1, 0, none⟩) 2 2) (.slice (some ⟨w.heap.size + 1 + 1, 0, none⟩) 1 1) 2 1 fA fF fS1 :=
    ⟨fOk1, fChk1, rdI_blk q1 rfl (by decide) (by decide), rdI_blk q2 rfl (by decide) (by decide), rdT_blk q3 rfl (by decide) (by decide)⟩
  clear hW q1 q2 q3
  generalize w.heap.size + 1 + 1 + 1 = B1 at *
  generalize Value.slice (some ⟨w.heap.size, 0, none⟩) 2 2 = va1 at *
  generalize Value.slice (some ⟨w.heap.size + 1, 0, none⟩) 2 2 = vf1 at *
  generalize Value.slice (some ⟨w.heap.size + 1 + 1, 0, none⟩) 1 1 = vs1 at *
  have hBm := hB.alloc hB.size (.cells #[.int .i64 8, .int .i64 0] 3)
  have hbm : Below W.heap.size W (W.alloc (.cells #[.int .i64 8, .int .i64 0] 3)) := (Below.refl _ _).alloc (Nat.le_refl _) _
  have P1 := aw_pour8 (W.alloc (.cells #[.int .i64 8, .int .i64 0] 3)) va1 vf1 vs1 (.slice (some ⟨W.heap.size, 0, none⟩) 2 2) (hb1.below hbm) (rdI_blk (l := [8, 0]) (Blk.new _ _ _) rfl (by decide) (by decide))
  have c0 := q4.cell 0 rfl
  have c1 := q4.cell 1 rfl
  have c2 := q4.cell 2 rfl
  go_upto_region 3 with (go_at_call 29; (with_reducible refine P1.mono ?_); rintro e w1 ⟨u1, rfl, hr1, hb⟩)
  have hb' := hbm.trans (hb.mono hbm.size)
  have hBs := hB.trans (hb'.mono hB.size)
  have hb1 := hb1.below hb'
  have q4 := q4.below hb'
  clear P1 c0 c1 c2 hBm hbm hb hb' hB
  go_upto_region 4 with (fail)
  refine wp_world fun W2 hW2 => ?_
  have hbm : Below w1.heap.size w1 W2 := by rw [hW2]; exact ((((Below.refl _ _).alloc (Nat.le_refl _) _).alloc (by simp) _).alloc (by simp; omega) _).alloc (by simp; omega) _
  have q1 : Blk W2 w1.heap.size ([1, 1].map (Value.int .i64)).toArray 3 := by rw [hW2]; exact (((Blk.new _ _ _).alloc _).alloc _).alloc _
  have q2 : Blk W2 (w1.heap.size + 1) ([0, 0].map (Value.int .i64)).toArray 3 := by rw [hW2]; have := Blk.new (w1.alloc (.cells ([1, 1].map (Value.int .i64)).toArray 3)) ([0, 0].map (Value.int .i64)).toArray 3; simp only [World.size_alloc] at this; exact (this.alloc _).alloc _
  have q3 : Blk W2 (w1.heap.size + 1 + 1) ([0, 1, 5, 1, 2, 2].map (Value.int .i64)).toArray 75 := by rw [hW2]; have := Blk.new ((w1.alloc (.cells ([1, 1].map (Value.int .i64)).toArray 3)).alloc (.cells ([0, 0].map (Value.int .i64)).toArray 3)) ([0, 1, 5, 1, 2, 2].map (Value.int .i64)).toArray 75; simp only [World.size_alloc] at this; exact this.alloc _
  have q5 : Blk W2 (w1.heap.size + 1 + 1 + 1) #[.slice (some ⟨w1.heap.size, 0, none⟩) 2 2, .slice (some ⟨w1.heap.size + 1, 0, none⟩) 2 2, .slice (some ⟨w1.heap.size + 1 + 1, 0, none⟩) 2 2] 25 := by rw [hW2]; have := Blk.new (((w1.alloc (.cells ([1, 1].map (Value.int .i64)).toArray 3)).alloc (.cells ([0, 0].map (Value.int .i64)).toArray 3)).alloc (.cells ([0, 1, 5, 1, 2, 2].map (Value.int .i64)).toArray 75)) #[.slice (some ⟨w1.heap.size, 0, none⟩) 2 2, .slice (some ⟨w1.heap.size + 1, 0, none⟩) 2 2, .slice (some ⟨w1.heap.size + 1 + 1, 0, none⟩) 2 2] 25; simp only [World.size_alloc] at this; exact this
  have hb2 : Bs W2 (.slice (some ⟨w1.heap.size, 0, none⟩) 2 2) (.slice (some ⟨w1.heap.size + 1, 0, none⟩) 2 2) (.slice (some ⟨w1.heap.size + 1 + 1, 0, none⟩) 2 2) 2 2 fA fF fS2 :=
    ⟨fOk2, fChk2, rdI_blk q1 rfl (by decide) (by decide), rdI_blk q2 rfl (by decide) (by decide), rdT_blk q3 rfl (by decide) (by decide)⟩
  have hB := hBs.trans (hbm.mono hBs.size)
  have hb1 := hb1.below hbm
  have q4 := q4.below hbm
  have hr1 := hr1.below hbm
  clear hW2 q1 q2 q3 hBs hbm
  generalize w1.heap.size + 1 + 1 + 1 = B2 at *
  generalize Value.slice (some ⟨w1.heap.size, 0, none⟩) 2 2 = va2 at *
  generalize Value.slice (some ⟨w1.heap.size + 1, 0, none⟩) 2 2 = vf2 at *
  generalize Value.slice (some ⟨w1.heap.size + 1 + 1, 0, none⟩) 2 2 = vs2 at *
  have hbm : Below W2.heap.size W2 (W2.alloc (.cells #[.int .i64 12, .int .i64 0] 3)) := (Below.refl _ _).alloc (Nat.le_refl _) _
  have P2 := aw_pour12 (W2.alloc (.cells #[.int .i64 12, .int .i64 0] 3)) va2 vf2 vs2 (.slice (some ⟨W2.heap.size, 0, none⟩) 2 2) (hb2.below hbm) (rdI_blk (l := [12, 0]) (Blk.new _ _ _) rfl (by decide) (by decide))
  have c0 := q5.cell 0 rfl
  have c1 := q5.cell 1 rfl
  have c2 := q5.cell 2 rfl
  go_upto_region 5 with (go_at_call 29; (with_reducible refine P2.mono ?_); rintro e w3 ⟨u2, rfl, hr2, hb⟩)
  have hb' := hbm.trans (hb.mono hbm.size)
  have hBs := hB.trans (hb'.mono hB.size)
  have hb1 := hb1.below hb'
  have hb2 := hb2.below hb'
  have q4 := q4.below hb'
  have q5 := q5.below hb'
  have hr1 := hr1.below hb'
  clear P2 c0 c1 c2 hbm hb hb' hB
  have c0 := q5.cell 0 rfl
  have c1 := q5.cell 1 rfl
  have c2 := q5.cell 2 rfl
  have P3 := aw_room w3 va2 vf2 vs2 hb2
  go_upto_region 6 with (go_at_call 27; (with_reducible refine P3.mono ?_); rintro e w4 ⟨rfl, hb'⟩)
  have hB := hBs.trans (hb'.mono hBs.size)
  have hb1 := hb1.below hb'
  have q4 := q4.below hb'
  have hr1 := hr1.below hb'
  have hr2 := hr2.below hb'
  clear P3 c0 c1 c2 hb' hBs hb2 q5
  have c0 := q4.cell 0 rfl
  have c1 := q4.cell 1 rfl
  have c2 := q4.cell 2 rfl
  have hbm : Below w4.heap.size w4 (w4.alloc (.cells #[.int .i64 12, .int .i64 0] 3)) := (Below.refl _ _).alloc (Nat.le_refl _) _
  have P4 := aw_pools (w4.alloc (.cells #[.int .i64 12, .int .i64 0] 3)) va1 vf1 vs1 (.slice (some ⟨w4.heap.size, 0, none⟩) 2 2) (hb1.below hbm) (rdI_blk (l := [12, 0]) (Blk.new _ _ _) rfl (by decide) (by decide))
  go_upto_region 7 with (go_at_call 40; (with_reducible refine P4.mono ?_); rintro e w5 ⟨⟨A5, z5, rfl⟩, hb⟩)
  have hb' := hbm.trans (hb.mono hbm.size)
  have hBs := hB.trans (hb'.mono hB.size)
  have hr1 := hr1.below hb'
  have hr2 := hr2.below hb'
  clear P4 c0 c1 c2 hbm hb hb' hB hb1 q4
  go_upto_region 8 with (fail)
  refine wp_world fun W6 hW6 => ?_
  have hbm : Below w5.heap.size w5 W6 := by rw [hW6]; exact ((((Below.refl _ _).alloc (Nat.le_refl _) _).alloc (by simp) _).alloc (by simp; omega) _).alloc (by simp; omega) _
  have q1 : Blk W6 w5.heap.size ([1, 1, 1].map (Value.int .i64)).toArray 3 := by rw [hW6]; exact (((Blk.new _ _ _).alloc _).alloc _).alloc _
  have q2 : Blk W6 (w5.heap.size + 1) ([0, 0, 0].map (Value.int .i64)).toArray 3 := by rw [hW6]; have := Blk.new (w5.alloc (.cells ([1, 1, 1].map (Value.int .i64)).toArray 3)) ([0, 0, 0].map (Value.int .i64)).toArray 3; simp only [World.size_alloc] at this; exact (this.alloc _).alloc _
  have q3 : Blk W6 (w5.heap.size + 1 + 1) ([0, 1, 9, 1, 2, 4].map (Value.int .i64)).toArray 75 := by rw [hW6]; have := Blk.new ((w5.alloc (.cells ([1, 1, 1].map (Value.int .i64)).toArray 3)).alloc (.cells ([0, 0, 0].map (Value.int .i64)).toArray 3)) ([0, 1, 9, 1, 2, 4].map (Value.int .i64)).toArray 75; simp only [World.size_alloc] at this; exact this.alloc _
  have q5 : Blk W6 (w5.heap.size + 1 + 1 + 1) #[.slice (some ⟨w5.heap.size, 0, none⟩) 3 3, .slice (some ⟨w5.heap.size + 1, 0, none⟩) 3 3, .slice (some ⟨w5.heap.size + 1 + 1, 0, none⟩) 2 2] 25 := by rw [hW6]; have := Blk.new (((w5.alloc (.cells ([1, 1, 1].map (Value.int .i64)).toArray 3)).alloc (.cells ([0, 0, 0].map (Value.int .i64)).toArray 3)).alloc (.cells ([0, 1, 9, 1, 2, 4].map (Value.int .i64)).toArray 75)) #[.slice (some ⟨w5.heap.size, 0, none⟩) 3 3, .slice (some ⟨w5.heap.size + 1, 0, none⟩) 3 3, .slice (some ⟨w5.heap.size + 1 + 1, 0, none⟩) 2 2] 25; simp only [World.size_alloc] at this; exact this
  have hb3 : Bs W6 (.slice (some ⟨w5.heap.size, 0, none⟩) 3 3) (.slice (some ⟨w5.heap.size + 1, 0, none⟩) 3 3) (.slice (some ⟨w5.heap.size + 1 + 1, 0, none⟩) 2 2) 3 2 fA fF fS3 :=
    ⟨fOk3, fChk3, rdI_blk q1 rfl (by decide) (by decide), rdI_blk q2 rfl (by decide) (by decide), rdT_blk q3 rfl (by decide) (by decide)⟩
  have hB := hBs.trans (hbm.mono hBs.size)
  have hr1 := hr1.below hbm
  have hr2 := hr2.below hbm
  clear hW6 q1 q2 q3 hBs hbm
  generalize w5.heap.size + 1 + 1 + 1 = B3 at *
  generalize Value.slice (some ⟨w5.heap.size, 0, none⟩) 3 3 = va3 at *
  generalize Value.slice (some ⟨w5.heap.size + 1, 0, none⟩) 3 3 = vf3 at *
  generalize Value.slice (some ⟨w5.heap.size + 1 + 1, 0, none⟩) 2 2 = vs3 at *
  have c0 := q5.cell 0 rfl
  have c1 := q5.cell 1 rfl
  have c2 := q5.cell 2 rfl
  have P5 := aw_lip W6 va3 vf3 vs3 hb3
  go_upto_region 9 with (go_at_call 28; (with_reducible refine P5.mono ?_); rintro e w7 ⟨rfl, hb'⟩)
  have hBs := hB.trans (hb'.mono hB.size)
  have hr1 := hr1.below hb'
  have hr2 := hr2.below hb'
  clear P5 c0 c1 c2 hb' hB hb3 q5
  have S1 : Calls Try.prog 19 #[u1, .slice (some ⟨w7.heap.size, 0, none⟩) 2 2] (w7.alloc (.cells #[.int .i64 5, .int .i64 1, .int .i64 3, .int .i64 1] 47)) fun e w' => e = .returned (.bool true) ∧ Below w7.heap.size w7 w' := by
    have hbm : Below w7.heap.size w7 (w7.alloc (.cells #[.int .i64 5, .int .i64 1, .int .i64 3, .int .i64 1] 47)) := (Below.refl _ _).alloc (Nat.le_refl _) _
    refine (same_any _ _ _ _ _ _ _ (fun k => if k = 0 then 5 else 3) (fun _ => 1) (hr1.below hbm) (rdP_blk (l := [5, 1, 3, 1]) (m := 2) (Blk.new _ _ _) rfl (by decide) (by decide))).mono ?_
    rintro e w' ⟨rfl, q, rfl⟩
    rw [fSame8]
    exact ⟨rfl, below_drewN hbm q⟩
  have S2 : ∀ W' (hb : Below w7.heap.size w7 W'), Calls Try.prog 19 #[u2, .slice (some ⟨W'.heap.size, 0, none⟩) 2 2] (W'.alloc (.cells #[.int .i64 5, .int .i64 1, .int .i64 2, .int .i64 1] 47)) fun e w' => e = .returned (.bool true) ∧ Below w7.heap.size w7 w' := fun W' hb => by
    have hbm := hb.alloc hb.size (.cells #[.int .i64 5, .int .i64 1, .int .i64 2, .int .i64 1] 47)
    refine (same_any _ _ _ _ _ _ _ (fun k => if k = 0 then 5 else 2) (fun _ => 1) (hr2.below hbm) (rdP_blk (l := [5, 1, 2, 1]) (m := 2) (Blk.new _ _ _) rfl (by decide) (by decide))).mono ?_
    rintro e w' ⟨rfl, q, rfl⟩
    rw [fSame12]
    exact ⟨rfl, below_drewN hbm q⟩
  clear hr1 hr2
  go_wp2_with (first | (go_at_call 19; (with_reducible refine S1.mono ?_); rintro e w8 ⟨rfl, hb8⟩) | (go_at_call 19; (with_reducible refine (S2 w8 hb8).mono ?_); rintro e w9 ⟨rfl, hb9⟩) | (go_at_call 47; (with_reducible refine (check47_empty _).mono ?_); rintro e w10 ⟨rfl, hb10⟩))
  go_ret
  exact ⟨rfl, hBs.trans ((hb9.trans (hb10.mono hb9.size)).mono hBs.size)⟩
end Go.Proofs.Ytjhididnmkbgoaa
