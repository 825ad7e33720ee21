import Derived.Test.YtjhididnmkbgoaaWh
import Derived.Deep.RegionHeld3
set_option linter.unusedVariables false
set_option linter.unusedSimpArgs false
namespace Go.Proofs.Ytjhididnmkbgoaa
open Go.RowKit

theorem RdT.lies {w : World} {b off n c : Nat} {A B H : Nat → Int} (h : RdT w (.slice (some ⟨b, off, none⟩) n c) n A B H) : ∀ j u, (flat3 n A B H)[j]? = some u → w.cell? ((⟨b, off, none⟩ : Addr).add j) = some u := by
  intro j u hj
  have hjm : j < n * 3 := by
    have := (List.getElem?_eq_some_iff.1 hj).1
    rw [flat3_len] at this
    exact this
  obtain ⟨a', c', e, hl, hc⟩ := h
  cases e
  obtain ⟨b', off', e, h1, h2, h3⟩ := hc (j / 3) (by omega)
  cases e
  rw [add_plain, ← hj]
  obtain ⟨g1, g2, g3⟩ := flat3_get n A B H (j / 3) (by omega)
  generalize hq : j / 3 = q at *
  have hj3 : j = q * 3 ∨ j = q * 3 + 1 ∨ j = q * 3 + 2 := by omega
  rcases hj3 with rfl | rfl | rfl
  · rw [h1, g1]
  · rw [← Nat.add_assoc, h2, g2]
  · rw [← Nat.add_assoc, h3, g3]

theorem grown_nil {w w' : World} (h : w.grownBy w' (Value.slice none 0 0).ownBlock) : Below w.heap.size w w' :=
  ⟨h.os, h.tape, h.output, h.size, fun i hi => h.block i hi (by simp [Value.ownBlock])⟩

theorem few9 (w : World) (v : Value) (n : Nat) (f : Nat → Int) (hn : n ≤ 9) (hv : RdI w v n f) :
    Calls Try.prog 38 #[v, .int .i64 9] w fun e w' => ∃ u, e = .returned u ∧ OwI w' w.heap.size u n f ∧ Below w.heap.size w w' := by
  have h := few_any w v n f 9 hv (by omega)
  rw [show min n 9 = n by omega] at h
  exact h

set_option maxRecDepth 100000 in
set_option maxHeartbeats 4000000 in
theorem given_some (w : World) (va vf : Value) (bs os cs na nf m : Nat) (la lf A B H : Nat → Int) (hA : RdI w va na la) (hF : RdI w vf nf lf) (hS : RdT w (.slice (some ⟨bs, os, none⟩) (m + 1) cs) (m + 1) A B H) (hna : na ≤ 9) (hnf : nf ≤ 9) (hm : m ≤ 100) :
    Calls Try.prog 18 #[.agg #[va, vf, .slice (some ⟨bs, os, none⟩) (m + 1) cs]] w fun e w' => ∃ ua uf us, e = .returned (.agg #[ua, uf, us]) ∧ OwI w' w.heap.size ua na la ∧ OwI w' w.heap.size uf nf lf ∧ OwT w' w.heap.size us (m + 1) A B H ∧ Below w.heap.size w w' := by
  have hinfo : (Try.prog.info? 75).map (fun i => (i.zero, i.size, i.bytes)) = some (some (.agg #[.int .i64 0, .int .i64 0, .int .i64 0]), 3, 24) := by kernel_rfl
  obtain ⟨inf, hi0, hz0, hz1, hz2⟩ := info_parts hinfo
  obtain ⟨AA, ca, rfl, _, _⟩ := id hA
  obtain ⟨FF, cf, rfl, _, _⟩ := id hF
  go_enter Try.func18, Try.ntmps18
  go_upto_region 2 with (fail)
  refine wp_world fun W hW => ?_
  have hB : Below w.heap.size w W := by rw [hW]; exact ((Below.refl _ _).alloc (Nat.le_refl _) _).alloc (by simp) _
  have k1 : Blk W w.heap.size #[.slice AA na ca, .slice FF nf cf, .slice (some ⟨bs, os, none⟩) (m + 1) cs] 27 := by rw [hW]; exact (Blk.new _ _ _).alloc _
  have k2 : Blk W (w.heap.size + 1) #[.slice none 0 0, .slice none 0 0, .slice none 0 0] 25 := by rw [hW]; have := Blk.new (w.alloc (Obj.cells #[Value.slice AA na ca, .slice FF nf cf, .slice (some ⟨bs, os, none⟩) (m + 1) cs] 27)) #[Value.slice none 0 0, Value.slice none 0 0, .slice none 0 0] 25; simp only [World.size_alloc] at this; exact this
  clear hW
  have e0 := k1.cell 0 rfl
  have e1 := k1.cell 1 rfl
  have e2 := k1.cell 2 rfl
  have f0 := k2.cell 0 rfl
  have f1 := k2.cell 1 rfl
  have f2 := k2.cell 2 rfl
  have g0 := k2.frozen 0
  have g1 := k2.frozen 1
  have g2 := k2.frozen 2
  have h63 : 0 + (m + 1) ≤ maxLen := by unfold maxLen; omega
  have h16 : (0 + (m + 1)) * 24 ≤ 140737488355328 := by omega
  have na9 : min na 9 = na := by omega
  have nf9 : min nf 9 = nf := by omega
  have hlen := flat3_len (m + 1) A B H
  have hone := flat3_one (m + 1) A B H
  have hne : Try.prog.follows .mixedOrders = true := by kernel_rfl
  go_region_held3 (fun w' => w'.cell? ⟨w.heap.size, 0, none⟩ = some (.slice AA na ca) ∧ w'.cell? ⟨w.heap.size, 1, none⟩ = some (.slice FF nf cf) ∧ w'.cell? ⟨w.heap.size, 2, none⟩ = some (.slice (some ⟨bs, os, none⟩) (m + 1) cs))
    (go_keep)
    (first
      | (go_at_call 38; (with_reducible refine (few9 _ (.slice FF nf cf) nf lf hnf (by first | exact hF.below hbA.drew | exact hF.below hbA)).mono ?_); rintro e w2 ⟨u2, rfl, ho2, hb2'⟩; have e0 := cell_up hb2' p0; have e1 := cell_up hb2' p1; have e2 := cell_up hb2' p2; have f0 := cell_up hb2' q0; have f1 := cell_up hb2' q1; have f2 := cell_up hb2' q2; have k2 := k2a.below hb2'; have ho1b := ho1.below hb2'; have hbB := hbA.trans (hb2'.mono hbA.size); have hSb := hS.below hbB; obtain ⟨r1, r2, rfl, _, _⟩ := ho2.reads (by omega); clear p0 p1 p2 q0 q1 q2)
      | (go_at_call 38; (with_reducible refine (few9 _ (.slice AA na ca) na la hna (by first | exact hA.below hB.drew | exact hA.below hB)).mono ?_); rintro e w1 ⟨u1, rfl, ho1, hb1⟩; have hb1' := undrew hb1; clear hb1; have p0 := cell_up hb1' e0; have p1 := cell_up hb1' e1; have p2 := cell_up hb1' e2; have q0 := cell_up hb1' f0; have q1 := cell_up hb1' f1; have q2 := cell_up hb1' f2; have k2a := k2.below hb1'; have hbA := hB.trans (hb1'.mono hB.size); obtain ⟨r3, r4, rfl, _, _⟩ := ho1.reads (by omega); clear e0 e1 e2 f0 f1 f2)
      | ((refine step_append_lies _ (by rfl) _ _ _ (by rfl) w.heap.size 75 inf _ 3 24 Try.underlying23 hi0 hz0 hz1 hz2 rfl (by decide) (.slice none 0 0) 0 [] (by rfl) (World.ownsRow_nil _ _ _ _) ⟨bs, os, none⟩ (m + 1) cs (flat3 (m + 1) A B H) (by rfl) hlen hSb.lies hone (Nat.succ_pos m) h63 h16 hbB.size w2.heap.size rfl ?_); intro gg cap w3 ho3 hgrow hat hlt1; have hb3 := grown_nil hgrow; have p0 := cell_up hb3 e0; have p1 := cell_up hb3 e1; have p2 := cell_up hb3 e2; have q0 := cell_up hb3 f0; have q1 := cell_up hb3 f1; have q2 := cell_up hb3 f2; have k2b := k2.below hb3; have g0 := k2b.frozen 0; have g1 := k2b.frozen 1; have g2 := k2b.frozen 2; have oA := ho1b.below hb3; have oB := ho2.below hb3; have hbC := hbB.trans (hb3.mono hbB.size)))
  have n1 := k2b.ne_own (by decide) oA
  have n2 := k2b.ne_own (by decide) oB
  have n3 := k2b.ne_own (by decide) ho3
  have z0 := ((k2b.set 0 (.slice r3 na r4)).set 1 (.slice r1 nf r2)).set 2 (.slice (some ⟨gg, 0, none⟩) (m + 1) cap)
  have y0 := z0.cell 0 rfl
  have y1 := z0.cell 1 rfl
  have y2 := z0.cell 2 rfl
  go_wp2
  refine bodyPost_ret (v := .agg #[.slice r3 na r4, .slice r1 nf r2, .slice (some ⟨gg, 0, none⟩) (m + 1) cap]) (by simp [results, Try.results18, go_sem, y0, y1, y2]) rfl
    ⟨.slice r3 na r4, .slice r1 nf r2, .slice (some ⟨gg, 0, none⟩) (m + 1) cap, rfl, (own_set (own_set (own_set oA n1 0 _) n1 1 _) n1 2 _).mono (hB.size), (own_set (own_set (own_set oB n2 0 _) n2 1 _) n2 2 _).mono hbA.size, ?_, ((hbC.setCell (by simp) _).setCell (by simp) _).setCell (by simp) _⟩
  rw [Nat.zero_add] at ho3
  exact ((World.ownsRow.kept (World.ownsRow.kept (World.ownsRow.kept ho3 (grown_setCell _ _ _ _) (.inr (Ne.symm n3))) (grown_setCell _ _ _ _) (.inr (Ne.symm n3))) (grown_setCell _ _ _ _) (.inr (Ne.symm n3))) : OwT _ _ _ _ _ _ _)

set_option maxRecDepth 100000 in
set_option maxHeartbeats 4000000 in
theorem given_nil (w : World) (va vf : Value) (na nf : Nat) (la lf A B H : Nat → Int) (hA : RdI w va na la) (hF : RdI w vf nf lf) (hna : na ≤ 9) (hnf : nf ≤ 9) :
    Calls Try.prog 18 #[.agg #[va, vf, .slice none 0 0]] w fun e w' => ∃ ua uf us, e = .returned (.agg #[ua, uf, us]) ∧ OwI w' w.heap.size ua na la ∧ OwI w' w.heap.size uf nf lf ∧ OwT w' w.heap.size us 0 A B H ∧ Below w.heap.size w w' := by
  obtain ⟨AA, ca, rfl, _, _⟩ := id hA
  obtain ⟨FF, cf, rfl, _, _⟩ := id hF
  go_enter Try.func18, Try.ntmps18
  go_upto_region 2 with (fail)
  refine wp_world fun W hW => ?_
  have hB : Below w.heap.size w W := by rw [hW]; exact ((Below.refl _ _).alloc (Nat.le_refl _) _).alloc (by simp) _
  have k1 : Blk W w.heap.size #[.slice AA na ca, .slice FF nf cf, .slice none 0 0] 27 := by rw [hW]; exact (Blk.new _ _ _).alloc _
  have k2 : Blk W (w.heap.size + 1) #[.slice none 0 0, .slice none 0 0, .slice none 0 0] 25 := by rw [hW]; have := Blk.new (w.alloc (Obj.cells #[Value.slice AA na ca, .slice FF nf cf, .slice none 0 0] 27)) #[Value.slice none 0 0, Value.slice none 0 0, .slice none 0 0] 25; simp only [World.size_alloc] at this; exact this
  clear hW
  have e0 := k1.cell 0 rfl
  have e1 := k1.cell 1 rfl
  have e2 := k1.cell 2 rfl
  have f0 := k2.cell 0 rfl
  have f1 := k2.cell 1 rfl
  have f2 := k2.cell 2 rfl
  have g0 := k2.frozen 0
  have g1 := k2.frozen 1
  have g2 := k2.frozen 2
  go_region_held3 (fun w' => w'.cell? ⟨w.heap.size, 0, none⟩ = some (.slice AA na ca) ∧ w'.cell? ⟨w.heap.size, 1, none⟩ = some (.slice FF nf cf) ∧ w'.cell? ⟨w.heap.size, 2, none⟩ = some (.slice none 0 0))
    (go_keep)
    (first
      | (go_at_call 38; (with_reducible refine (few9 _ (.slice FF nf cf) nf lf hnf (by first | exact hF.below hbA.drew | exact hF.below hbA)).mono ?_); rintro e w2 ⟨u2, rfl, ho2, hb2'⟩; have e0 := cell_up hb2' p0; have e1 := cell_up hb2' p1; have e2 := cell_up hb2' p2; have f0 := cell_up hb2' q0; have f1 := cell_up hb2' q1; have f2 := cell_up hb2' q2; have k2b := k2a.below hb2'; have g0 := k2b.frozen 0; have g1 := k2b.frozen 1; have g2 := k2b.frozen 2; have oA := ho1.below hb2'; have hbB := hbA.trans (hb2'.mono hbA.size); obtain ⟨r1, r2, rfl, _, _⟩ := ho2.reads (by omega); clear p0 p1 p2 q0 q1 q2)
      | (go_at_call 38; (with_reducible refine (few9 _ (.slice AA na ca) na la hna (by first | exact hA.below hB.drew | exact hA.below hB)).mono ?_); rintro e w1 ⟨u1, rfl, ho1, hb1⟩; have hb1' := undrew hb1; clear hb1; have p0 := cell_up hb1' e0; have p1 := cell_up hb1' e1; have p2 := cell_up hb1' e2; have q0 := cell_up hb1' f0; have q1 := cell_up hb1' f1; have q2 := cell_up hb1' f2; have k2a := k2.below hb1'; have hbA := hB.trans (hb1'.mono hB.size); obtain ⟨r3, r4, rfl, _, _⟩ := ho1.reads (by omega); clear e0 e1 e2 f0 f1 f2))
  have n1 := k2b.ne_own (by decide) oA
  have n2 := k2b.ne_own (by decide) ho2
  have z0 := ((k2b.set 0 (.slice r3 na r4)).set 1 (.slice r1 nf r2)).set 2 (.slice none 0 0)
  have y0 := z0.cell 0 rfl
  have y1 := z0.cell 1 rfl
  have y2 := z0.cell 2 rfl
  go_wp2
  refine bodyPost_ret (v := .agg #[.slice r3 na r4, .slice r1 nf r2, .slice none 0 0]) (by simp [results, Try.results18, go_sem, y0, y1, y2]) rfl
    ⟨.slice r3 na r4, .slice r1 nf r2, .slice none 0 0, rfl, (own_set (own_set (own_set oA n1 0 _) n1 1 _) n1 2 _).mono (hB.size), (own_set (own_set (own_set ho2 n2 0 _) n2 1 _) n2 2 _).mono hbA.size, OwT.nil _ _ _ _ _, ((hbB.setCell (by simp) _).setCell (by simp) _).setCell (by simp) _⟩
end Go.Proofs.Ytjhididnmkbgoaa
