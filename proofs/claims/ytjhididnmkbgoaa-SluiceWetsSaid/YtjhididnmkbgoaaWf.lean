import Derived.Test.YtjhididnmkbgoaaRef
import Derived.Deep.CutBlock
set_option linter.unusedVariables false
set_option linter.unusedSimpArgs false
namespace Go.Proofs.Ytjhididnmkbgoaa
open Go.RowKit

/-- Nothing has run yet. -/
def st0 (n : Nat) (am : Nat → Int) : Slu.St := { rep := fun i => i, vol := fun i => if i < n then am i else 0 }

/-- The reference's memory while it pours. -/
structure PX (w wr : World) (va vf vs : Value) (n gg cg gv cw : Nat) (rep : Nat → Nat) (cv : Nat → Int) (lost : Int) : Prop where
  b : Below w.heap.size w wr
  k2 : Blk wr w.heap.size #[va, vf, vs] 27
  k4 : Blk wr (w.heap.size + 1) #[.slice none 0 0, .slice none 0 0, .int .i64 0] 32
  k5 : Blk wr (w.heap.size + 1 + 1) #[.slice (some ⟨gg, 0, none⟩) n cg, .slice (some ⟨gv, 0, none⟩) n cw, .int .i64 lost] 32
  hg : OwI wr w.heap.size (.slice (some ⟨gg, 0, none⟩) n cg) n (fun k => (rep k : Int))
  hv : OwI wr w.heap.size (.slice (some ⟨gv, 0, none⟩) n cw) n cv
  ne : gg ≠ gv

theorem PX.below {w wr w2 : World} {va vf vs : Value} {n gg cg gv cw : Nat} {rep : Nat → Nat} {cv : Nat → Int} {lost : Int} (h : PX w wr va vf vs n gg cg gv cw rep cv lost) (hb : Below wr.heap.size wr w2) : PX w w2 va vf vs n gg cg gv cw rep cv lost :=
  ⟨h.b.trans (hb.mono h.b.size), h.k2.below hb, h.k4.below hb, h.k5.below hb, h.hg.below hb, h.hv.below hb, h.ne⟩

theorem PX.putv {w wr : World} {va vf vs : Value} {n gg cg gv cw : Nat} {rep : Nat → Nat} {cv : Nat → Int} {lost : Int} (h : PX w wr va vf vs n gg cg gv cw rep cv lost) (j : Nat) (hj : j < n) (x : Int) :
    PX w (wr.setCell ⟨gv, j, none⟩ (.int .i64 x)) va vf vs n gg cg gv cw rep (fun i => if i = j then x else cv i) lost := by
  have e2 := h.k2.ne_own (by decide) h.hv
  have e4 := h.k4.ne_own (by decide) h.hv
  have e5 := h.k5.ne_own (by decide) h.hv
  simp only [Value.ownBlock, ne_eq, Option.some.injEq] at e2 e4 e5
  have l := h.hv.lt gv rfl
  exact ⟨h.b.setCell (p := ⟨gv, j, none⟩) l.1 _, h.k2.other e2 _, h.k4.other e4 _, h.k5.other e5 _, own_set h.hg (by simp [Value.ownBlock]; exact Ne.symm h.ne) _ _, h.hv.put j hj x, h.ne⟩

theorem PX.losts {w wr : World} {va vf vs : Value} {n gg cg gv cw : Nat} {rep : Nat → Nat} {cv : Nat → Int} {lost : Int} (h : PX w wr va vf vs n gg cg gv cw rep cv lost) (x : Int) :
    PX w (wr.setCell ⟨w.heap.size + 1 + 1, 2, none⟩ (.int .i64 x)) va vf vs n gg cg gv cw rep cv x :=
  ⟨h.b.setCell (p := ⟨w.heap.size + 1 + 1, 2, none⟩) (by simp; omega) _, h.k2.other (by omega) _, h.k4.other (by omega) _, h.k5.set 2 _, own_set h.hg (h.k5.ne_own (by decide) h.hg) _ _, own_set h.hv (h.k5.ne_own (by decide) h.hv) _ _, h.ne⟩

theorem PX.whole {w wr : World} {va vf vs : Value} {n gg cg gv cw g2 c2 v2 q2 : Nat} {rep rep' : Nat → Nat} {cv cv' : Nat → Int} {lost lost' : Int} (h : PX w wr va vf vs n gg cg gv cw rep cv lost)
    (h1 : OwI wr w.heap.size (.slice (some ⟨g2, 0, none⟩) n c2) n (fun k => (rep' k : Int))) (h2 : OwI wr w.heap.size (.slice (some ⟨v2, 0, none⟩) n q2) n cv') (h3 : g2 ≠ v2) :
    PX w (((wr.setCell ⟨w.heap.size + 1 + 1, 0, none⟩ (.slice (some ⟨g2, 0, none⟩) n c2)).setCell ⟨w.heap.size + 1 + 1, 1, none⟩ (.slice (some ⟨v2, 0, none⟩) n q2)).setCell ⟨w.heap.size + 1 + 1, 2, none⟩ (.int .i64 lost')) va vf vs n g2 c2 v2 q2 rep' cv' lost' := by
  have n1 := h.k5.ne_own (by decide) h1
  have n2 := h.k5.ne_own (by decide) h2
  exact ⟨((h.b.setCell (p := ⟨w.heap.size + 1 + 1, 0, none⟩) (by simp; omega) _).setCell (p := ⟨w.heap.size + 1 + 1, 1, none⟩) (by simp; omega) _).setCell (p := ⟨w.heap.size + 1 + 1, 2, none⟩) (by simp; omega) _,
    ((h.k2.other (by omega) _).other (by omega) _).other (by omega) _, ((h.k4.other (by omega) _).other (by omega) _).other (by omega) _, ((h.k5.set 0 _).set 1 _).set 2 _,
    own_set (own_set (own_set h1 n1 _ _) n1 _ _) n1 _ _, own_set (own_set (own_set h2 n2 _ _) n2 _ _) n2 _ _, h3⟩

theorem st0_good {B : Slu.Bas} (ok : B.Ok) {am : Nat → Int} (h : ∀ k, 0 ≤ am k) : Slu.Good B (st0 B.n am) := by
  refine ⟨⟨fun i => rfl, fun i => Nat.le_refl _, fun i => Iff.rfl, fun i h => absurd rfl h, fun i => ?_⟩, fun g s hl i hi e => ?_⟩
  · unfold st0; dsimp only; have := h i; split <;> omega
  · have e' : i = g := e
    subst e'
    have hc := hl.cr
    unfold Slu.crosses at hc
    rcases hc.2 with h1 | h1
    · have h2 : s.a = i := h1
      rw [← h2]; exact ok.fa s hl.mem
    · have h2 : s.b = i := h1
      rw [← h2]; exact ok.fb s hl.mem (by omega)

theorem st0_tot {B : Slu.Bas} {am : Nat → Int} (hn : B.n ≤ 8) (h : ∀ k, 0 ≤ am k ∧ am k ≤ 2000000) : tot B (st0 B.n am) ≤ 16000000 := by
  have : ∀ m : Nat, m ≤ B.n → Slu.sumN m (st0 B.n am).vol ≤ 2000000 * m := by
    intro m hm
    induction m with
    | zero => simp [Slu.sumN]
    | succ m ih =>
      simp only [Slu.sumN]
      have h1 := ih (by omega)
      have h2 : (st0 B.n am).vol m ≤ 2000000 := by unfold st0; dsimp only; have := h m; split <;> omega
      omega
  have h1 := this B.n (Nat.le_refl _)
  unfold tot
  simp only [Slu.sumN]
  have h2 : (st0 B.n am).vol B.n = 0 := by unfold st0; simp
  omega

theorem pat0 {B : Slu.Bas} {am : Nat → Int} (h : ∀ k, 0 ≤ am k ∧ am k ≤ 2000000) : PAt B (st0 B.n am) (st0 B.n am) am :=
  ⟨.refl _, fun i hi _ => by unfold st0; dsimp only; rw [if_pos hi], fun i => by have := h i; omega⟩

theorem still_of {B : Slu.Bas} {st : Slu.St} (h : ∀ g s, ¬ Slu.Over B st g s) : Slu.Still B st := fun st' hs => by
  obtain ⟨g, s, o, _⟩ := Slu.step_cases hs
  exact h g s o

/-- What the reference's pouring hands back. -/
def Poured (B : Slu.Bas) (am : Nat → Int) (w : World) (e : Ending) (w' : World) : Prop :=
  ∃ (ug uv : Value) (st : Slu.St) (cv : Nat → Int), e = .returned (.agg #[ug, uv, .int .i64 (st.vol B.n)]) ∧
      Slu.Ends B (st0 B.n am) st ∧ OwI w' w.heap.size ug B.n (fun k => (st.rep k : Int)) ∧ OwI w' w.heap.size uv B.n cv ∧
      (∀ i, i < B.n → st.rep i = i → cv i = st.vol i) ∧ (∀ i, 0 ≤ cv i ∧ cv i ≤ 1000000000000) ∧ Below w.heap.size w w'

set_option maxRecDepth 100000 in
set_option maxHeartbeats 4000000 in
theorem rpour_any (w : World) (va vf vs vm : Value) (n m : Nat) (area floor am : Nat → Int) (S : Nat → Slu.Sill) (ok : SOk n m area floor S)
    (hA : RdI w va n area) (hF : RdI w vf n floor) (hS : RdT w vs m (fun k => ((S k).a : Int)) (fun k => ((S k).b : Int)) (fun k => (S k).h)) (hM : RdI w vm n am) (ham : ∀ k, 0 ≤ am k ∧ am k ≤ 2000000) :
    Calls Try.prog 16 #[.agg #[va, vf, vs], vm] w fun e w' => Poured (mkBas n m area floor S) am w e w' := by
  have hn1 := ok.n1
  have hn8 := ok.n8
  obtain ⟨A, ca, rfl, la, ra⟩ := id hA
  obtain ⟨F, cf, rfl, lf, rf⟩ := id hF
  obtain ⟨V, cs, rfl, ls, rs⟩ := id hS
  have RS := Lib.hid rs
  obtain ⟨M, cm, rfl, lm, rm⟩ := id hM
  clear ra rf
  go_enter Try.func16, Try.ntmps16
  go_wp2
  refine wp_world fun W hW => ?_
  have hB : Below w.heap.size w W := by rw [hW]; exact (((Below.refl _ _).alloc (Nat.le_refl _) _).alloc (by simp) _).alloc (by simp; omega) _
  have k2 : Blk W w.heap.size #[.slice A n ca, .slice F n cf, .slice V m cs] 27 := by rw [hW]; exact ((Blk.new _ _ _).alloc _).alloc _
  have k4 : Blk W (w.heap.size + 1) #[.slice none 0 0, .slice none 0 0, .int .i64 0] 32 := by rw [hW]; have := Blk.new (w.alloc (Obj.cells #[Value.slice A n ca, .slice F n cf, .slice V m cs] 27)) #[Value.slice none 0 0, Value.slice none 0 0, Value.int IntKind.i64 0] 32; simp only [World.size_alloc] at this; exact this.alloc _
  have k5 : Blk W (w.heap.size + 1 + 1) #[.slice none 0 0, .slice none 0 0, .int .i64 0] 32 := by rw [hW]; have := Blk.new ((w.alloc (Obj.cells #[Value.slice A n ca, .slice F n cf, .slice V m cs] 27)).alloc (Obj.cells #[Value.slice none 0 0, Value.slice none 0 0, Value.int IntKind.i64 0] 32)) #[Value.slice none 0 0, Value.slice none 0 0, Value.int IntKind.i64 0] 32; simp only [World.size_alloc] at this; exact this
  clear hW
  go_loopg [6] n (fun gk x wr => ∃ (k : Nat) (u v : Value), k ≤ n ∧ gk = n - k ∧ x = .int .i64 k ∧ Below w.heap.size w wr ∧ Blk wr w.heap.size #[.slice A n ca, .slice F n cf, .slice V m cs] 27 ∧ Blk wr (w.heap.size + 1) #[.slice none 0 0, .slice none 0 0, .int .i64 0] 32 ∧ Blk wr (w.heap.size + 1 + 1) #[u, v, .int .i64 0] 32 ∧
      OwI wr w.heap.size u k (fun k => (k : Int)) ∧ OwI wr w.heap.size v k am ∧ (u.ownBlock = none ∨ u.ownBlock ≠ v.ownBlock))
  case atStart => exact ⟨0, _, _, by omega, rfl, rfl, hB, k2, k4, k5, OwI.nil _ _ _, OwI.nil _ _ _, .inl rfl⟩
  case round =>
    obtain ⟨k, u, v, hk, hgk, rfl, hB, k2, k4, k5, hu, hv, huv⟩ := hrel
    have HGK := Lib.hid hgk
    clear hgk
    have b0 := k2.cell 0 rfl
    by_cases hlt : k < n
    · obtain ⟨b1, o1, rfl, c1⟩ := rm k hlt
      have c0 := c1
      have hlow : b1 < w.heap.size := World.block_lt_of_cell? w _ c1
      have c1 := cell_up hB c1
      have d0 := k5.cell 0 rfl
      have d1 := k5.cell 1 rfl
      clear rm rs
      go_wp2
      go_quiet (fail)
      refine world_name fun W2 hW2 => ?_
      have hB2 : Below w.heap.size w W2 := by rw [hW2]; exact below_drewN hB _
      replace c1 : W2.cell? ⟨b1, o1 + k, none⟩ = some (.int .i64 (am k)) := by rw [hW2]; exact c1
      replace k2 : Blk W2 w.heap.size #[.slice A n ca, .slice F n cf, .slice V m cs] 27 := by rw [hW2]; exact k2
      replace k4 : Blk W2 (w.heap.size + 1) #[.slice none 0 0, .slice none 0 0, .int .i64 0] 32 := by rw [hW2]; exact k4
      replace k5 : Blk W2 (w.heap.size + 1 + 1) #[u, v, .int .i64 0] 32 := by rw [hW2]; exact k5
      replace hu : OwI W2 w.heap.size u k (fun k => (k : Int)) := by rw [hW2]; exact hu
      replace hv : OwI W2 w.heap.size v k am := by rw [hW2]; exact hv
      clear hW2 hB b0 d0 d1
      have hs2 := hB2.size
      have l9 := k5.lt
      have nu := k5.ne_own (by decide) hu
      have nv := k5.ne_own (by decide) hv
      have nb : some b1 ≠ u.ownBlock := fun e => by have h1 := (hu.lt _ e.symm).1; have h2 : b1 < w.heap.size := hlow; omega
      go_upto_region 7 with (at_builtin; refine app_int' rfl (.tmp 29) (.tmp 31) rfl w.heap.size u k _ rfl rfl hu hB2 rfl (by omega) (by omega) ?_; intro u1 w1 hu1 hb1 hg1 hat; obtain ⟨g1, q1, rfl⟩ := own_form hu1; have k9' := k5.kept hg1 nu; have d0' := k9'.cell 0 rfl; have f0' := k9'.frozen 0; have hs1 := hb1.size; have hgs := hg1.size)
      refine world_name fun W3 hW3 => ?_
      have hv1 := one_v hv huv hg1
      have nv1 := k9'.ne_own (by decide) hv1
      have nu1 := k9'.ne_own (by decide) hu1
      have hB3 : Below w.heap.size w W3 := by rw [hW3]; exact hb1.setCell (p := ⟨w.heap.size + 1 + 1, 0, none⟩) (by simp; omega) _
      replace c1 : W3.cell? ⟨b1, o1 + k, none⟩ = some (.int .i64 (am k)) := (hB3.cell (p := ⟨b1, o1 + k, none⟩) hlow).trans c0
      have k2' : Blk W3 w.heap.size #[.slice A n ca, .slice F n cf, .slice V m cs] 27 := by rw [hW3]; exact (k2.kept hg1 (k2.ne_own (by decide) hu)).other (by omega) _
      have k4' : Blk W3 (w.heap.size + 1) #[.slice none 0 0, .slice none 0 0, .int .i64 0] 32 := by rw [hW3]; exact (k4.kept hg1 (k4.ne_own (by decide) hu)).other (by omega) _
      have k5' : Blk W3 (w.heap.size + 1 + 1) #[.slice (some ⟨g1, 0, none⟩) (k + 1) q1, v, .int .i64 0] 32 := by rw [hW3]; exact k9'.set 0 _
      replace hv1 : OwI W3 w.heap.size v k am := by rw [hW3]; exact own_set hv1 nv1 0 _
      replace hu1 : OwI W3 w.heap.size (.slice (some ⟨g1, 0, none⟩) (k + 1) q1) (k + 1) (fun k => (k : Int)) := by rw [hW3]; exact own_set hu1 nu1 0 _
      have huv1 : (Value.slice (some ⟨g1, 0, none⟩) (k + 1) q1).ownBlock ≠ v.ownBlock := by
        rcases hat with h | h
        · rw [h]
          rcases huv with h' | h'
          · rw [h'] at h; cases h
          · exact h'
        · rw [h]
          intro e
          have := (hv.lt _ e.symm).2
          omega
      clear hW3 hB2 k2 k4 k5 hu hv hb1 k9' d0' f0' hs1 hgs hs2 l9 nu nv hg1 huv hat nb c0
      have hs3 := hB3.size
      have l9 := k5'.lt
      go_wp2_with (at_builtin; refine app_int' rfl (.tmp 34) (.tmp 39) rfl w.heap.size v k _ rfl rfl hv1 hB3 rfl (by omega) (by omega) ?_; intro v2 w2 hv2 hb2 hg2 hat2; obtain ⟨g2, q2, rfl⟩ := own_form hv2; have k9' := k5'.kept hg2 nv1; have d1' := k9'.cell 1 rfl; have f1' := k9'.frozen 1; have hs1 := hb2.size; have hgs := hg2.size)
      have nu2 := k9'.ne_own (by decide) (hu1.kept hg2 (.inr huv1))
      have nv2 := k9'.ne_own (by decide) hv2
      go_roundg (n - (k + 1))
      case measure => have := HGK.out; omega
      case rel =>
        refine ⟨k + 1, _, _, by omega, rfl, by go_num, hb2.setCell (p := ⟨w.heap.size + 1 + 1, 1, none⟩) (by simp; omega) _, (k2'.kept hg2 (k2'.ne_own (by decide) hv1)).other (by omega) _, (k4'.kept hg2 (k4'.ne_own (by decide) hv1)).other (by omega) _, k9'.set 1 _, own_set (hu1.kept hg2 (.inr huv1)) nu2 1 _, own_set hv2 nv2 1 _, .inr ?_⟩
        rcases hat2 with h | h
        · rw [h]; exact huv1
        · rw [h]
          intro e
          have := (hu1.lt _ e).2
          omega
    · obtain rfl : k = n := by omega
      clear HGK hlt hk rm
      obtain ⟨gg, cg, rfl⟩ : ∃ gg cg, u = .slice (some ⟨gg, 0, none⟩) k cg := by
        obtain ⟨k, rfl⟩ : ∃ j, k = j + 1 := ⟨k - 1, by omega⟩
        exact own_form hu
      obtain ⟨gv, cw, rfl⟩ : ∃ gv cw, v = .slice (some ⟨gv, 0, none⟩) k cw := by
        obtain ⟨k, rfl⟩ : ∃ j, k = j + 1 := ⟨k - 1, by omega⟩
        exact own_form hv
      have hne : gg ≠ gv := by
        rcases huv with h | h
        · simp [Value.ownBlock] at h
        · simpa [Value.ownBlock] using h
      have hpx : PX w wr (.slice A k ca) (.slice F k cf) (.slice V m cs) k gg cg gv cw (fun k => k) am 0 := ⟨hB, k2, k4, k5, hu, hv, hne⟩
      have b0 := k2.cell 0 rfl
      clear hB k2 k4 k5 hu hv hne huv rs
      have OK := ok.ok
      have GD := st0_good (B := mkBas k m area floor S) OK (am := am) (fun k => (ham k).1)
      have HT := st0_tot (B := mkBas k m area floor S) (am := am) hn8 ham
      go_wp2
      go_loopg [10] (Slu.rank (mkBas k m area floor S) (st0 k am) + 1) (fun gk x wr => ∃ (st : Slu.St) (cv : Nat → Int) (ag : Bool) (gg cg gv cw : Nat), x = .bool ag ∧ gk = Slu.rank (mkBas k m area floor S) st + (if ag then 1 else 0) ∧ PAt (mkBas k m area floor S) (st0 k am) st cv ∧
        PX w wr (.slice A k ca) (.slice F k cf) (.slice V m cs) k gg cg gv cw st.rep cv (st.vol k) ∧ (ag = false → ∀ g s, ¬ Slu.Over (mkBas k m area floor S) st g s))
      case atStart => exact ⟨st0 k am, am, true, gg, cg, gv, cw, rfl, rfl, pat0 (B := mkBas k m area floor S) ham, by rw [show (st0 k am).vol k = 0 by simp [st0]]; exact hpx, by simp⟩
      case round =>
        obtain ⟨st, cv, ag, gg, cg, gv, cw, rfl, hgk, hpa, hpx, hno⟩ := hrel
        have HGK := Lib.hid hgk
        have HNO := Lib.hid hno
        clear hgk hno
        cases ag with
        | false => 
          have ST := still_of (HNO.out rfl)
          obtain ⟨q, rfl⟩ : ∃ q, k = q + 1 := ⟨k - 1, by omega⟩
          have d0 := hpx.k5.cell 0 rfl
          have d1 := hpx.k5.cell 1 rfl
          have d2 := hpx.k5.cell 2 rfl
          have f0 := hpx.k4.frozen 0
          have f1 := hpx.k4.frozen 1
          have f2 := hpx.k4.frozen 2
          have e0 := hpx.k4.cell 0 rfl
          have e1 := hpx.k4.cell 1 rfl
          have e2 := hpx.k4.cell 2 rfl
          have nu := hpx.k4.ne_own (by decide) hpx.hg
          have nv := hpx.k4.ne_own (by decide) hpx.hv
          go_wp2
          have z0 := ((hpx.k4.set 0 (.slice (some ⟨gg, 0, none⟩) (q + 1) cg)).set 1 (.slice (some ⟨gv, 0, none⟩) (q + 1) cw)).set 2 (.int .i64 (st.vol (q + 1)))
          have y0 := z0.cell 0 rfl
          have y1 := z0.cell 1 rfl
          have y2 := z0.cell 2 rfl
          refine bodyPost_ret (v := .agg #[.slice (some ⟨gg, 0, none⟩) (q + 1) cg, .slice (some ⟨gv, 0, none⟩) (q + 1) cw, .int .i64 (st.vol (q + 1))]) (by simp [results, Try.results16, go_sem, y0, y1, y2]) rfl ⟨_, _, st, cv, rfl, ⟨hpa.star, ST⟩, ?_, ?_, hpa.agree, fun i => by have := hpa.bd i; omega, ?_⟩
          · exact own_set (own_set (own_set hpx.hg nu 0 _) nu 1 _) nu 2 _
          · exact own_set (own_set (own_set hpx.hv nv 0 _) nv 1 _) nv 2 _
          · exact ((hpx.b.setCell (by simp) _).setCell (by simp) _).setCell (by simp) _
        | true =>
          go_wp2
          go_loopg [10, 11] k (fun gk x y wr => ∃ (g : Nat) (st' : Slu.St) (cv' : Nat → Int) (ag : Bool) (gg cg gv cw : Nat), g ≤ k ∧ gk = k - g ∧ x = .bool ag ∧ y = .int .i64 g ∧ PAt (mkBas k m area floor S) (st0 k am) st' cv' ∧
            PX w wr (.slice A k ca) (.slice F k cf) (.slice V m cs) k gg cg gv cw st'.rep cv' (st'.vol k) ∧ (ag = true → Slu.rank (mkBas k m area floor S) st' < Slu.rank (mkBas k m area floor S) st) ∧
            (ag = false → Slu.rank (mkBas k m area floor S) st' ≤ Slu.rank (mkBas k m area floor S) st ∧ ∀ g', g' < g → ∀ s, ¬ Slu.Over (mkBas k m area floor S) st' g' s))
          case atStart => exact ⟨0, st, cv, false, gg, cg, gv, cw, by omega, rfl, rfl, rfl, hpa, hpx, by simp, fun _ => ⟨Nat.le_refl _, fun g' h => by omega⟩⟩
          case round =>
            obtain ⟨g, st', cv', ag, gg, cg, gv, cw, hg, hgk, rfl, rfl, hpa, hpx, hag, hno⟩ := hrel
            have HGK2 := Lib.hid hgk
            have HAG := Lib.hid hag
            have HNO2 := Lib.hid hno
            clear hgk hag hno
            have GS := GD.star OK hpa.star
            have d0 := hpx.k5.cell 0 rfl
            have d1 := hpx.k5.cell 1 rfl
            have d2 := hpx.k5.cell 2 rfl
            have b0 := hpx.k2.cell 0 rfl
            have b1 := hpx.k2.cell 1 rfl
            have b2 := hpx.k2.cell 2 rfl
            by_cases hlt : g < k
            · have c1 := hpx.hg.cell g hlt
              by_cases hr : st'.rep g = g
              · have r1 : ((st'.rep g : Int) == (g : Int)) = true := by simp [hr]
                have HC := lowest_any wr (.slice A k ca) (.slice F k cf) (.slice V m cs) (.slice (some ⟨gg, 0, none⟩) k cg) (.slice (some ⟨gv, 0, none⟩) k cw) (.int .i64 (st'.vol k)) k m g S area st'.rep (hA.below hpx.b) (hS.below hpx.b) (hpx.hg.reads (by omega)) hn8 ok.m20 ((GS.iv.sea k).2 rfl) (fun j hj => ⟨ok.lt j hj, ok.le j hj⟩) hlt
                rcases lowR_spec k S st'.rep g m with ⟨l1, l2, l3⟩ | ⟨i, l1, l2, l3, l4, l5⟩
                · rw [l1, l2] at HC
                  have NO : ∀ s, ¬ Slu.Over (mkBas k m area floor S) st' g s := fun s o => by
                    obtain ⟨j, hj, rfl⟩ := mem_mk.1 o.lip.mem
                    exact l3 j hj o.lip.cr
                  clear l1 l2 l3 hr
                  go_wp2_with (go_at_call 50; (with_reducible refine HC.mono ?_); rintro e w' ⟨rfl, hb⟩)
                  go_roundg (k - (g + 1))
                  case measure => have := HGK2.out; omega
                  case rel => exact ⟨g + 1, st', cv', ag, gg, cg, gv, cw, by omega, rfl, rfl, by go_num, hpa, hpx.below hb, HAG.out, fun h => ⟨(HNO2.out h).1, fun g' hg' => by
                    by_cases e : g' = g
                    · subst e; exact NO
                    · exact (HNO2.out h).2 g' (by omega)⟩⟩
                · rw [l1, l4] at HC
                  have ic : (0 : Int) ≤ (i : Int) := Int.natCast_nonneg _
                  have im : (i : Int) < (m : Int) := by omega
                  obtain ⟨bs, os, rfl, x0, x1, x2⟩ := RS.out i l2
                  have x2 := cell_up hpx.b x2
                  go_upto_region 19 with (go_at_call 50; (with_reducible refine HC.mono ?_); rintro e w' ⟨rfl, hb⟩; have x2 := cell_up hb x2; have b2 := cell_up hb b2)
                  have hpx1 := hpx.below hb
                  refine world_name fun W1 hW1 => ?_
                  rw [← hW1] at hpx1 x2
                  clear hW1 hb hpx d0 d1 d2 b0 b1 b2 c1
                  have d0 := hpx1.k5.cell 0 rfl
                  have d1 := hpx1.k5.cell 1 rfl
                  have d2 := hpx1.k5.cell 2 rfl
                  have b0 := hpx1.k2.cell 0 rfl
                  have b1 := hpx1.k2.cell 1 rfl
                  have b2 := hpx1.k2.cell 2 rfl
                  have c2 := hpx1.hv.cell g hlt
                  have d0x := fun x => Ext.cell d0 x
                  have d1x := fun x => Ext.cell d1 x
                  have d2x := fun x => Ext.cell d2 x
                  have b0x := fun x => Ext.cell b0 x
                  have b1x := fun x => Ext.cell b1 x
                  have b2x := fun x => Ext.cell b2 x
                  have c2x := fun x => Ext.cell c2 x
                  have x2x := fun x => Ext.cell x2 x
                  have g0 : (0 : Int) ≤ (g : Int) := Int.natCast_nonneg _
                  have g1 : (g : Int) < (k : Int) := by omega
                  have hh1 := ok.h1 i l2
                  have hh2 := ok.h2 i l2
                  have cvg := hpa.bd g
                  have hA1 := hA.below hpx1.b
                  have hF1 := hF.below hpx1.b
                  have hG1 := hpx1.hg.reads (by omega)
                  refine wp_region_ext (by kernel_rfl) (by kernel_rfl) ?_
                  repeat (quiet_step ((go_at_call 51; refine calls_ext (room_any _ _ _ _ _ _ _ area floor (fun k => (st'.rep k : Int)) k _ _ (hA1.below (Ext.below _)) (hF1.below (Ext.below _)) (hG1.below (Ext.below _)) hn8 ok.rng (by omega) (by omega)))))
                  refine wpQuiet_nil ?_
                  rintro _ ⟨W2, rfl⟩
                  have HR := room_eq k m area floor S st'.rep g (S i).h
                  rw [HR]
                  have LIP : Slu.IsLip (mkBas k m area floor S) st'.rep g (S i) := ⟨mem_mk.2 ⟨i, l2, rfl⟩, l3, fun s hs hc => by obtain ⟨j, hj, rfl⟩ := mem_mk.1 hs; exact l5 j hj hc⟩
                  have RN := GS.room_nonneg OK LIP
                  have TL : Slu.other st'.rep (S i) g ≤ k := Slu.other_le OK GS LIP
                  have TNE : Slu.other st'.rep (S i) g ≠ g := Slu.other_ne l3
                  have RT : st'.rep (Slu.other st'.rep (S i) g) = Slu.other st'.rep (S i) g := Slu.crosses_rep GS.iv.idem (Slu.crosses_other l3)
                  have RX : Slu.room (mkBas k m area floor S) st'.rep g (S i).h ≤ 800000 := by
                    rw [← HR]
                    have t1 := grpA_range ok.rng (fun i => (st'.rep i : Int)) g k
                    have t2 := grpF_range ok.rng (fun i => (st'.rep i : Int)) g k
                    have t4 : grpA area (fun i => (st'.rep i : Int)) g k * (S i).h ≤ 800 * 1000 := Int.mul_le_mul (by omega) (by omega) (by omega) (by omega)
                    omega
                  have EA := hpa.agree g hlt hr
                  generalize hRR : Slu.room (mkBas k m area floor S) st'.rep g (S i).h = RR at RN RX ⊢
                  generalize ht : Slu.other st'.rep (S i) g = t at TL TNE RT ⊢
                  have hwr : IntKind.i64.wrap (cv' g - RR) = cv' g - RR := IntWalk.i64_in _ (by omega)
                  rw [hwr]
                  refine world_name fun W3 hW3 => ?_
                  have hpx2 := hpx1.below (w2 := W3) (by rw [hW3]; exact W2.below)
                  clear hW3 W2 hpx1 d0 d1 d2 b0 b1 b2 c2 d0x d1x d2x b0x b1x b2x c2x x2x x2 x0 x1 hA1 hF1 hG1 hwr HC HR
                  have HL := Lib.hid (And.intro l1 (And.intro l3 (And.intro l4 l5)))
                  have HT1 := Lib.hid (And.intro hRR (And.intro ht EA))
                  clear l1 l3 l4 l5 hRR ht EA
                  by_cases hrest : cv' g - RR ≤ 0
                  · have NO : ∀ s, ¬ Slu.Over (mkBas k m area floor S) st' g s := fun s o => by
                      have e := LIP.unique OK o.lip
                      subst e
                      have h1 := o.over
                      have h2 := HT1.out
                      rw [h2.1] at h1
                      omega
                    go_wp2
                    go_roundg (k - (g + 1))
                    case measure => have := HGK2.out; omega
                    case rel => exact ⟨g + 1, st', cv', ag, gg, cg, gv, cw, by omega, rfl, rfl, by go_num, hpa, hpx2, HAG.out, fun h => ⟨(HNO2.out h).1, fun g' hg' => by
                      by_cases e : g' = g
                      · subst e; exact NO
                      · exact (HNO2.out h).2 g' (by omega)⟩⟩
                  · have OV : Slu.Over (mkBas k m area floor S) st' g (S i) := ⟨hr, hlt, LIP, by have h2 := HT1.out; rw [h2.1]; omega⟩
                    have b0 := hpx2.k2.cell 0 rfl
                    have b1 := hpx2.k2.cell 1 rfl
                    have b2 := hpx2.k2.cell 2 rfl
                    have d0 := hpx2.k5.cell 0 rfl
                    have d1 := hpx2.k5.cell 1 rfl
                    have d2 := hpx2.k5.cell 2 rfl
                    have d2f := hpx2.k5.frozen 2
                    have c2 := hpx2.hv.cell g hlt
                    have c2f := hpx2.hv.unfrozen g
                    by_cases htn : t = k
                    · have r2 : ((t : Int) == (k : Int)) = true := by simp [htn]
                      have PS := PAt.sea OK GD HT hpa (s := S i) (r := cv' g - RR) OV (by have h2 := HT1.out; rw [h2.2.1, htn]; rfl) (by have h2 := HT1.out; rw [h2.1, h2.2.2])
                      have hw1 : IntKind.i64.wrap (cv' g - (cv' g - RR)) = cv' g - (cv' g - RR) := IntWalk.i64_in _ (by omega)
                      go_wp2
                      go_region
                      refine world_name fun W4 hW4 => ?_
                      have hpx3 := (hpx2.putv g hlt (cv' g - (cv' g - RR))).below (w2 := W4) (by rw [hW4]; exact (Below.refl _ _).drew)
                      have d2' := hpx3.k5.cell 2 rfl
                      have d2f' := hpx3.k5.frozen 2
                      have PV := vol_le_tot GS (i := k) (Nat.le_refl _)
                      have PV2 := tot_star OK GD hpa.star
                      have PV3 := GS.iv.nonneg k
                      have hw2 : IntKind.i64.wrap (st'.vol k + (cv' g - RR)) = st'.vol k + (cv' g - RR) := IntWalk.i64_in _ (by omega)
                      have PS' := Lib.hid PS
                      clear hW4 hpx2 d0 d1 d2 d2f c2 c2f b0 b1 b2 PS
                      go_wp2
                      go_roundg (k - (g + 1))
                      case measure => have := HGK2.out; omega
                      case rel =>
                        have PS := PS'.out
                        have hrk := Slu.rank_star OK GS (Slu.Star.refl st')
                        have sm : Slu.Step (mkBas k m area floor S) st' (Slu.moved st' g k (cv' g - RR)) := Slu.step_move (t := k) OV (by have h2 := HT1.out; rw [h2.2.1, htn]) (by have h2 := HT1.out; rw [h2.1, h2.2.2]) (fun mm => mm.1 rfl)
                        have hlr := Slu.rank_lt OK GS sm
                        refine ⟨g + 1, Slu.moved st' g k (cv' g - RR), _, true, gg, cg, gv, cw, by omega, rfl, rfl, by go_num, PS.1, ?_, fun _ => ?_, by simp⟩
                        · have h3 := hpx3.losts (st'.vol k + (cv' g - RR))
                          rw [show (Slu.moved st' g k (cv' g - RR)).vol k = st'.vol k + (cv' g - RR) from PS.2]
                          exact h3
                        · cases ag with
                          | true => have h1 := HAG.out rfl; omega
                          | false => have h1 := (HNO2.out rfl).1; omega
                    · have r2 : ((t : Int) == (k : Int)) = false := by simp; omega
                      have HC2 := lowest_any W3 (.slice A k ca) (.slice F k cf) (.slice (some ⟨bs, os, none⟩) m cs) (.slice (some ⟨gg, 0, none⟩) k cg) (.slice (some ⟨gv, 0, none⟩) k cw) (.int .i64 (st'.vol k)) k m t S area st'.rep (hA.below hpx2.b) (hS.below hpx2.b) (hpx2.hg.reads (by omega)) hn8 ok.m20 ((GS.iv.sea k).2 rfl) (fun j hj => ⟨ok.lt j hj, ok.le j hj⟩) (by omega)
                      have hct : Slu.crosses st'.rep (S i) t := by have h2 := HT1.out; rw [← h2.2.1]; exact Slu.crosses_other HL.out.2.1
                      obtain ⟨j, j1, j2, j3, j4, j5⟩ : ∃ j : Nat, (lowR k S st'.rep t m).1 = j ∧ j < m ∧ Slu.crosses st'.rep (S j) t ∧ (lowR k S st'.rep t m).2 = Slu.other st'.rep (S j) t ∧ ∀ k, k < m → Slu.crosses st'.rep (S k) t → (S j).h ≤ (S k).h := by
                        rcases lowR_spec k S st'.rep t m with ⟨_, _, q⟩ | q
                        · exact absurd hct (q i l2)
                        · exact q
                      rw [j1, j4] at HC2
                      have RT2 := room_eq k m area floor S st'.rep t (S i).h
                      have ME : Slu.Meets (mkBas k m area floor S) st' t (S i) ↔ j = i ∧ Slu.room (mkBas k m area floor S) st'.rep t (S i).h ≤ cv' t := by
                        rw [hpa.agree t (show t < k by omega) RT]
                        constructor
                        · intro h
                          have h1 := h.2.1.least (S j) (mem_mk.2 ⟨j, j2, rfl⟩) j3
                          have h2 := j5 i l2 hct
                          exact ⟨ok.inj j i j2 l2 (by omega), h.2.2⟩
                        · rintro ⟨rfl, h⟩
                          exact ⟨htn, ⟨mem_mk.2 ⟨j, j2, rfl⟩, hct, fun s hs hc => by obtain ⟨q, hq, rfl⟩ := mem_mk.1 hs; exact j5 q hq hc⟩, h⟩
                      obtain ⟨mt, hmt⟩ : ∃ mt : Bool, (mt = true ↔ Slu.Meets (mkBas k m area floor S) st' t (S i)) := by
                        by_cases h : Slu.Meets (mkBas k m area floor S) st' t (S i)
                        · exact ⟨true, by simp [h]⟩
                        · exact ⟨false, by simp [h]⟩
                      have HMT := Lib.hid hmt
                      have HJ := Lib.hid (And.intro ME (And.intro hct (And.intro j4 j5)))
                      clear hmt ME hct j1 j3 j4 j5
                      go_upto_region 26 with (go_at_call 50; (with_reducible refine HC2.mono ?_); rintro e w' ⟨rfl, hb⟩)
                      have hpx3 := hpx2.below hb
                      refine world_name fun W4 hW4 => ?_
                      rw [← hW4] at hpx3
                      clear hW4 hb hpx2 d0 d1 d2 d2f c2 c2f b0 b1 b2
                      go_cut [127] from 112 to 127 (fun x wx => x = .bool mt ∧ PX w wx (.slice A k ca) (.slice F k cf) (.slice (some ⟨bs, os, none⟩) m cs) k gg cg gv cw st'.rep cv' (st'.vol k))
                      case first =>
                        by_cases hji : j = i
                        · have r3 : ((j : Int) == (i : Int)) = true := by simp [hji]
                          have tk : t < k := by omega
                          have t0 : (0 : Int) ≤ (t : Int) := Int.natCast_nonneg _
                          have t1 : (t : Int) < (k : Int) := by omega
                          have c2 := hpx3.hv.cell t tk
                          have d0x := fun x => Ext.cell (hpx3.k5.cell 0 rfl) x
                          have d1x := fun x => Ext.cell (hpx3.k5.cell 1 rfl) x
                          have d2x := fun x => Ext.cell (hpx3.k5.cell 2 rfl) x
                          have b0x := fun x => Ext.cell (hpx3.k2.cell 0 rfl) x
                          have b1x := fun x => Ext.cell (hpx3.k2.cell 1 rfl) x
                          have b2x := fun x => Ext.cell (hpx3.k2.cell 2 rfl) x
                          have c2x := fun x => Ext.cell c2 x
                          have hA1 := hA.below hpx3.b
                          have hF1 := hF.below hpx3.b
                          have hG1 := hpx3.hg.reads (by omega)
                          have r3e := Lib.hid hji
                          clear hji
                          refine wp_region_ext (by kernel_rfl) (by kernel_rfl) ?_
                          repeat (quiet_step ((go_at_call 51; refine calls_ext (room_any _ _ _ _ _ _ _ area floor (fun k => (st'.rep k : Int)) k _ _ (hA1.below (Ext.below _)) (hF1.below (Ext.below _)) (hG1.below (Ext.below _)) hn8 ok.rng (by omega) (by omega)))))
                          refine wpQuiet_nil ?_
                          rintro _ ⟨W5, rfl⟩
                          have RT3 := room_eq k m area floor S st'.rep t (S i).h
                          refine world_name fun W6 hW6 => ?_
                          have hpx4 := hpx3.below (w2 := W6) (by rw [hW6]; exact W5.below)
                          clear hW6 W5 hpx3
                          go_wp2
                          go_meet
                          exact ⟨by
                            congr 1
                            have h1 := HMT.out
                            have h2 := HJ.out.1
                            rw [Bool.eq_iff_iff, h1, h2]
                            simp [r3e.out], hpx4⟩
                        · have r3 : ((j : Int) == (i : Int)) = false := by simp; omega
                          go_quiet (fail)
                          go_wp2
                          go_meet
                          exact ⟨by
                            congr 1
                            have h1 := HMT.out
                            have h2 := HJ.out.1
                            cases mt with
                            | false => rfl
                            | true => exact absurd (h2.1 (h1.1 rfl)).1 hji, hpx3.below (below_drewN (Below.refl _ _) _)⟩
                      case rest =>
                        obtain ⟨rfl, hpx4⟩ := hcut
                        have d0 := hpx4.k5.cell 0 rfl
                        have d1 := hpx4.k5.cell 1 rfl
                        have d2 := hpx4.k5.cell 2 rfl
                        have d0f := hpx4.k5.frozen 0
                        have d1f := hpx4.k5.frozen 1
                        have d2f := hpx4.k5.frozen 2
                        have c2 := hpx4.hv.cell g hlt
                        have c2f := hpx4.hv.unfrozen g
                        cases mt with
                        | true =>
                          have MM := HMT.out.1 rfl
                          have OC := one_any wc (.slice (some ⟨gg, 0, none⟩) k cg) (.slice (some ⟨gv, 0, none⟩) k cw) (st'.vol k) k g t st'.rep cv' (hpx4.hg.reads (by omega)) (hpx4.hv.reads (by omega)) hn8 hlt (by omega) (Ne.symm TNE) (fun i => by have := hpa.bd i; omega)
                          go_wp2_with (go_at_call 52; (with_reducible refine OC.mono ?_); rintro e w' ⟨ug, uv, rfl, o1, o2, o3, hb⟩; obtain ⟨g2, q2, rfl⟩ := o1.form hn1; obtain ⟨v2, q3, rfl⟩ := o2.form hn1; have d0 := cell_up hb d0; have d1 := cell_up hb d1; have d2 := cell_up hb d2; have d0f := (hpx4.k5.below hb).frozen 0; have d1f := (hpx4.k5.below hb).frozen 1; have d2f := (hpx4.k5.below hb).frozen 2)
                          have hpx5 := hpx4.below hb
                          have o1' : OwI w' w.heap.size (.slice (some ⟨g2, 0, none⟩) k q2) k (fun i => ((Slu.merged st' g t).rep i : Int)) := (o1.mono hpx4.b.size).congr fun i _ => (merged_oneG st' g t i).symm
                          have o2' : OwI w' w.heap.size (.slice (some ⟨v2, 0, none⟩) k q3) k (oneV cv' g t) := o2.mono hpx4.b.size
                          have o3' : g2 ≠ v2 := by simpa [Value.ownBlock] using o3
                          have hpx6 := hpx5.whole o1' o2' o3' (lost' := st'.vol k)
                          go_roundg (k - (g + 1))
                          case measure => have := HGK2.out; omega
                          case rel =>
                            have PS := PAt.merge OK GD HT hpa OV (t := t) HT1.out.2.1 MM
                            have hlr := Slu.rank_lt OK GS (Slu.step_merge OV HT1.out.2.1 MM)
                            refine ⟨g + 1, Slu.merged st' g t, _, true, g2, q2, v2, q3, by omega, rfl, rfl, by go_num, PS, ?_, fun _ => ?_, by simp⟩
                            · rw [Slu.merged_vol (st := st') (k := k) (by omega) (by omega)]
                              exact hpx6
                            · cases ag with
                              | true => have h1 := HAG.out rfl; omega
                              | false => have h1 := (HNO2.out rfl).1; omega
                        | false =>
                          have MM : ¬ Slu.Meets (mkBas k m area floor S) st' t (S i) := fun h => by have := HMT.out.2 h; cases this
                          have hw1 : IntKind.i64.wrap (cv' g - (cv' g - RR)) = cv' g - (cv' g - RR) := IntWalk.i64_in _ (by omega)
                          go_wp2
                          go_region
                          refine world_name fun W4 hW4 => ?_
                          have hpx5 := (hpx4.putv g hlt (cv' g - (cv' g - RR))).below (w2 := W4) (by rw [hW4]; exact (Below.refl _ _).drew)
                          clear hW4 hpx4 d0 d1 d2 d0f d1f d2f c2 c2f
                          have d1 := hpx5.k5.cell 1 rfl
                          have tk : t < k := by omega
                          have t0 : (0 : Int) ≤ (t : Int) := Int.natCast_nonneg _
                          have t1 : (t : Int) < (k : Int) := by omega
                          have c2 := hpx5.hv.cell t tk
                          have c2f := hpx5.hv.unfrozen t
                          rw [if_neg TNE] at c2
                          have cvt := hpa.bd t
                          have hw2 : IntKind.i64.wrap (cv' t + (cv' g - RR)) = cv' t + (cv' g - RR) := IntWalk.i64_in _ (by omega)
                          go_wp2
                          go_region
                          refine world_name fun W5 hW5 => ?_
                          have hpx6 := (hpx5.putv t tk (cv' t + (cv' g - RR))).below (w2 := W5) (by rw [hW5]; exact (Below.refl _ _).drew)
                          clear hW5 hpx5 d1 c2 c2f
                          go_wp2
                          go_roundg (k - (g + 1))
                          case measure => have := HGK2.out; omega
                          case rel =>
                            have er : st'.vol g - Slu.room (mkBas k m area floor S) st'.rep g (S i).h = cv' g - RR := by have h2 := HT1.out; rw [h2.1, h2.2.2]
                            have PS := PAt.move OK GD HT hpa OV (t := t) HT1.out.2.1 er MM tk
                            have hlr := Slu.rank_lt OK GS (Slu.step_move OV HT1.out.2.1 er MM)
                            refine ⟨g + 1, Slu.moved st' g t (cv' g - RR), _, true, gg, cg, gv, cw, by omega, rfl, rfl, by go_num, PS, ?_, fun _ => ?_, by simp⟩
                            · rw [Slu.moved_vol_other (st := st') (k := k) (by omega) (by omega)]
                              exact hpx6
                            · cases ag with
                              | true => have h1 := HAG.out rfl; omega
                              | false => have h1 := (HNO2.out rfl).1; omega
              · have r1 : ((st'.rep g : Int) == (g : Int)) = false := by simp; omega
                have NO : ∀ s, ¬ Slu.Over (mkBas k m area floor S) st' g s := fun s o => hr o.root
                clear hr
                go_wp2
                go_roundg (k - (g + 1))
                case measure => have := HGK2.out; omega
                case rel => exact ⟨g + 1, st', cv', ag, gg, cg, gv, cw, by omega, rfl, rfl, by go_num, hpa, hpx, HAG.out, fun h => ⟨(HNO2.out h).1, fun g' hg' => by
                    by_cases e : g' = g
                    · subst e; exact NO
                    · exact (HNO2.out h).2 g' (by omega)⟩⟩
            · obtain rfl : g = k := by omega
              clear hlt
              go_wp2
              go_roundg (Slu.rank (mkBas g m area floor S) st' + (if ag then 1 else 0))
              case measure => 
                have := HGK.out
                rw [if_pos trivial] at this
                cases ag with
                | true => have h2 := HAG.out rfl; rw [if_pos rfl]; omega
                | false => have h2 := (HNO2.out rfl).1; rw [if_neg (by decide)]; omega
              case rel => exact ⟨st', cv', ag, gg, cg, gv, cw, rfl, rfl, hpa, hpx, fun h g' s o => (HNO2.out h).2 g' o.lt s o⟩

end Go.Proofs.Ytjhididnmkbgoaa
