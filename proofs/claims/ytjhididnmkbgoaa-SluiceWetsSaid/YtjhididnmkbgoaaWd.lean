import Derived.Test.YtjhididnmkbgoaaBase
set_option linter.unusedVariables false
set_option linter.unusedSimpArgs false
namespace Go.Proofs.Ytjhididnmkbgoaa
open Go.RowKit

/-- One group of two, and its volume. -/
def oneG (rep : Nat → Nat) (g t : Nat) (i : Nat) : Int := if rep i = max g t then (min g t : Nat) else (rep i : Nat)
def oneV (vol : Nat → Int) (g t : Nat) (i : Nat) : Int := if i = min g t then vol i + vol (max g t) else vol i

theorem oneG_comm (rep : Nat → Nat) (g t : Nat) : oneG rep g t = oneG rep t g := by funext i; unfold oneG; rw [Nat.max_comm, Nat.min_comm]
theorem oneV_comm (vol : Nat → Int) (g t : Nat) : oneV vol g t = oneV vol t g := by funext i; unfold oneV; rw [Nat.max_comm, Nat.min_comm]

theorem one_v {w w1 : World} {base : Nat} {u v : Value} {k : Nat} {f : Nat → Int} (hv : OwI w base v k f) (huv : u.ownBlock = none ∨ u.ownBlock ≠ v.ownBlock) (hg : w.grownBy w1 u.ownBlock) : OwI w1 base v k f :=
  hv.kept hg (by
    rcases huv with h | h
    · rw [h]; cases v.ownBlock <;> simp
    · exact .inr (Ne.symm h))
theorem own_set {w : World} {base b : Nat} {v : Value} {k : Nat} {f : Nat → Int} (hv : OwI w base v k f) (hne : some b ≠ v.ownBlock) (j : Nat) (x : Value) : OwI (w.setCell ⟨b, j, none⟩ x) base v k f :=
  hv.kept (grown_setCell w b j x) (.inr (Ne.symm hne))

set_option maxRecDepth 100000 in
set_option maxHeartbeats 2000000 in
theorem one_lt (w : World) (vg vv : Value) (lost : Int) (n a c : Nat) (rep : Nat → Nat) (vol : Nat → Int)
    (hG : RdI w vg n (fun k => (rep k : Int))) (hV : RdI w vv n vol) (hn : n ≤ 8) (hac : a < c) (hc : c < n) (hvol : ∀ k, 0 ≤ vol k ∧ vol k ≤ 1000000000000) :
    Calls Try.prog 52 #[.agg #[vg, vv, .int .i64 lost], .int .i64 a, .int .i64 c] w fun e w' => ∃ ug uv, e = .returned (.agg #[ug, uv, .int .i64 lost]) ∧
      OwI w' w.heap.size ug n (oneG rep a c) ∧ OwI w' w.heap.size uv n (oneV vol a c) ∧ (ug.ownBlock = none ∨ ug.ownBlock ≠ uv.ownBlock) ∧ Below w.heap.size w w' := by
  obtain ⟨G, cg, rfl, lg, rg⟩ := hG
  obtain ⟨V, cv, rfl, lv, rv⟩ := hV
  obtain ⟨bvc, ovc, eV, cvc⟩ := rv c hc
  subst eV
  have hna : ¬ c < a := by omega
  go_enter Try.func52, Try.ntmps52
  go_wp2
  refine wp_world fun W hW => ?_
  have hB : Below w.heap.size w W := by rw [hW]; exact (((Below.refl _ _).alloc (Nat.le_refl _) _).alloc (by simp) _).alloc (by simp; omega) _
  have k3 : Blk W w.heap.size #[.slice G n cg, .slice (some ⟨bvc, ovc, none⟩) n cv, .int .i64 lost] 32 := by rw [hW]; exact ((Blk.new _ _ _).alloc _).alloc _
  have k6 : Blk W (w.heap.size + 1) #[.slice none 0 0, .slice none 0 0, .int .i64 0] 32 := by rw [hW]; have := Blk.new (w.alloc (Obj.cells #[Value.slice G n cg, Value.slice (some ⟨bvc, ovc, none⟩) n cv, Value.int IntKind.i64 lost] 32)) #[Value.slice none 0 0, Value.slice none 0 0, Value.int IntKind.i64 0] 32; simp only [World.size_alloc] at this; exact this.alloc _
  have k9 : Blk W (w.heap.size + 1 + 1) #[.slice none 0 0, .slice none 0 0, .int .i64 lost] 32 := by rw [hW]; have := Blk.new ((w.alloc (Obj.cells #[Value.slice G n cg, Value.slice (some ⟨bvc, ovc, none⟩) n cv, Value.int IntKind.i64 lost] 32)).alloc (Obj.cells #[Value.slice none 0 0, Value.slice none 0 0, Value.int IntKind.i64 0] 32)) #[Value.slice none 0 0, Value.slice none 0 0, Value.int IntKind.i64 lost] 32; simp only [World.size_alloc] at this; exact this
  clear hW
  go_loopw [10] (fun x wr => ∃ (k : Nat) (u v : Value), k ≤ n ∧ x = .int .i64 k ∧ Below w.heap.size w wr ∧ Blk wr w.heap.size #[.slice G n cg, .slice (some ⟨bvc, ovc, none⟩) n cv, .int .i64 lost] 32 ∧ Blk wr (w.heap.size + 1) #[.slice none 0 0, .slice none 0 0, .int .i64 0] 32 ∧ Blk wr (w.heap.size + 1 + 1) #[u, v, .int .i64 lost] 32 ∧
      OwI wr w.heap.size u k (oneG rep a c) ∧ OwI wr w.heap.size v k (oneV vol a c) ∧ (u.ownBlock = none ∨ u.ownBlock ≠ v.ownBlock)) (fun x _ => n - (intOf x).toNat)
  case atStart => exact ⟨0, _, _, by omega, rfl, hB, k3, k6, k9, OwI.nil _ _ _, OwI.nil _ _ _, .inl rfl⟩
  case round =>
    obtain ⟨k, u, v, hk, rfl, hB, k3, k6, k9, hu, hv, huv⟩ := hrel
    have b0 := k3.cell 0 rfl
    have b1 := k3.cell 1 rfl
    by_cases hlt : k < n
    · obtain ⟨b1', o1, rfl, c1⟩ := rg k hlt
      obtain ⟨b2, o2, e2, c2⟩ := rv k hlt
      cases e2
      have c1 := cell_up hB c1
      have c2 := cell_up hB c2
      have c3 := cell_up hB cvc
      have d0 := k9.cell 0 rfl
      have d1 := k9.cell 1 rfl
      have v1 := hvol k
      have v2 := hvol c
      clear rg rv cvc
      go_wp2
      go_quiet (fail)
      refine world_name fun W2 hW2 => ?_
      have hB2 : Below w.heap.size w W2 := by rw [hW2]; exact below_drewN hB _
      replace c1 : W2.cell? ⟨b1', o1 + k, none⟩ = some (.int .i64 (rep k)) := by rw [hW2]; exact c1
      replace c3 : W2.cell? ⟨bvc, ovc + c, none⟩ = some (.int .i64 (vol c)) := by rw [hW2]; exact c3
      replace k3 : Blk W2 w.heap.size #[.slice (some ⟨b1', o1, none⟩) n cg, .slice (some ⟨bvc, ovc, none⟩) n cv, .int .i64 lost] 32 := by rw [hW2]; exact k3
      replace k6 : Blk W2 (w.heap.size + 1) #[.slice none 0 0, .slice none 0 0, .int .i64 0] 32 := by rw [hW2]; exact k6
      replace k9 : Blk W2 (w.heap.size + 1 + 1) #[u, v, .int .i64 lost] 32 := by rw [hW2]; exact k9
      replace hu : OwI W2 w.heap.size u k (oneG rep a c) := by rw [hW2]; exact hu
      replace hv : OwI W2 w.heap.size v k (oneV vol a c) := by rw [hW2]; exact hv
      clear hW2 hB b0 b1 d0 d1 c2
      have b1 := k3.cell 1 rfl
      have d0 := k9.cell 0 rfl
      have d1 := k9.cell 1 rfl
      have hs2 := hB2.size
      have l9 := k9.lt
      have nu := k9.ne_own (by decide) hu
      have nv := k9.ne_own (by decide) hv
      go_upto_if 43 with (fail)
      go_cut [11] (fun x wx => x = .int .i64 (oneG rep a c k) ∧ W2 = wx)
      case first =>
        by_cases R : rep k = c
        · have R1 : ((rep k : Int) == (c : Int)) = true := by simp [R]
          have HY1 : Hid ((a : Int) = oneG rep a c k) := by show _ = _; unfold oneG; rw [Nat.max_eq_right (by omega), Nat.min_eq_left (by omega), if_pos R]
          clear R
          go_wp2
          go_meet
          exact ⟨by rw [← HY1.out], rfl⟩
        · have R1 : ((rep k : Int) == (c : Int)) = false := by simp; omega
          have HY1 : Hid ((rep k : Int) = oneG rep a c k) := by show _ = _; unfold oneG; rw [Nat.max_eq_right (by omega), Nat.min_eq_left (by omega), if_neg R]
          clear R
          go_wp2
          go_meet
          exact ⟨by rw [← HY1.out], rfl⟩
      case rest =>
        obtain ⟨rfl, rfl⟩ := hcut
        go_upto_if 47 with (fail)
        go_cut [12] (fun x wx => x = .int .i64 (oneV vol a c k) ∧ W2 = wx)
        case first =>
          by_cases R : k = a
          · have R1 : ((k : Int) == (a : Int)) = true := by simp [R]
            have HY1 : Hid (vol k + vol c = oneV vol a c k) := by show _ = _; unfold oneV; rw [Nat.max_eq_right (by omega), Nat.min_eq_left (by omega), if_pos R]
            clear R
            go_wp2
            go_meet
            exact ⟨by rw [← HY1.out], rfl⟩
          · have R1 : ((k : Int) == (a : Int)) = false := by simp; omega
            have HY1 : Hid (vol k = oneV vol a c k) := by show _ = _; unfold oneV; rw [Nat.max_eq_right (by omega), Nat.min_eq_left (by omega), if_neg R]
            clear R
            go_wp2
            go_meet
            exact ⟨by rw [← HY1.out], rfl⟩
        case rest =>
          obtain ⟨rfl, rfl⟩ := hcut
          go_wp2
          go_quiet (fail)
          refine world_name fun W2 hW2 => ?_
          replace hB2 : Below w.heap.size w W2 := by rw [hW2]; exact below_drewN hB2 _
          replace k3 : Blk W2 w.heap.size #[.slice (some ⟨b1', o1, none⟩) n cg, .slice (some ⟨bvc, ovc, none⟩) n cv, .int .i64 lost] 32 := by rw [hW2]; exact k3
          replace k6 : Blk W2 (w.heap.size + 1) #[.slice none 0 0, .slice none 0 0, .int .i64 0] 32 := by rw [hW2]; exact k6
          replace k9 : Blk W2 (w.heap.size + 1 + 1) #[u, v, .int .i64 lost] 32 := by rw [hW2]; exact k9
          replace hu : OwI W2 w.heap.size u k (oneG rep a c) := by rw [hW2]; exact hu
          replace hv : OwI W2 w.heap.size v k (oneV vol a c) := by rw [hW2]; exact hv
          clear hW2 b1 d0 d1 c1 c3 hs2 l9
          have hs2 := hB2.size
          have l9 := k9.lt
          go_upto_region 13 with (at_builtin; refine app_int' rfl (.tmp 59) (.tmp 61) rfl w.heap.size u k _ rfl rfl hu hB2 rfl (by omega) (by omega) ?_; intro u1 w1 hu1 hb1 hg1 hat; obtain ⟨g1, q1, rfl⟩ := own_form hu1; have k9' := k9.kept hg1 nu; have d0' := k9'.cell 0 rfl; have f0' := k9'.frozen 0; have hs1 := hb1.size; have hgs := hg1.size)
          refine world_name fun W3 hW3 => ?_
          have hv1 := one_v hv huv hg1
          have nv1 := k9'.ne_own (by decide) hv1
          have nu1 := k9'.ne_own (by decide) hu1
          have hB3 : Below w.heap.size w W3 := by rw [hW3]; exact hb1.setCell (p := ⟨w.heap.size + 1 + 1, 0, none⟩) (by simp; omega) _
          have k3' : Blk W3 w.heap.size #[.slice (some ⟨b1', o1, none⟩) n cg, .slice (some ⟨bvc, ovc, none⟩) n cv, .int .i64 lost] 32 := by rw [hW3]; exact (k3.kept hg1 (k3.ne_own (by decide) hu)).other (by omega) _
          have k6' : Blk W3 (w.heap.size + 1) #[.slice none 0 0, .slice none 0 0, .int .i64 0] 32 := by rw [hW3]; exact (k6.kept hg1 (k6.ne_own (by decide) hu)).other (by omega) _
          have k9'' : Blk W3 (w.heap.size + 1 + 1) #[.slice (some ⟨g1, 0, none⟩) (k + 1) q1, v, .int .i64 lost] 32 := by rw [hW3]; exact k9'.set 0 _
          replace hv1 : OwI W3 w.heap.size v k (oneV vol a c) := by rw [hW3]; exact own_set hv1 nv1 0 _
          replace hu1 : OwI W3 w.heap.size (.slice (some ⟨g1, 0, none⟩) (k + 1) q1) (k + 1) (oneG rep a c) := by rw [hW3]; exact own_set hu1 nu1 0 _
          have huv1 : (Value.slice (some ⟨g1, 0, none⟩) (k + 1) q1).ownBlock ≠ v.ownBlock := by
            rcases hat with h | h
            · rw [h]
              rcases huv with h' | h'
              · rw [h'] at h; cases h
              · exact h'
            · rw [h]
              intro e
              have := (hv.lt _ e.symm).2
              omega
          clear hW3 hB2 k3 k6 k9 hu hv hb1 k9' d0' f0' hs1 hgs hs2 l9 nu nv hg1 huv hat
          have hs3 := hB3.size
          have l9 := k9''.lt
          go_wp2_with (at_builtin; refine app_int' rfl (.tmp 64) (.tmp 66) rfl w.heap.size v k _ rfl rfl hv1 hB3 rfl (by omega) (by omega) ?_; intro v2 w2 hv2 hb2 hg2 hat2; obtain ⟨g2, q2, rfl⟩ := own_form hv2; have k9' := k9''.kept hg2 nv1; have d1' := k9'.cell 1 rfl; have f1' := k9'.frozen 1; have hs1 := hb2.size; have hgs := hg2.size)
          have nu2 := k9'.ne_own (by decide) (hu1.kept hg2 (.inr huv1))
          have nv2 := k9'.ne_own (by decide) hv2
          go_roundw
          case rel =>
            refine ⟨k + 1, _, _, by omega, by go_num, hb2.setCell (p := ⟨w.heap.size + 1 + 1, 1, none⟩) (by simp; omega) _, (k3'.kept hg2 (k3'.ne_own (by decide) hv1)).other (by omega) _, (k6'.kept hg2 (k6'.ne_own (by decide) hv1)).other (by omega) _, k9'.set 1 _, own_set (hu1.kept hg2 (.inr huv1)) nu2 1 _, own_set hv2 nv2 1 _, .inr ?_⟩
            rcases hat2 with h | h
            · rw [h]; exact huv1
            · rw [h]
              intro e
              have := (hu1.lt _ e).2
              omega
          case measure => simp [intOf]; omega
    · obtain rfl : k = n := by omega
      clear rg rv cvc
      obtain ⟨k, rfl⟩ : ∃ m, k = m + 1 := ⟨k - 1, by omega⟩
      obtain ⟨g1, q1, rfl⟩ := own_form hu
      obtain ⟨g2, q2, rfl⟩ := own_form hv
      have d0 := k9.cell 0 rfl
      have d1 := k9.cell 1 rfl
      have d2 := k9.cell 2 rfl
      have e0 := k6.cell 0 rfl
      have e1 := k6.cell 1 rfl
      have e2 := k6.cell 2 rfl
      have f0 := k6.frozen 0
      have f1 := k6.frozen 1
      have f2 := k6.frozen 2
      have nu := k6.ne_own (by decide) hu
      have nv := k6.ne_own (by decide) hv
      go_wp2
      have z0 := ((k6.set 0 (.slice (some ⟨g1, 0, none⟩) (k + 1) q1)).set 1 (.slice (some ⟨g2, 0, none⟩) (k + 1) q2)).set 2 (.int .i64 lost)
      have y0 := z0.cell 0 rfl
      have y1 := z0.cell 1 rfl
      have y2 := z0.cell 2 rfl
      refine bodyPost_ret (v := .agg #[.slice (some ⟨g1, 0, none⟩) (k + 1) q1, .slice (some ⟨g2, 0, none⟩) (k + 1) q2, .int .i64 lost]) (by simp [results, Try.results52, go_sem, y0, y1, y2]) rfl ⟨_, _, rfl, ?_, ?_, huv, ?_⟩
      · exact own_set (own_set (own_set hu nu 0 _) nu 1 _) nu 2 _
      · exact own_set (own_set (own_set hv nv 0 _) nv 1 _) nv 2 _
      · exact ((hB.setCell (by simp) _).setCell (by simp) _).setCell (by simp) _


set_option maxRecDepth 100000 in
set_option maxHeartbeats 2000000 in
theorem one_gt (w : World) (vg vv : Value) (lost : Int) (n a c : Nat) (rep : Nat → Nat) (vol : Nat → Int)
    (hG : RdI w vg n (fun k => (rep k : Int))) (hV : RdI w vv n vol) (hn : n ≤ 8) (hac : a < c) (hc : c < n) (hvol : ∀ k, 0 ≤ vol k ∧ vol k ≤ 1000000000000) :
    Calls Try.prog 52 #[.agg #[vg, vv, .int .i64 lost], .int .i64 c, .int .i64 a] w fun e w' => ∃ ug uv, e = .returned (.agg #[ug, uv, .int .i64 lost]) ∧
      OwI w' w.heap.size ug n (oneG rep a c) ∧ OwI w' w.heap.size uv n (oneV vol a c) ∧ (ug.ownBlock = none ∨ ug.ownBlock ≠ uv.ownBlock) ∧ Below w.heap.size w w' := by
  obtain ⟨G, cg, rfl, lg, rg⟩ := hG
  obtain ⟨V, cv, rfl, lv, rv⟩ := hV
  obtain ⟨bvc, ovc, eV, cvc⟩ := rv c hc
  subst eV
  have hna : ¬ c < a := by omega
  go_enter Try.func52, Try.ntmps52
  go_wp2
  refine wp_world fun W hW => ?_
  have hB : Below w.heap.size w W := by rw [hW]; exact (((Below.refl _ _).alloc (Nat.le_refl _) _).alloc (by simp) _).alloc (by simp; omega) _
  have k3 : Blk W w.heap.size #[.slice G n cg, .slice (some ⟨bvc, ovc, none⟩) n cv, .int .i64 lost] 32 := by rw [hW]; exact ((Blk.new _ _ _).alloc _).alloc _
  have k6 : Blk W (w.heap.size + 1) #[.slice none 0 0, .slice none 0 0, .int .i64 0] 32 := by rw [hW]; have := Blk.new (w.alloc (Obj.cells #[Value.slice G n cg, Value.slice (some ⟨bvc, ovc, none⟩) n cv, Value.int IntKind.i64 lost] 32)) #[Value.slice none 0 0, Value.slice none 0 0, Value.int IntKind.i64 0] 32; simp only [World.size_alloc] at this; exact this.alloc _
  have k9 : Blk W (w.heap.size + 1 + 1) #[.slice none 0 0, .slice none 0 0, .int .i64 lost] 32 := by rw [hW]; have := Blk.new ((w.alloc (Obj.cells #[Value.slice G n cg, Value.slice (some ⟨bvc, ovc, none⟩) n cv, Value.int IntKind.i64 lost] 32)).alloc (Obj.cells #[Value.slice none 0 0, Value.slice none 0 0, Value.int IntKind.i64 0] 32)) #[Value.slice none 0 0, Value.slice none 0 0, Value.int IntKind.i64 lost] 32; simp only [World.size_alloc] at this; exact this
  clear hW
  go_loopw [10] (fun x wr => ∃ (k : Nat) (u v : Value), k ≤ n ∧ x = .int .i64 k ∧ Below w.heap.size w wr ∧ Blk wr w.heap.size #[.slice G n cg, .slice (some ⟨bvc, ovc, none⟩) n cv, .int .i64 lost] 32 ∧ Blk wr (w.heap.size + 1) #[.slice none 0 0, .slice none 0 0, .int .i64 0] 32 ∧ Blk wr (w.heap.size + 1 + 1) #[u, v, .int .i64 lost] 32 ∧
      OwI wr w.heap.size u k (oneG rep a c) ∧ OwI wr w.heap.size v k (oneV vol a c) ∧ (u.ownBlock = none ∨ u.ownBlock ≠ v.ownBlock)) (fun x _ => n - (intOf x).toNat)
  case atStart => exact ⟨0, _, _, by omega, rfl, hB, k3, k6, k9, OwI.nil _ _ _, OwI.nil _ _ _, .inl rfl⟩
  case round =>
    obtain ⟨k, u, v, hk, rfl, hB, k3, k6, k9, hu, hv, huv⟩ := hrel
    have b0 := k3.cell 0 rfl
    have b1 := k3.cell 1 rfl
    by_cases hlt : k < n
    · obtain ⟨b1', o1, rfl, c1⟩ := rg k hlt
      obtain ⟨b2, o2, e2, c2⟩ := rv k hlt
      cases e2
      have c1 := cell_up hB c1
      have c2 := cell_up hB c2
      have c3 := cell_up hB cvc
      have d0 := k9.cell 0 rfl
      have d1 := k9.cell 1 rfl
      have v1 := hvol k
      have v2 := hvol c
      clear rg rv cvc
      go_wp2
      go_quiet (fail)
      refine world_name fun W2 hW2 => ?_
      have hB2 : Below w.heap.size w W2 := by rw [hW2]; exact below_drewN hB _
      replace c1 : W2.cell? ⟨b1', o1 + k, none⟩ = some (.int .i64 (rep k)) := by rw [hW2]; exact c1
      replace c3 : W2.cell? ⟨bvc, ovc + c, none⟩ = some (.int .i64 (vol c)) := by rw [hW2]; exact c3
      replace k3 : Blk W2 w.heap.size #[.slice (some ⟨b1', o1, none⟩) n cg, .slice (some ⟨bvc, ovc, none⟩) n cv, .int .i64 lost] 32 := by rw [hW2]; exact k3
      replace k6 : Blk W2 (w.heap.size + 1) #[.slice none 0 0, .slice none 0 0, .int .i64 0] 32 := by rw [hW2]; exact k6
      replace k9 : Blk W2 (w.heap.size + 1 + 1) #[u, v, .int .i64 lost] 32 := by rw [hW2]; exact k9
      replace hu : OwI W2 w.heap.size u k (oneG rep a c) := by rw [hW2]; exact hu
      replace hv : OwI W2 w.heap.size v k (oneV vol a c) := by rw [hW2]; exact hv
      clear hW2 hB b0 b1 d0 d1 c2
      have b1 := k3.cell 1 rfl
      have d0 := k9.cell 0 rfl
      have d1 := k9.cell 1 rfl
      have hs2 := hB2.size
      have l9 := k9.lt
      have nu := k9.ne_own (by decide) hu
      have nv := k9.ne_own (by decide) hv
      go_upto_if 43 with (fail)
      go_cut [11] (fun x wx => x = .int .i64 (oneG rep a c k) ∧ W2 = wx)
      case first =>
        by_cases R : rep k = c
        · have R1 : ((rep k : Int) == (c : Int)) = true := by simp [R]
          have HY1 : Hid ((a : Int) = oneG rep a c k) := by show _ = _; unfold oneG; rw [Nat.max_eq_right (by omega), Nat.min_eq_left (by omega), if_pos R]
          clear R
          go_wp2
          go_meet
          exact ⟨by rw [← HY1.out], rfl⟩
        · have R1 : ((rep k : Int) == (c : Int)) = false := by simp; omega
          have HY1 : Hid ((rep k : Int) = oneG rep a c k) := by show _ = _; unfold oneG; rw [Nat.max_eq_right (by omega), Nat.min_eq_left (by omega), if_neg R]
          clear R
          go_wp2
          go_meet
          exact ⟨by rw [← HY1.out], rfl⟩
      case rest =>
        obtain ⟨rfl, rfl⟩ := hcut
        go_upto_if 47 with (fail)
        go_cut [12] (fun x wx => x = .int .i64 (oneV vol a c k) ∧ W2 = wx)
        case first =>
          by_cases R : k = a
          · have R1 : ((k : Int) == (a : Int)) = true := by simp [R]
            have HY1 : Hid (vol k + vol c = oneV vol a c k) := by show _ = _; unfold oneV; rw [Nat.max_eq_right (by omega), Nat.min_eq_left (by omega), if_pos R]
            clear R
            go_wp2
            go_meet
            exact ⟨by rw [← HY1.out], rfl⟩
          · have R1 : ((k : Int) == (a : Int)) = false := by simp; omega
            have HY1 : Hid (vol k = oneV vol a c k) := by show _ = _; unfold oneV; rw [Nat.max_eq_right (by omega), Nat.min_eq_left (by omega), if_neg R]
            clear R
            go_wp2
            go_meet
            exact ⟨by rw [← HY1.out], rfl⟩
        case rest =>
          obtain ⟨rfl, rfl⟩ := hcut
          go_wp2
          go_quiet (fail)
          refine world_name fun W2 hW2 => ?_
          replace hB2 : Below w.heap.size w W2 := by rw [hW2]; exact below_drewN hB2 _
          replace k3 : Blk W2 w.heap.size #[.slice (some ⟨b1', o1, none⟩) n cg, .slice (some ⟨bvc, ovc, none⟩) n cv, .int .i64 lost] 32 := by rw [hW2]; exact k3
          replace k6 : Blk W2 (w.heap.size + 1) #[.slice none 0 0, .slice none 0 0, .int .i64 0] 32 := by rw [hW2]; exact k6
          replace k9 : Blk W2 (w.heap.size + 1 + 1) #[u, v, .int .i64 lost] 32 := by rw [hW2]; exact k9
          replace hu : OwI W2 w.heap.size u k (oneG rep a c) := by rw [hW2]; exact hu
          replace hv : OwI W2 w.heap.size v k (oneV vol a c) := by rw [hW2]; exact hv
          clear hW2 b1 d0 d1 c1 c3 hs2 l9
          have hs2 := hB2.size
          have l9 := k9.lt
          go_upto_region 13 with (at_builtin; refine app_int' rfl (.tmp 59) (.tmp 61) rfl w.heap.size u k _ rfl rfl hu hB2 rfl (by omega) (by omega) ?_; intro u1 w1 hu1 hb1 hg1 hat; obtain ⟨g1, q1, rfl⟩ := own_form hu1; have k9' := k9.kept hg1 nu; have d0' := k9'.cell 0 rfl; have f0' := k9'.frozen 0; have hs1 := hb1.size; have hgs := hg1.size)
          refine world_name fun W3 hW3 => ?_
          have hv1 := one_v hv huv hg1
          have nv1 := k9'.ne_own (by decide) hv1
          have nu1 := k9'.ne_own (by decide) hu1
          have hB3 : Below w.heap.size w W3 := by rw [hW3]; exact hb1.setCell (p := ⟨w.heap.size + 1 + 1, 0, none⟩) (by simp; omega) _
          have k3' : Blk W3 w.heap.size #[.slice (some ⟨b1', o1, none⟩) n cg, .slice (some ⟨bvc, ovc, none⟩) n cv, .int .i64 lost] 32 := by rw [hW3]; exact (k3.kept hg1 (k3.ne_own (by decide) hu)).other (by omega) _
          have k6' : Blk W3 (w.heap.size + 1) #[.slice none 0 0, .slice none 0 0, .int .i64 0] 32 := by rw [hW3]; exact (k6.kept hg1 (k6.ne_own (by decide) hu)).other (by omega) _
          have k9'' : Blk W3 (w.heap.size + 1 + 1) #[.slice (some ⟨g1, 0, none⟩) (k + 1) q1, v, .int .i64 lost] 32 := by rw [hW3]; exact k9'.set 0 _
          replace hv1 : OwI W3 w.heap.size v k (oneV vol a c) := by rw [hW3]; exact own_set hv1 nv1 0 _
          replace hu1 : OwI W3 w.heap.size (.slice (some ⟨g1, 0, none⟩) (k + 1) q1) (k + 1) (oneG rep a c) := by rw [hW3]; exact own_set hu1 nu1 0 _
          have huv1 : (Value.slice (some ⟨g1, 0, none⟩) (k + 1) q1).ownBlock ≠ v.ownBlock := by
            rcases hat with h | h
            · rw [h]
              rcases huv with h' | h'
              · rw [h'] at h; cases h
              · exact h'
            · rw [h]
              intro e
              have := (hv.lt _ e.symm).2
              omega
          clear hW3 hB2 k3 k6 k9 hu hv hb1 k9' d0' f0' hs1 hgs hs2 l9 nu nv hg1 huv hat
          have hs3 := hB3.size
          have l9 := k9''.lt
          go_wp2_with (at_builtin; refine app_int' rfl (.tmp 64) (.tmp 66) rfl w.heap.size v k _ rfl rfl hv1 hB3 rfl (by omega) (by omega) ?_; intro v2 w2 hv2 hb2 hg2 hat2; obtain ⟨g2, q2, rfl⟩ := own_form hv2; have k9' := k9''.kept hg2 nv1; have d1' := k9'.cell 1 rfl; have f1' := k9'.frozen 1; have hs1 := hb2.size; have hgs := hg2.size)
          have nu2 := k9'.ne_own (by decide) (hu1.kept hg2 (.inr huv1))
          have nv2 := k9'.ne_own (by decide) hv2
          go_roundw
          case rel =>
            refine ⟨k + 1, _, _, by omega, by go_num, hb2.setCell (p := ⟨w.heap.size + 1 + 1, 1, none⟩) (by simp; omega) _, (k3'.kept hg2 (k3'.ne_own (by decide) hv1)).other (by omega) _, (k6'.kept hg2 (k6'.ne_own (by decide) hv1)).other (by omega) _, k9'.set 1 _, own_set (hu1.kept hg2 (.inr huv1)) nu2 1 _, own_set hv2 nv2 1 _, .inr ?_⟩
            rcases hat2 with h | h
            · rw [h]; exact huv1
            · rw [h]
              intro e
              have := (hu1.lt _ e).2
              omega
          case measure => simp [intOf]; omega
    · obtain rfl : k = n := by omega
      clear rg rv cvc
      obtain ⟨k, rfl⟩ : ∃ m, k = m + 1 := ⟨k - 1, by omega⟩
      obtain ⟨g1, q1, rfl⟩ := own_form hu
      obtain ⟨g2, q2, rfl⟩ := own_form hv
      have d0 := k9.cell 0 rfl
      have d1 := k9.cell 1 rfl
      have d2 := k9.cell 2 rfl
      have e0 := k6.cell 0 rfl
      have e1 := k6.cell 1 rfl
      have e2 := k6.cell 2 rfl
      have f0 := k6.frozen 0
      have f1 := k6.frozen 1
      have f2 := k6.frozen 2
      have nu := k6.ne_own (by decide) hu
      have nv := k6.ne_own (by decide) hv
      go_wp2
      have z0 := ((k6.set 0 (.slice (some ⟨g1, 0, none⟩) (k + 1) q1)).set 1 (.slice (some ⟨g2, 0, none⟩) (k + 1) q2)).set 2 (.int .i64 lost)
      have y0 := z0.cell 0 rfl
      have y1 := z0.cell 1 rfl
      have y2 := z0.cell 2 rfl
      refine bodyPost_ret (v := .agg #[.slice (some ⟨g1, 0, none⟩) (k + 1) q1, .slice (some ⟨g2, 0, none⟩) (k + 1) q2, .int .i64 lost]) (by simp [results, Try.results52, go_sem, y0, y1, y2]) rfl ⟨_, _, rfl, ?_, ?_, huv, ?_⟩
      · exact own_set (own_set (own_set hu nu 0 _) nu 1 _) nu 2 _
      · exact own_set (own_set (own_set hv nv 0 _) nv 1 _) nv 2 _
      · exact ((hB.setCell (by simp) _).setCell (by simp) _).setCell (by simp) _


theorem one_any (w : World) (vg vv : Value) (lost : Int) (n g t : Nat) (rep : Nat → Nat) (vol : Nat → Int)
    (hG : RdI w vg n (fun k => (rep k : Int))) (hV : RdI w vv n vol) (hn : n ≤ 8) (hg : g < n) (ht : t < n) (hgt : g ≠ t) (hvol : ∀ k, 0 ≤ vol k ∧ vol k ≤ 1000000000000) :
    Calls Try.prog 52 #[.agg #[vg, vv, .int .i64 lost], .int .i64 g, .int .i64 t] w fun e w' => ∃ ug uv, e = .returned (.agg #[ug, uv, .int .i64 lost]) ∧
      OwI w' w.heap.size ug n (oneG rep g t) ∧ OwI w' w.heap.size uv n (oneV vol g t) ∧ (ug.ownBlock = none ∨ ug.ownBlock ≠ uv.ownBlock) ∧ Below w.heap.size w w' := by
  by_cases h : g < t
  · exact one_lt w vg vv lost n g t rep vol hG hV hn h ht hvol
  · rw [oneG_comm, oneV_comm]
    exact one_gt w vg vv lost n t g rep vol hG hV hn (by omega) hg hvol
end Go.Proofs.Ytjhididnmkbgoaa
