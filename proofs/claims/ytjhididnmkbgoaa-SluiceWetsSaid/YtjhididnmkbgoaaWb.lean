import Derived.Test.YtjhididnmkbgoaaBase
set_option linter.unusedVariables false
set_option linter.unusedSimpArgs false
namespace Go.Proofs.Ytjhididnmkbgoaa
open Go.RowKit

/-- Three numbers come before three others. -/
def lessB (a0 a1 a2 b0 b1 b2 : Int) : Bool := if a0 = b0 then (if a1 = b1 then decide (a2 < b2) else decide (a1 < b1)) else decide (a0 < b0)

set_option maxHeartbeats 1000000 in
theorem less_any (a0 a1 a2 b0 b1 b2 : Int) (w : World) :
    Calls Try.prog 72 #[.agg #[.int .i64 a0, .int .i64 a1, .int .i64 a2], .agg #[.int .i64 b0, .int .i64 b1, .int .i64 b2]] w fun e w' => e = .returned (.bool (lessB a0 a1 a2 b0 b1 b2)) ∧ Below w.heap.size w w' := by
  go_enter Try.func72, Try.ntmps72
  go_wp2
  refine wp_world fun W hW => ?_
  have hB : Below w.heap.size w W := by rw [hW]; exact ((Below.refl _ _).alloc (Nat.le_refl _) _).alloc (by simp) _
  have c0 : W.cell? ⟨w.heap.size, 0, none⟩ = some (.int .i64 a0) := by rw [hW]; simp [go_sem]
  have c1 : W.cell? ⟨w.heap.size, 1, none⟩ = some (.int .i64 a1) := by rw [hW]; simp [go_sem]
  have c2 : W.cell? ⟨w.heap.size, 2, none⟩ = some (.int .i64 a2) := by rw [hW]; simp [go_sem]
  have d0 : W.cell? ⟨w.heap.size + 1, 0, none⟩ = some (.int .i64 b0) := by rw [hW]; simp [go_sem]
  have d1 : W.cell? ⟨w.heap.size + 1, 1, none⟩ = some (.int .i64 b1) := by rw [hW]; simp [go_sem]
  have d2 : W.cell? ⟨w.heap.size + 1, 2, none⟩ = some (.int .i64 b2) := by rw [hW]; simp [go_sem]
  clear hW
  go_loopw [5] (fun x wr => ∃ k : Nat, k ≤ 3 ∧ x = .int .i64 k ∧ (0 < k → a0 = b0) ∧ (1 < k → a1 = b1) ∧ (2 < k → a2 = b2) ∧ ∃ q, wr = W.drewN q) (fun x _ => 3 - (intOf x).toNat)
  case atStart => exact ⟨0, by omega, rfl, by omega, by omega, by omega, 0, rfl⟩
  case round =>
    obtain ⟨k, hk, rfl, h0, h1, h2, q, rfl⟩ := hrel
    match k, hk, h0, h1, h2 with
    | 0, _, _, _, _ =>
      by_cases e : a0 = b0
      · have e1 : (a0 != b0) = false := by simp [e]
        have E := Lib.hid e
        clear e
        go_wp2
        go_quiet (fail)
        go_wp2
        go_roundw
        case rel => exact ⟨1, by omega, rfl, fun _ => E.out, by omega, by omega, _, rfl⟩
        case measure => simp [intOf]
      · have e1 : (a0 != b0) = true := by simp [e]
        have E := Lib.hid e
        clear e
        go_wp2
        go_quiet (fail)
        go_wp2
        go_quiet (fail)
        go_wp2
        go_ret
        exact ⟨ret_eq (by unfold lessB; rw [if_neg E.out]; rfl), by repeat (first | exact hB | apply below_drewN)⟩
    | 1, _, h0, h1, h2 =>
      have h0 := h0 (by omega)
      have H0 := Lib.hid h0
      clear h0
      by_cases e : a1 = b1
      · have e1 : (a1 != b1) = false := by simp [e]
        have E := Lib.hid e
        clear e
        go_wp2
        go_quiet (fail)
        go_wp2
        go_roundw
        case rel => exact ⟨2, by omega, rfl, fun _ => H0.out, fun _ => E.out, by omega, _, rfl⟩
        case measure => simp [intOf]
      · have e1 : (a1 != b1) = true := by simp [e]
        have E := Lib.hid e
        clear e
        go_wp2
        go_quiet (fail)
        go_wp2
        go_quiet (fail)
        go_wp2
        go_ret
        exact ⟨ret_eq (by unfold lessB; rw [if_pos H0.out, if_neg E.out]; rfl), by repeat (first | exact hB | apply below_drewN)⟩
    | 2, _, h0, h1, h2 =>
      have h0 := h0 (by omega)
      have h1 := h1 (by omega)
      have H0 := Lib.hid h0
      have H1 := Lib.hid h1
      clear h0 h1
      by_cases e : a2 = b2
      · have e1 : (a2 != b2) = false := by simp [e]
        have E := Lib.hid e
        clear e
        go_wp2
        go_quiet (fail)
        go_wp2
        go_roundw
        case rel => exact ⟨3, by omega, rfl, fun _ => H0.out, fun _ => H1.out, fun _ => E.out, _, rfl⟩
        case measure => simp [intOf]
      · have e1 : (a2 != b2) = true := by simp [e]
        have E := Lib.hid e
        clear e
        go_wp2
        go_quiet (fail)
        go_wp2
        go_quiet (fail)
        go_wp2
        go_ret
        exact ⟨ret_eq (by unfold lessB; rw [if_pos H0.out, if_pos H1.out]; rfl), by repeat (first | exact hB | apply below_drewN)⟩
    | 3, _, h0, h1, h2 =>
      have h0 := h0 (by omega)
      have h1 := h1 (by omega)
      have h2 := h2 (by omega)
      have H0 := Lib.hid h0
      have H1 := Lib.hid h1
      have H2 := Lib.hid h2
      clear h0 h1 h2
      go_wp2
      go_ret
      exact ⟨ret_eq (by unfold lessB; rw [if_pos H0.out, if_pos H1.out, H2.out]; simp), by repeat (first | exact hB | apply below_drewN)⟩

theorem eq3 (d : Nat) (a0 a1 a2 b0 b1 b2 : Int) (w : World) :
    (Op.equalIn (d + 2) 75 (.agg #[.int .i64 a0, .int .i64 a1, .int .i64 a2]) (.agg #[.int .i64 b0, .int .i64 b1, .int .i64 b2])).run Try.prog w = .ok (a0 == b0 && (a1 == b1 && a2 == b2)) w := by
  have hs : (sizeOf 3).run Try.prog w = .ok 1 w := by kernel_rfl
  have p0 : ∀ x y z : Int, (part 3 #[.int .i64 x, .int .i64 y, .int .i64 z] 0).run Try.prog w = .ok (.int .i64 x) w := fun _ _ _ => by kernel_rfl
  have p1 : ∀ x y z : Int, (part 3 #[.int .i64 x, .int .i64 y, .int .i64 z] 1).run Try.prog w = .ok (.int .i64 y) w := fun _ _ _ => by kernel_rfl
  have p2 : ∀ x y z : Int, (part 3 #[.int .i64 x, .int .i64 y, .int .i64 z] 2).run Try.prog w = .ok (.int .i64 z) w := fun _ _ _ => by kernel_rfl
  unfold Op.equalIn
  simp only [Sem.run_bind, run_underlying Try.underlying75, Result.andThen_ok, hs]
  simp [List.range', p0, p1, p2, run_equalIn_int w d 3 .i64 .i64 _ _ Try.underlying3, Sem.run_bind]
  by_cases h0 : a0 = b0 <;> by_cases h1 : a1 = b1 <;> by_cases h2 : a2 = b2 <;> simp [h0, h1, h2]

theorem eq2 (d : Nat) (a0 a1 b0 b1 : Int) (w : World) :
    (Op.equalIn (d + 2) 47 (.agg #[.int .i64 a0, .int .i64 a1]) (.agg #[.int .i64 b0, .int .i64 b1])).run Try.prog w = .ok (a0 == b0 && a1 == b1) w := by
  have hs : (sizeOf 2).run Try.prog w = .ok 1 w := by kernel_rfl
  have p0 : ∀ x y : Int, (part 2 #[.int .i64 x, .int .i64 y] 0).run Try.prog w = .ok (.int .i64 x) w := fun _ _ => by kernel_rfl
  have p1 : ∀ x y : Int, (part 2 #[.int .i64 x, .int .i64 y] 1).run Try.prog w = .ok (.int .i64 y) w := fun _ _ => by kernel_rfl
  unfold Op.equalIn
  simp only [Sem.run_bind, run_underlying Try.underlying47, Result.andThen_ok, hs]
  simp [List.range', p0, p1, run_equalIn_int w d 2 .i64 .i64 _ _ Try.underlying2, Sem.run_bind]
  by_cases h0 : a0 = b0 <;> by_cases h1 : a1 = b1 <;> simp [h0, h1]

theorem neq3 (a0 a1 a2 b0 b1 b2 : Int) (w : World) :
    (binOp .neq 75 (.agg #[.int .i64 a0, .int .i64 a1, .int .i64 a2]) (.agg #[.int .i64 b0, .int .i64 b1, .int .i64 b2])).run Try.prog w = .ok (.bool (!(a0 == b0 && (a1 == b1 && a2 == b2)))) w := by
  rw [run_neq_struct, eq3 9998]; rfl

theorem eql3 (a0 a1 a2 b0 b1 b2 : Int) (w : World) :
    (binOp .eql 75 (.agg #[.int .i64 a0, .int .i64 a1, .int .i64 a2]) (.agg #[.int .i64 b0, .int .i64 b1, .int .i64 b2])).run Try.prog w = .ok (.bool (a0 == b0 && (a1 == b1 && a2 == b2))) w := by
  rw [run_eql_struct, eq3 9998]; rfl

theorem neq2 (a0 a1 b0 b1 : Int) (w : World) :
    (binOp .neq 47 (.agg #[.int .i64 a0, .int .i64 a1]) (.agg #[.int .i64 b0, .int .i64 b1])).run Try.prog w = .ok (.bool (!(a0 == b0 && a1 == b1))) w := by
  rw [run_neq_struct, eq2 9998]; rfl

def sameI (n : Nat) (f : Nat → Int) (m : Nat) (g : Nat → Int) : Bool := decide (n = m ∧ ∀ k, k < n → f k = g k)

set_option maxHeartbeats 400000 in
theorem ints_any (w : World) (v u : Value) (n m : Nat) (f g : Nat → Int) (hv : RdI w v n f) (hu : RdI w u m g) :
    Calls Try.prog 24 #[v, u] w fun e w' => e = .returned (.bool (sameI n f m g)) ∧ ∃ q, w' = w.drewN q := by
  obtain ⟨A, c, rfl, lb, rl⟩ := hv
  obtain ⟨A', c', rfl, lb', rl'⟩ := hu
  by_cases e : n = m
  · subst e
    have e1 : ((n : Int) != (n : Int)) = false := by simp
    have e2 : (n != n) = false := by simp
    go_enter Try.func24, Try.ntmps24
    go_wp2
    go_loopw [5] (fun x wr => ∃ k : Nat, k ≤ n ∧ x = .int .i64 k ∧ (∀ j, j < k → f j = g j) ∧ ∃ q, wr = w.drewN q) (fun x _ => n - (intOf x).toNat)
    case atStart => exact ⟨0, by omega, rfl, by omega, 0, rfl⟩
    case round =>
      obtain ⟨k, hk, rfl, hf, q, rfl⟩ := hrel
      have HF := Lib.hid hf
      clear hf
      by_cases hlt : k < n
      · obtain ⟨b1, o1, rfl, c1⟩ := rl k hlt
        obtain ⟨b2, o2, rfl, c2⟩ := rl' k hlt
        clear rl rl'
        by_cases d : f k = g k
        · have d1 : (f k != g k) = false := by simp [d]
          have D := Lib.hid d
          clear d
          go_wp2
          go_quiet (fail)
          go_wp2
          go_roundw
          case rel => exact ⟨k + 1, by omega, by go_num, fun j hj => by
              by_cases h : j = k
              · rw [h]; exact D.out
              · exact HF.out j (by omega), _, rfl⟩
          case measure => simp [intOf]; omega
        · have d1 : (f k != g k) = true := by simp [d]
          have D := Lib.hid d
          clear d
          go_wp2
          go_quiet (fail)
          go_wp2
          go_ret
          exact ⟨ret_eq (by
            have : sameI n f n g = false := by
              unfold sameI
              exact decide_eq_false fun h => D.out (h.2 k hlt)
            rw [this]; rfl), _, World.drewN_drewN ..⟩
      · clear rl rl'
        go_wp2
        go_ret
        exact ⟨ret_eq (by
            have : sameI n f n g = true := by
              unfold sameI
              exact decide_eq_true ⟨rfl, fun j hj => HF.out j (by omega)⟩
            rw [this]; rfl), _, rfl⟩
  · have e1 : ((n : Int) != (m : Int)) = true := by simp; omega
    have e2 : (n != m) = true := by simp [e]
    have E := Lib.hid e
    clear e rl rl'
    go_enter Try.func24, Try.ntmps24
    go_wp2
    go_ret
    exact ⟨ret_eq (by
            have : sameI n f m g = false := by
              unfold sameI
              exact decide_eq_false fun h => E.out h.1
            rw [this]; rfl), 0, rfl⟩

def sameT (n : Nat) (A B H : Nat → Int) (m : Nat) (A' B' H' : Nat → Int) : Bool := decide (n = m ∧ ∀ k, k < n → A k = A' k ∧ B k = B' k ∧ H k = H' k)

set_option maxHeartbeats 400000 in
theorem threes_any (w : World) (v u : Value) (n m : Nat) (A B H A' B' H' : Nat → Int) (hv : RdT w v n A B H) (hu : RdT w u m A' B' H') :
    Calls Try.prog 34 #[v, u] w fun e w' => e = .returned (.bool (sameT n A B H m A' B' H')) ∧ ∃ q, w' = w.drewN q := by
  obtain ⟨a, c, rfl, lb, rl⟩ := hv
  obtain ⟨a', c', rfl, lb', rl'⟩ := hu
  by_cases e : n = m
  · subst e
    have e1 : ((n : Int) != (n : Int)) = false := by simp
    have e2 : (n != n) = false := by simp
    go_enter Try.func34, Try.ntmps34
    go_wp2
    go_loopw [5] (fun x wr => ∃ k : Nat, k ≤ n ∧ x = .int .i64 k ∧ (∀ j, j < k → A j = A' j ∧ B j = B' j ∧ H j = H' j) ∧ ∃ q, wr = w.drewN q) (fun x _ => n - (intOf x).toNat)
    case atStart => exact ⟨0, by omega, rfl, by omega, 0, rfl⟩
    case round =>
      obtain ⟨k, hk, rfl, hf, q, rfl⟩ := hrel
      have HF := Lib.hid hf
      clear hf
      by_cases hlt : k < n
      · obtain ⟨b1, o1, rfl, c1, c2, c3⟩ := rl k hlt
        obtain ⟨b2, o2, rfl, d1, d2, d3⟩ := rl' k hlt
        clear rl rl'
        have hne := fun W => neq3 (A k) (B k) (H k) (A' k) (B' k) (H' k) W
        by_cases d : (!(A k == A' k && (B k == B' k && H k == H' k))) = false
        · have D := Lib.hid d
          rw [d] at hne
          clear d
          go_wp2
          go_quiet (fail)
          go_wp2
          go_roundw
          case rel => exact ⟨k + 1, by omega, by go_num, fun j hj => by
              by_cases h : j = k
              · rw [h]; have := D.out; simpa using this
              · exact HF.out j (by omega), _, rfl⟩
          case measure => simp [intOf]; omega
        · have d' : (!(A k == A' k && (B k == B' k && H k == H' k))) = true := by rw [← Bool.not_eq_false]; exact d
          have D := Lib.hid d
          rw [d'] at hne
          clear d d'
          go_wp2
          go_quiet (fail)
          go_wp2
          go_ret
          exact ⟨ret_eq (by
            have : sameT n A B H n A' B' H' = false := by
              unfold sameT
              exact decide_eq_false fun h => D.out (by have := h.2 k hlt; simp [this])
            rw [this]; rfl), _, World.drewN_drewN ..⟩
      · clear rl rl'
        go_wp2
        go_ret
        exact ⟨ret_eq (by
            have : sameT n A B H n A' B' H' = true := by
              unfold sameT
              exact decide_eq_true ⟨rfl, fun j hj => HF.out j (by omega)⟩
            rw [this]; rfl), _, rfl⟩
  · have e1 : ((n : Int) != (m : Int)) = true := by simp; omega
    have e2 : (n != m) = true := by simp [e]
    have E := Lib.hid e
    clear e rl rl'
    go_enter Try.func34, Try.ntmps34
    go_wp2
    go_ret
    exact ⟨ret_eq (by
            have : sameT n A B H m A' B' H' = false := by
              unfold sameT
              exact decide_eq_false fun h => E.out h.1
            rw [this]; rfl), 0, rfl⟩

def sameP (n : Nat) (A B : Nat → Int) (m : Nat) (A' B' : Nat → Int) : Bool := decide (n = m ∧ ∀ k, k < n → A k = A' k ∧ B k = B' k)

set_option maxHeartbeats 400000 in
theorem same_any (w : World) (v u : Value) (n m : Nat) (A B A' B' : Nat → Int) (hv : RdP w v n A B) (hu : RdP w u m A' B') :
    Calls Try.prog 19 #[v, u] w fun e w' => e = .returned (.bool (sameP n A B m A' B')) ∧ ∃ q, w' = w.drewN q := by
  obtain ⟨a, c, rfl, lb, rl⟩ := hv
  obtain ⟨a', c', rfl, lb', rl'⟩ := hu
  by_cases e : n = m
  · subst e
    have e1 : ((n : Int) != (n : Int)) = false := by simp
    have e2 : (n != n) = false := by simp
    go_enter Try.func19, Try.ntmps19
    go_wp2
    go_loopw [5] (fun x wr => ∃ k : Nat, k ≤ n ∧ x = .int .i64 k ∧ (∀ j, j < k → A j = A' j ∧ B j = B' j) ∧ ∃ q, wr = w.drewN q) (fun x _ => n - (intOf x).toNat)
    case atStart => exact ⟨0, by omega, rfl, by omega, 0, rfl⟩
    case round =>
      obtain ⟨k, hk, rfl, hf, q, rfl⟩ := hrel
      have HF := Lib.hid hf
      clear hf
      by_cases hlt : k < n
      · obtain ⟨b1, o1, rfl, c1, c2⟩ := rl k hlt
        obtain ⟨b2, o2, rfl, d1, d2⟩ := rl' k hlt
        clear rl rl'
        have hne := fun W => neq2 (A k) (B k) (A' k) (B' k) W
        by_cases d : (!(A k == A' k && B k == B' k)) = false
        · have D := Lib.hid d
          rw [d] at hne
          clear d
          go_wp2
          go_quiet (fail)
          go_wp2
          go_roundw
          case rel => exact ⟨k + 1, by omega, by go_num, fun j hj => by
              by_cases h : j = k
              · rw [h]; have := D.out; simpa using this
              · exact HF.out j (by omega), _, rfl⟩
          case measure => simp [intOf]; omega
        · have d' : (!(A k == A' k && B k == B' k)) = true := by rw [← Bool.not_eq_false]; exact d
          have D := Lib.hid d
          rw [d'] at hne
          clear d d'
          go_wp2
          go_quiet (fail)
          go_wp2
          go_ret
          exact ⟨ret_eq (by
            have : sameP n A B n A' B' = false := by
              unfold sameP
              exact decide_eq_false fun h => D.out (by have := h.2 k hlt; simp [this])
            rw [this]; rfl), _, World.drewN_drewN ..⟩
      · clear rl rl'
        go_wp2
        go_ret
        exact ⟨ret_eq (by
            have : sameP n A B n A' B' = true := by
              unfold sameP
              exact decide_eq_true ⟨rfl, fun j hj => HF.out j (by omega)⟩
            rw [this]; rfl), _, rfl⟩
  · have e1 : ((n : Int) != (m : Int)) = true := by simp; omega
    have e2 : (n != m) = true := by simp [e]
    have E := Lib.hid e
    clear e rl rl'
    go_enter Try.func19, Try.ntmps19
    go_wp2
    go_ret
    exact ⟨ret_eq (by
            have : sameP n A B m A' B' = false := by
              unfold sameP
              exact decide_eq_false fun h => E.out h.1
            rw [this]; rfl), 0, rfl⟩
set_option maxHeartbeats 400000 in
theorem few_any (w : World) (v : Value) (n : Nat) (f : Nat → Int) (most : Nat) (hv : RdI w v n f) (hm : most ≤ 100) :
    Calls Try.prog 38 #[v, .int .i64 most] w fun e w' => ∃ u, e = .returned u ∧ OwI w' w.heap.size u (min n most) f ∧ Below w.heap.size w w' := by
  obtain ⟨A, c, rfl, lb, rl⟩ := id hv
  by_cases h : most < n
  · have hr := hv.take most (by omega)
    clear rl
    go_enter Try.func38, Try.ntmps38
    go_wp2_with (at_builtin; go_loud (refine app_ints rfl _ _ rfl w.heap.size _ _ 0 most _ f rfl rfl (OwI.nil w w.heap.size f) hr (Below.refl _ _) (by omega) (by omega) (Nat.le_refl _) ?_); intro v1 w1 ho1 hb1 hg1)
    go_ret
    refine ⟨_, rfl, ?_, hb1⟩
    rw [Nat.min_eq_right (by omega)]
    simpa using ho1
  · have hr := hv.take n (by omega)
    clear rl
    go_enter Try.func38, Try.ntmps38
    go_wp2_with (at_builtin; go_loud (refine app_ints rfl _ _ rfl w.heap.size _ _ 0 n _ f rfl rfl (OwI.nil w w.heap.size f) hr (Below.refl _ _) (by omega) (by omega) (Nat.le_refl _) ?_); intro v1 w1 ho1 hb1 hg1)
    go_ret
    refine ⟨_, rfl, ?_, hb1⟩
    rw [Nat.min_eq_left (by omega)]
    simpa using ho1

set_option maxHeartbeats 400000 in
theorem alone_any (w : World) (va vf vs : Value) (n k : Nat) (area : Nat → Int) (x : Int) (hA : RdI w va n area) (hk : k < n) (hn : n ≤ 8) :
    Calls Try.prog 26 #[.agg #[va, vf, vs], .int .i64 k, .int .i64 x] w fun e w' => ∃ u, e = .returned u ∧ OwI w' w.heap.size u n (fun i => if i = k then x else 0) ∧ Below w.heap.size w w' := by
  obtain ⟨A, c, rfl, lb, rl⟩ := id hA
  clear rl
  have hmk := fun W => Go.run_make_row' (P := Try.prog) 22 3 (.int .i64 0) 8 Try.underlying22 (by kernel_rfl) rfl .i64 .i64 n (by omega) (by omega) W
  have hm0 : (madeCells #[Value.int .i64 0] n)[k]? = some (.int .i64 0) := by simp [madeCells, hk, Nat.mod_one]
  go_enter Try.func26, Try.ntmps26
  go_wp2
  go_ret
  refine ⟨_, rfl, ?_, ?_⟩
  · have h := World.ownsRow_lit (base := w.heap.size) (e := 3) (size := 1) (w.alloc (Obj.cells #[Value.slice A n c, vf, vs] 27)) ((madeCells #[Value.int IntKind.i64 0] n).setIfInBounds k (Value.int IntKind.i64 x)) n (by simp) (by unfold maxLen; omega) (by simp [size_madeCells])
    have hl : ((madeCells #[Value.int IntKind.i64 0] n).setIfInBounds k (Value.int IntKind.i64 x)).toList = (List.range n).map fun i => Value.int .i64 (if i = k then x else 0) := by
      apply List.ext_getElem
      · simp [size_madeCells]
      · intro j h1 h2
        simp only [Array.toList_setIfInBounds, List.getElem_set, List.getElem_map, List.getElem_range]
        by_cases e : k = j
        · subst e; simp
        · rw [if_neg e, if_neg (Ne.symm e)]
          simp [madeCells, Nat.mod_one]
    rw [hl] at h
    unfold OwI
    simpa using h
  · exact ((Below.refl _ _).alloc (Nat.le_refl _) _).alloc (by simp) _
