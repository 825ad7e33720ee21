import Derived.Test.YtjhididnmkbgoaaBase
set_option linter.unusedVariables false
set_option linter.unusedSimpArgs false
namespace Go.Proofs.Ytjhididnmkbgoaa
open Go.RowKit

theorem gcd_step (x y : Int) (hx : 0 ≤ x) (hy : 0 < y) : Int.gcd y (x % y) = Int.gcd x y := by
  rw [Int.gcd_comm x y]
  obtain ⟨m, rfl⟩ := Int.eq_ofNat_of_zero_le hx
  obtain ⟨n, rfl⟩ := Int.eq_ofNat_of_zero_le (Int.le_of_lt hy)
  show Nat.gcd _ _ = Nat.gcd _ _
  rw [← Int.natCast_emod, Int.natAbs_natCast, Int.natAbs_natCast, Int.natAbs_natCast]
  rw [Nat.gcd_comm, ← Nat.gcd_rec]

set_option maxHeartbeats 400000 in
theorem rgcd_any (a b : Int) (w : World) (ha : 0 ≤ a) (hb : 0 ≤ b) (ha2 : a ≤ 4000000000000000000) (hb2 : b ≤ 4000000000000000000) :
    Calls Try.prog 77 #[.int .i64 a, .int .i64 b] w fun e w' => e = .returned (.int .i64 (Int.gcd a b)) ∧ ∃ n, w' = w.drewN n := by
  go_enter Try.func77, Try.ntmps77
  go_wp2
  go_loopw [0, 1] (fun t u wr => ∃ x y : Int, 0 ≤ x ∧ 0 ≤ y ∧ x ≤ 4000000000000000000 ∧ y ≤ 4000000000000000000 ∧ t = .int .i64 x ∧ u = .int .i64 y ∧ Int.gcd x y = Int.gcd a b ∧ ∃ n, wr = w.drewN n) (fun t u _ => (intOf u).toNat)
  case atStart => exact ⟨a, b, ha, hb, ha2, hb2, rfl, rfl, rfl, 0, rfl⟩
  case round =>
    obtain ⟨x, y, hx, hy, hx2, hy2, rfl, rfl, hg, n, rfl⟩ := hrel
    have HG := Lib.hid hg
    clear hg
    by_cases e : 0 < y
    · have hm : 0 ≤ x % y := Int.emod_nonneg _ (by omega)
      have hm2 : x % y < y := Int.emod_lt_of_pos _ e
      go_wp2
      go_quiet (fail)
      go_wp2
      go_roundw
      case rel => exact ⟨y, x % y, by omega, by omega, by omega, by omega, rfl, rfl, (gcd_step x y hx e).trans HG.out, _, World.drewN_drewN ..⟩
      case measure => simp [intOf]; omega
    · go_wp2
      go_ret
      obtain rfl : y = 0 := by omega
      exact ⟨ret_eq (by rw [← HG.out]; simp [Int.gcd]; omega), _, rfl⟩

set_option maxHeartbeats 400000 in
theorem fraction_any (a b : Int) (w : World) (ha : 0 ≤ a) (hb : 1 ≤ b) (ha2 : a ≤ 4000000000000000000) (hb2 : b ≤ 4000000000000000000) :
    Calls Try.prog 57 #[.int .i64 a, .int .i64 b] w fun e w' => e = .returned (.agg #[.int .i64 (a / Int.gcd a b), .int .i64 (b / Int.gcd a b)]) ∧ Below w.heap.size w w' := by
  have hg0 : 1 ≤ (Int.gcd a b : Int) := by
    have : 0 < Int.gcd a b := Int.gcd_pos_of_ne_zero_right _ (by omega)
    omega
  have q1 : 0 ≤ a / (Int.gcd a b : Int) := Int.ediv_nonneg ha (by omega)
  have q2 : a / (Int.gcd a b : Int) ≤ a := Int.ediv_le_self _ ha
  have q3 : 0 ≤ b / (Int.gcd a b : Int) := Int.ediv_nonneg (by omega) (by omega)
  have q4 : b / (Int.gcd a b : Int) ≤ b := Int.ediv_le_self _ (by omega)
  go_enter Try.func57, Try.ntmps57
  generalize hG : (Int.gcd a b : Int) = G at *
  have HG := Lib.hid hG
  clear hG
  go_wp2_with fail
  refine (rgcd_any a b _ ha (by omega) ha2 hb2).mono ?_
  rintro e w' ⟨rfl, n, rfl⟩
  rw [HG.out]
  go_wp2
  go_region
  go_wp2
  refine bodyPost_ret (v := .agg #[.int .i64 (a / G), .int .i64 (b / G)]) (by simp [results, Try.results57, go_sem]) rfl ⟨rfl, ?_⟩
  exact ((below_drewN ((Below.refl _ _).alloc (Nat.le_refl _) _) _).setCell (Nat.le_refl _) _).setCell (Nat.le_refl _) _

theorem sumN_if_range {k : Nat} {f : Nat → Int} {p : Nat → Prop} [DecidablePred p] {M : Int} (h0 : ∀ i, 0 ≤ f i) (h1 : ∀ i, f i ≤ M) : 0 ≤ Slu.sumN k (fun i => if p i then f i else 0) ∧ Slu.sumN k (fun i => if p i then f i else 0) ≤ M * k := by
  have hM : 0 ≤ M := Int.le_trans (h0 0) (h1 0)
  induction k with
  | zero => simp [Slu.sumN]
  | succ k ih =>
    simp only [Slu.sumN]
    have := h0 k
    have := h1 k
    have e : M * ((k + 1 : Nat) : Int) = M * k + M := by rw [Int.natCast_add, Int.mul_add]; omega
    rw [e]
    split <;> omega

/-- A group's area, and its areas times floors. -/
def grpA (area : Nat → Int) (grp : Nat → Int) (g : Int) (k : Nat) : Int := Slu.sumN k fun i => if grp i = g then area i else 0
def grpF (area floor : Nat → Int) (grp : Nat → Int) (g : Int) (k : Nat) : Int := Slu.sumN k fun i => if grp i = g then area i * floor i else 0

structure Rng (area floor : Nat → Int) : Prop where
  a1 : ∀ i, 1 ≤ area i
  a2 : ∀ i, area i ≤ 100
  f1 : ∀ i, 0 ≤ floor i
  f2 : ∀ i, floor i ≤ 100

theorem Rng.prod {area floor : Nat → Int} (h : Rng area floor) (i : Nat) : 0 ≤ area i * floor i ∧ area i * floor i ≤ 10000 := by
  have := h.a1 i
  have := h.a2 i
  have := h.f1 i
  have := h.f2 i
  refine ⟨Int.mul_nonneg (by omega) (by omega), ?_⟩
  have : area i * floor i ≤ 100 * 100 := Int.mul_le_mul (by omega) (by omega) (by omega) (by omega)
  omega

theorem grpA_range {area floor : Nat → Int} (h : Rng area floor) (grp : Nat → Int) (g : Int) (k : Nat) : 0 ≤ grpA area grp g k ∧ grpA area grp g k ≤ 100 * k :=
  sumN_if_range (fun i => by have := h.a1 i; omega) h.a2
theorem grpF_range {area floor : Nat → Int} (h : Rng area floor) (grp : Nat → Int) (g : Int) (k : Nat) : 0 ≤ grpF area floor grp g k ∧ grpF area floor grp g k ≤ 10000 * k :=
  sumN_if_range (fun i => (h.prod i).1) (fun i => (h.prod i).2)
theorem grpA_succ (area grp : Nat → Int) (g : Int) (k : Nat) : grpA area grp g (k + 1) = grpA area grp g k + if grp k = g then area k else 0 := rfl
theorem grpF_succ (area floor grp : Nat → Int) (g : Int) (k : Nat) : grpF area floor grp g (k + 1) = grpF area floor grp g k + if grp k = g then area k * floor k else 0 := rfl

set_option maxHeartbeats 400000 in
theorem size_any (w : World) (va vf vs vg vv lost : Value) (area floor group : Nat → Int) (n : Nat) (g : Int)
    (hA : RdI w va n area) (hF : RdI w vf n floor) (hG : RdI w vg n group) (hn : n ≤ 8) (rng : Rng area floor) :
    Calls Try.prog 56 #[.agg #[va, vf, vs], .agg #[vg, vv, lost], .int .i64 g] w fun e w' => e = .returned (.tuple #[.int .i64 (grpA area group g n), .int .i64 (grpF area floor group g n)]) ∧ Below w.heap.size w w' := by
  obtain ⟨A, ca, rfl, la, ra⟩ := hA
  obtain ⟨F, cf, rfl, lf, rf⟩ := hF
  obtain ⟨G, cg, rfl, lg, rg⟩ := hG
  go_enter Try.func56, Try.ntmps56
  go_wp2
  refine wp_world fun W hW => ?_
  have hB : Below w.heap.size w W := by rw [hW]; exact ((Below.refl _ _).alloc (Nat.le_refl _) _).alloc (by simp) _
  have b0 : W.cell? ⟨w.heap.size, 0, none⟩ = some (.slice A n ca) := by rw [hW]; simp [go_sem]
  have b1 : W.cell? ⟨w.heap.size, 1, none⟩ = some (.slice F n cf) := by rw [hW]; simp [go_sem]
  have b3 : W.cell? ⟨w.heap.size + 1, 0, none⟩ = some (.slice G n cg) := by rw [hW]; simp [go_sem]
  replace ra := RdI.cell (c := 0) hB ra
  replace rf := RdI.cell (c := 0) hB rf
  replace rg := RdI.cell (c := 0) hB rg
  clear hW
  go_loopw [8, 9, 10] (fun x y z wr => ∃ k : Nat, k ≤ n ∧ z = .int .i64 k ∧ x = .int .i64 (grpA area group g k) ∧ y = .int .i64 (grpF area floor group g k) ∧
     ∃ q, wr = W.drewN q) (fun _ _ z _ => n - (intOf z).toNat)
  case atStart => exact ⟨0, by omega, rfl, rfl, rfl, 0, rfl⟩
  case round =>
    obtain ⟨k, hk, rfl, rfl, rfl, q, rfl⟩ := hrel
    by_cases hlt : k < n
    · obtain ⟨b1, o1, rfl, c1⟩ := ra k hlt
      obtain ⟨b2, o2, rfl, c2⟩ := rf k hlt
      obtain ⟨b3, o3, rfl, c3⟩ := rg k hlt
      have t1 := grpA_range rng group g k
      have t2 := grpF_range rng group g k
      have t3 := rng.prod k
      have t4 := rng.a1 k
      have t5 := rng.a2 k
      have t6 := rng.f1 k
      have t7 := rng.f2 k
      have s1 := Lib.hid (grpA_succ area group g k)
      have s2 := Lib.hid (grpF_succ area floor group g k)
      clear ra rf rg
      by_cases e : group k = g
      · have e1 : (group k == g) = true := by simp [e]
        have E := Lib.hid e
        clear e
        go_wp2
        go_quiet (fail)
        go_wp2
        go_roundw
        case rel => exact ⟨k + 1, by omega, by go_num, by rw [s1.out, if_pos E.out], by rw [s2.out, if_pos E.out], _, rfl⟩
        case measure => simp [intOf]; omega
      · have e1 : (group k == g) = false := by simp [e]
        have E := Lib.hid e
        clear e
        go_wp2
        go_roundw
        case rel => exact ⟨k + 1, by omega, by go_num, by rw [s1.out, if_neg E.out]; go_num, by rw [s2.out, if_neg E.out]; go_num, _, rfl⟩
        case measure => simp [intOf]; omega
    · clear ra rf rg
      go_wp2
      go_ret2
      exact ⟨by obtain rfl : k = n := by omega
                rfl, below_drewN hB _⟩

set_option maxHeartbeats 400000 in
theorem room_any (w : World) (va vf vs vg vv lost : Value) (area floor group : Nat → Int) (n : Nat) (g h : Int)
    (hA : RdI w va n area) (hF : RdI w vf n floor) (hG : RdI w vg n group) (hn : n ≤ 8) (rng : Rng area floor) (h0 : 0 ≤ h) (h1 : h ≤ 1000) :
    Calls Try.prog 51 #[.agg #[va, vf, vs], .agg #[vg, vv, lost], .int .i64 g, .int .i64 h] w fun e w' => e = .returned (.int .i64 (grpA area group g n * h - grpF area floor group g n)) ∧ Below w.heap.size w w' := by
  obtain ⟨A, ca, rfl, la, ra⟩ := id hA
  obtain ⟨F, cf, rfl, lf, rf⟩ := id hF
  obtain ⟨G, cg, rfl, lg, rg⟩ := id hG
  have t1 := grpA_range rng group g n
  have t2 := grpF_range rng group g n
  have t3 : 0 ≤ grpA area group g n * h := Int.mul_nonneg t1.1 h0
  have t4 : grpA area group g n * h ≤ 800 * 1000 := Int.mul_le_mul (by omega) (by omega) (by omega) (by omega)
  clear ra rf rg
  go_enter Try.func51, Try.ntmps51
  go_wp2_with fail
  refine (size_any _ _ _ _ _ _ _ area floor group n g (hA.below ?_) (hF.below ?_) (hG.below ?_) hn rng).mono ?_
  case refine_4 =>
    rintro e w' ⟨rfl, hb⟩
    go_wp2
    go_ret
    refine ⟨rfl, ?_⟩
    exact (((Below.refl _ _).alloc (Nat.le_refl _) _).alloc (by simp) _).trans (hb.mono (by simp; omega))
  all_goals exact ((Below.refl _ _).alloc (Nat.le_refl _) _).alloc (by simp) _
/-- An amount out of any number. -/
def amt (len : Nat) (l : Nat → Int) (most : Int) (i : Nat) : Int := if i < len then wrap64 ((IntKind.u64.wrap (l i)).tmod (most + 1)) else 0

set_option maxRecDepth 100000 in
set_option maxHeartbeats 400000 in
theorem poured_any (w : World) (vl : Value) (len : Nat) (l : Nat → Int) (n : Nat) (most : Int) (hL : RdI w vl len l) (hn : n ≤ 100) (h0 : 0 ≤ most) (h1 : most ≤ 1000000) :
    Calls Try.prog 15 #[vl, .int .i64 n, .int .i64 most] w fun e w' => ∃ v, e = .returned v ∧ OwI w' w.heap.size v n (amt len l most) ∧ Below w.heap.size w w' := by
  obtain ⟨A, c, rfl, lb, rl⟩ := hL
  go_enter Try.func15, Try.ntmps15
  go_wp2
  go_loopw [7, 8, 9] (fun v i x wr => ∃ k : Nat, k ≤ n ∧ i = .int .i64 k ∧ OwI wr w.heap.size v k (amt len l most) ∧ Below w.heap.size w wr) (fun _ i _ _ => n - (intOf i).toNat)
  case atStart => exact ⟨0, by omega, rfl, OwI.nil _ _ _, Below.refl _ _⟩
  case round =>
    obtain ⟨k, hk, rfl, ho, hb⟩ := hrel
    by_cases hlt : k < n
    · have hs := hb.size
      by_cases hkl : k < len
      · obtain ⟨b, off, rfl, hc⟩ := rl k hkl
        have hc := (hb.cell (World.block_lt_of_cell? w _ hc)).trans hc
        clear rl
        have HY : Hid (wrap64 ((IntKind.u64.wrap (l k)).tmod (most + 1)) = amt len l most k) := by show _ = _; unfold amt; rw [if_pos hkl]
        go_wp2_with (at_builtin; go_loud (refine app_int rfl _ _ rfl w.heap.size _ k _ HY.out rfl ho hb rfl (by omega) (by omega) ?_); intro v1 w1 ho1 hb1 hg1)
        go_roundw
        case rel => exact ⟨k + 1, by omega, by go_num, ho1, hb1⟩
        case measure => simp [intOf]; omega
      · clear rl
        have HY : Hid (0 = amt len l most k) := by show _ = _; unfold amt; rw [if_neg hkl]
        go_wp2_with (at_builtin; go_loud (refine app_int rfl _ _ rfl w.heap.size _ k _ HY.out rfl ho hb rfl (by omega) (by omega) ?_); intro v1 w1 ho1 hb1 hg1)
        go_roundw
        case rel => exact ⟨k + 1, by omega, by go_num, ho1, hb1⟩
        case measure => simp [intOf]; omega
    · clear rl
      go_wp2
      go_ret
      exact ⟨_, rfl, by obtain rfl : k = n := by omega
                        exact ho, hb⟩
end Go.Proofs.Ytjhididnmkbgoaa
