import Derived.Test.YtjhididnmkbgoaaBase
set_option linter.unusedVariables false
set_option linter.unusedSimpArgs false
namespace Go.Proofs.Ytjhididnmkbgoaa
open Go.RowKit

/-- What cmp.Compare hands back. -/
def cmpI (x y : Int) : Int := if x < y then -1 else if y < x then 1 else 0

set_option maxRecDepth 100000 in
theorem cmp_any (w : World) (x y : Int) :
    Calls Try.prog 87 #[.int .i64 x, .int .i64 y] w fun e w' => e = .returned (.int .i64 (cmpI x y)) ∧ w' = w := by
  have hx : (x != x) = false := by simp
  have hy : (y != y) = false := by simp
  by_cases c1 : x < y
  · have HV : Hid (cmpI x y = -1) := by show _ = _; unfold cmpI; rw [if_pos c1]
    go_enter Try.func87, Try.ntmps87
    go_wp2
    go_ret
    exact ⟨by rw [HV.out]; rfl, rfl⟩
  by_cases c2 : y < x
  · have HV : Hid (cmpI x y = 1) := by show _ = _; unfold cmpI; rw [if_neg c1, if_pos c2]
    go_enter Try.func87, Try.ntmps87
    go_wp2
    go_ret
    exact ⟨by rw [HV.out]; rfl, rfl⟩
  have HV : Hid (cmpI x y = 0) := by show _ = _; unfold cmpI; rw [if_neg c1, if_neg c2]
  go_enter Try.func87, Try.ntmps87
  go_wp2
  go_ret
  exact ⟨by rw [HV.out]; rfl, rfl⟩

/-- The first of n places at which two lists differ tells. -/
def cmpN (f g : Nat → Int) : Nat → Int
  | 0 => 0
  | k + 1 => if cmpN f g k = 0 then cmpI (f k) (g k) else cmpN f g k

theorem cmpN_zero {f g : Nat → Int} {k : Nat} (h : ∀ j, j < k → cmpI (f j) (g j) = 0) : cmpN f g k = 0 := by
  induction k with
  | zero => rfl
  | succ k ih => simp only [cmpN]; rw [if_pos (ih fun j hj => h j (by omega))]; exact h k (by omega)

theorem cmpN_first {f g : Nat → Int} {k n : Nat} (h : ∀ j, j < k → cmpI (f j) (g j) = 0) (hk : cmpI (f k) (g k) ≠ 0) (hn : k < n) : cmpN f g n = cmpI (f k) (g k) := by
  induction n with
  | zero => omega
  | succ n ih =>
    simp only [cmpN]
    by_cases e : k = n
    · subst e; rw [if_pos (cmpN_zero h)]
    · rw [ih (by omega), if_neg hk]

set_option maxRecDepth 100000 in
set_option maxHeartbeats 1000000 in
theorem compare_any (w : World) (v u : Value) (n : Nat) (f g : Nat → Int) (hv : RdI w v n f) (hu : RdI w u n g) :
    Calls Try.prog 70 #[v, u] w fun e w' => e = .returned (.int .i64 (cmpN f g n)) ∧ w' = w := by
  obtain ⟨A, c, rfl, la, ra⟩ := hv
  obtain ⟨B, d, rfl, lb, rb⟩ := hu
  have RA := Lib.hid ra
  have RB := Lib.hid rb
  clear ra rb
  go_enter Try.func70, Try.ntmps70
  go_wp2
  go_loopg [11] n (fun gk x wr => ∃ k : Nat, k ≤ n ∧ gk = n - k ∧ x = .int .i64 k ∧ wr = w ∧ ∀ j, j < k → cmpI (f j) (g j) = 0)
  case atStart => exact ⟨0, by omega, rfl, rfl, rfl, fun j hj => by omega⟩
  case round =>
    obtain ⟨k, hk, hgk, rfl, rfl, hj⟩ := hrel
    have HGK := Lib.hid hgk
    have HJ := Lib.hid hj
    clear hgk hj
    by_cases hlt : k < n
    · obtain ⟨b, o, rfl, hc⟩ := RA.out k hlt
      obtain ⟨b', o', rfl, hc'⟩ := RB.out k hlt
      by_cases c1 : cmpI (f k) (g k) = 0
      · have e1 : (cmpI (f k) (g k) != 0) = false := by simp [c1]
        have C0 : Hid (∀ j, j = k → cmpI (f j) (g j) = 0) := by intro j e; rw [e]; exact c1
        generalize hcc : cmpI (f k) (g k) = cc at *
        have CC := cmp_any wr (f k) (g k)
        rw [hcc] at CC
        clear c1 hcc
        go_wp2_with (go_at_call 87; (with_reducible refine CC.mono ?_); rintro e w' ⟨rfl, rfl⟩)
        go_roundg (n - (k + 1))
        case measure => have := HGK.out; omega
        case rel => exact ⟨k + 1, by omega, rfl, by go_num, rfl, fun j hj => by
          by_cases e : j = k
          · exact C0.out j e
          · exact HJ.out j (by omega)⟩
      · have e1 : (cmpI (f k) (g k) != 0) = true := by simp [c1]
        have HV : Hid (cmpN f g n = cmpI (f k) (g k)) := cmpN_first HJ.out c1 hlt
        have CC := cmp_any wr (f k) (g k)
        generalize cmpI (f k) (g k) = cc at *
        clear c1
        go_wp2_with (go_at_call 87; (with_reducible refine CC.mono ?_); rintro e w' ⟨rfl, rfl⟩)
        go_ret
        exact ⟨by rw [HV.out]; rfl, rfl⟩
    · obtain rfl : k = n := by omega
      have HV : Hid (cmpN f g k = 0) := cmpN_zero HJ.out
      have hkk : decide ((k : Int) < (k : Int)) = false := by simp
      go_wp2
      go_ret
      exact ⟨by rw [HV.out]; rfl, rfl⟩
end Go.Proofs.Ytjhididnmkbgoaa
