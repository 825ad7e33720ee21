/-
  What every law begins with: basins out of any data ('tame'), and their copy for the program ('given').
-/
import Derived.Test.YtjhididnmkbgoaaAx
import Derived.Test.YtjhididnmkbgoaaWj
import Derived.Test.YtjhididnmkbgoaaWk
set_option linter.unusedVariables false
set_option linter.unusedSimpArgs false
namespace Go.Proofs.Ytjhididnmkbgoaa
open Go.RowKit

theorem amt_bd {len : Nat} {l : Nat → Int} {most : Int} (h0 : 0 ≤ most) (h1 : most ≤ 1000000) (i : Nat) : 0 ≤ amt len l most i ∧ amt len l most i ≤ most := by
  unfold amt
  split
  · have hx := (u64_range (l i)).1
    generalize IntKind.u64.wrap (l i) = x at *
    rw [Int.tmod_eq_emod_of_nonneg hx]
    have e1 := Int.emod_nonneg x (show most + 1 ≠ 0 by omega)
    have e2 := Int.emod_lt_of_pos x (show 0 < most + 1 by omega)
    have : wrap64 (x % (most + 1)) = x % (most + 1) := by unfold wrap64; omega
    omega
  · omega

theorem ChkI.congr {n m : Nat} {area floor A B H A' B' H' : Nat → Int} (h : ChkI n n m area floor A B H) (e : ∀ k, k < m → A k = A' k ∧ B k = B' k ∧ H k = H' k) : ChkI n n m area floor A' B' H' := by
  refine ⟨h.n1, h.n8, h.nf, h.m20, h.ars, h.fls, fun i hi => ?_, fun i hi k hk => ?_⟩
  · obtain ⟨a, b, c⟩ := e i hi
    have s := h.sill i hi
    refine ⟨by rw [← a]; exact s.a0, by rw [← a, ← b]; exact s.ab, by rw [← b]; exact s.bn, by rw [← c]; exact s.h1, by rw [← c]; exact s.h2, by rw [← a, ← c]; exact s.fa, by rw [← b, ← c]; exact s.fb, fun h0 => ?_⟩
    obtain ⟨a', b', c'⟩ := e (i - 1) (by omega)
    rw [← a, ← b, ← c, ← a', ← b', ← c']
    exact s.ord h0
  · rw [← (e i hi).2.2, ← (e k (by omega)).2.2]
    exact h.dist i hi k hk

/-- Basins that the call made. -/
structure Made (w : World) (base : Nat) (ua uf us : Value) (n m : Nat) (area floor : Nat → Int) (S : Nat → Slu.Sill) : Prop where
  ok : SOk n m area floor S
  ck : ChkI n n m area floor (fun k => ((S k).a : Int)) (fun k => ((S k).b : Int)) (fun k => (S k).h)
  a : OwI w base ua n area
  f : OwI w base uf n floor
  s : OwT w base us m (fun k => ((S k).a : Int)) (fun k => ((S k).b : Int)) (fun k => (S k).h)

theorem Made.below {w w' : World} {base : Nat} {ua uf us : Value} {n m : Nat} {area floor : Nat → Int} {S : Nat → Slu.Sill} (h : Made w base ua uf us n m area floor S) (hb : Below w.heap.size w w') : Made w' base ua uf us n m area floor S :=
  ⟨h.ok, h.ck, h.a.below hb, h.f.below hb, h.s.below hb⟩

theorem Made.bs {w : World} {base : Nat} {ua uf us : Value} {n m : Nat} {area floor : Nat → Int} {S : Nat → Slu.Sill} (h : Made w base ua uf us n m area floor S) : Bs w ua uf us n m area floor S :=
  ⟨h.ok, h.ck, h.a.reads (by have := h.ok.n8; omega), h.f.reads (by have := h.ok.n8; omega), h.s.reads (by have := h.ok.m20; omega)⟩

def TameB (w : World) (e : Ending) (w' : World) : Prop :=
  ∃ (ua uf us : Value) (n m : Nat) (area floor : Nat → Int) (S : Nat → Slu.Sill), e = .returned (.agg #[ua, uf, us]) ∧ Made w' w.heap.size ua uf us n m area floor S ∧ (m = 0 → us = .slice none 0 0) ∧ Below w.heap.size w w'

theorem tameb_any (w : World) (va vf vs : Value) (na nf ns : Nat) (la lf A B H : Nat → Int) (hA : RdI w va na la) (hF : RdI w vf nf lf) (hS : RdT w vs ns A B H) :
    Calls Try.prog 14 #[.agg #[va, vf, vs], .int .i64 8] w fun e w' => TameB w e w' := by
  refine (tame_any w va vf vs na nf ns la lf A B H hA hF hS).mono ?_
  rintro e w' ⟨ua, uf, us, n, m, area, floor, A, B, H, rfl, ha, hf, hs, hc, har, hfl, hz, hB⟩
  have eA : ∀ k, k < m → A k = ((A k).toNat : Int) ∧ B k = ((B k).toNat : Int) ∧ H k = H k := fun k hk => by
    have s := hc.sill k hk
    have := s.a0
    have := s.ab
    exact ⟨by omega, by omega, rfl⟩
  refine ⟨ua, uf, us, n, m, area, floor, fun k => ⟨(A k).toNat, (B k).toNat, H k⟩, rfl, ⟨?_, hc.congr eA, ha, hf, hs.congr eA⟩, hz, hB⟩
  have hs2 := fun k hk => hc.sill k hk
  refine ⟨⟨fun i => (har i).1, fun i => (har i).2, fun i => (hfl i).1, fun i => (hfl i).2⟩, hc.n1, hc.n8, hc.m20, fun k hk => ?_, fun k hk => ?_, fun k hk => (hs2 k hk).h1, fun k hk => (hs2 k hk).h2, fun k hk => (hs2 k hk).fa, fun k hk hb => ?_, fun i j hi hj e => ?_⟩
  · have := (hs2 k hk).a0; have := (hs2 k hk).ab; show (A k).toNat < (B k).toNat; omega
  · have := (hs2 k hk).bn; show (B k).toNat ≤ n; omega
  · have := (hs2 k hk).a0; have := (hs2 k hk).ab; refine (hs2 k hk).fb ?_
    have hb' : (B k).toNat < n := hb
    omega
  · have e' : H i = H j := e
    rcases Nat.lt_trichotomy i j with h | h | h
    · exact absurd e' (hc.dist j hj i h)
    · exact h
    · exact absurd e'.symm (hc.dist i hi j h)

theorem givenb_any (w : World) (base : Nat) (ua uf us : Value) (n m : Nat) (area floor : Nat → Int) (S : Nat → Slu.Sill) (h : Made w base ua uf us n m area floor S) (hz : m = 0 → us = .slice none 0 0) :
    Calls Try.prog 18 #[.agg #[ua, uf, us]] w fun e w' => ∃ va vf vs, e = .returned (.agg #[va, vf, vs]) ∧ Made w' w.heap.size va vf vs n m area floor S ∧ Below w.heap.size w w' := by
  have hb := h.bs
  have n8 := h.ok.n8
  have m20 := h.ok.m20
  rcases Nat.eq_zero_or_pos m with h0 | h0
  · subst h0
    rw [hz rfl]
    refine (given_nil w ua uf n n area floor (fun k => ((S k).a : Int)) (fun k => ((S k).b : Int)) (fun k => (S k).h) hb.a hb.f (by omega) (by omega)).mono ?_
    rintro e w' ⟨va, vf, vs, rfl, ha, hf, hs, hB⟩
    exact ⟨va, vf, vs, rfl, ⟨h.ok, h.ck, ha, hf, hs⟩, hB⟩
  · obtain ⟨m, rfl⟩ : ∃ k, m = k + 1 := ⟨m - 1, by omega⟩
    obtain ⟨g, cap, rfl⟩ := own_form h.s
    refine (given_some w ua uf g 0 cap n n m area floor (fun k => ((S k).a : Int)) (fun k => ((S k).b : Int)) (fun k => (S k).h) hb.a hb.f hb.s (by omega) (by omega) (by omega)).mono ?_
    rintro e w' ⟨va, vf, vs, rfl, ha, hf, hs, hB⟩
    exact ⟨va, vf, vs, rfl, ⟨h.ok, h.ck, ha, hf, hs⟩, hB⟩
end Go.Proofs.Ytjhididnmkbgoaa
