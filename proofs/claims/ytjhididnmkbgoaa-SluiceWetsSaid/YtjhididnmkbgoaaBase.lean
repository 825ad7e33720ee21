/-
  Words for the walks over the sluice: slices of whole numbers and of sills as lists.
-/
import Derived.Test.YtjhididnmkbgoaaProg
import Derived.Test.YtjhididnmkbgoaaMath
import Derived.WalkKit
import Derived.Outline
import Derived.Lib.Hide
import Derived.WalkLawsBesides
import Derived.WalkSpells
import Derived.BigQuiet
import Derived.Deep.QuietTactic
import Derived.StillTailTactics
import Derived.Deep.DeepFit
import Derived.Maps.AppendAt
import Derived.OneCell
import Derived.Deep.OwnRows
import Derived.Deep.LoopGhost
import Derived.Laws.Rows
import Derived.Deep.DeepCutAuto
set_option linter.unusedVariables false
set_option linter.unusedSimpArgs false
namespace Go.Proofs.Ytjhididnmkbgoaa
open Go.RowKit

/-- A slice of n whole numbers. -/
def RdI (w : World) (v : Value) (n : Nat) (f : Nat → Int) : Prop :=
  ∃ A c, v = .slice A n c ∧ (n ≤ 140737488355328 ∧ n ≤ c) ∧ ∀ k, k < n → ∃ b off, A = some ⟨b, off, none⟩ ∧ w.cell? ⟨b, off + k, none⟩ = some (.int .i64 (f k))

theorem RdI.below {w w1 : World} {v : Value} {n : Nat} {f : Nat → Int} (h : RdI w v n f) (hb : Below w.heap.size w w1) : RdI w1 v n f := by
  obtain ⟨A, c, e, hl, hc⟩ := h
  refine ⟨A, c, e, hl, fun k hx => ?_⟩
  obtain ⟨b, off, ea, hk⟩ := hc k hx
  exact ⟨b, off, ea, (hb.cell (World.block_lt_of_cell? w _ hk)).trans hk⟩

theorem RdI.cell {w w1 : World} {A : Option Addr} {c n : Nat} {f : Nat → Int} (hb : Below w.heap.size w w1)
    (h : ∀ k, k < n → ∃ b off, A = some ⟨b, off, none⟩ ∧ w.cell? ⟨b, off + k, none⟩ = some (.int .i64 (f k))) :
    ∀ k, k < n → ∃ b off, A = some ⟨b, off, none⟩ ∧ w1.cell? ⟨b, off + k, none⟩ = some (.int .i64 (f k)) := fun k hx => by
  obtain ⟨b, off, ea, hk⟩ := h k hx
  exact ⟨b, off, ea, (hb.cell (World.block_lt_of_cell? w _ hk)).trans hk⟩

theorem below_drewN {B : Nat} {a w : World} (h : Below B a w) (n : Nat) : Below B a (w.drewN n) := ⟨h.os, h.tape, h.output, h.size, h.block⟩

/-- The world gets a name. -/
theorem wp_world {P : Program} {c : Code} {Q : Exit → Act → World → Prop} {a : Act} {W0 : World} (h : ∀ W, W = W0 → c.wp P Q a W) : c.wp P Q a W0 := h _ rfl

theorem heap_new (W : World) (o : Obj) : (W.alloc o).heap[W.heap.size]? = some o := by show (W.heap.push o)[W.heap.size]? = _; simp

/-! ### append of one element -/
section
variable {P : Program} {ops : Array Oper} {rest : List Oper} {o : Oper} {a : Act} {Q : Exit → Act → World → Prop}

theorem app_one {W : World} {news : List Value} (t e : TypeId) (z : Value) (size bytes : Nat) (ht : P.underlying t = some (.slice e))
    (hinfo : (P.info? e).map (fun i => (i.zero, i.size, i.bytes)) = some (some z, size, bytes)) (hzs : z.cells.size = size) (hsz : 0 < size) (hb0 : 0 < bytes)
    (hgd : o.guard = none) (s x : Operand) (ho : o.op = .call { callee := .builtin .append, args := #[s, x], argTypes := #[t, t] })
    (base : Nat) (v : Value) (n : Nat) (xs : List Value) (hs : a.eval s = v) (hown : W.ownsRow base e size v n xs)
    (hx : a.eval x = .slice (some ⟨W.heap.size, 0, none⟩) 1 1) (hl : news.length = size) (h1 : ∀ u ∈ news, u.oneCell' = true)
    (hbytes : (n + 1) * bytes ≤ 140737488355328) (hbase : base ≤ W.heap.size)
    (h : ∀ v' w', w'.ownsRow base e size v' (n + 1) (xs ++ news) → W.grownBy w' v.ownBlock → (v'.ownBlock = v.ownBlock ∨ v'.ownBlock = some (W.heap.size + 1)) → wpList P ops Q rest (a.put o.dst v') w') :
    wpList P ops Q (o :: rest) a (W.alloc (.cells news.toArray e)) := by
  obtain ⟨i, hi, hz1, hz2, hz3⟩ := info_parts hinfo
  have hn : n + 1 ≤ 140737488355328 := Nat.le_trans (Nat.le_mul_of_pos_right _ hb0) hbytes
  refine wpList_append_own_at (W.alloc (.cells news.toArray e)) hgd s x t ho base e i z size bytes ht hi hz1 hz2 hz3 hzs hsz v n xs hs (hown.alloc _) ⟨W.heap.size, 0, none⟩ 1 1 news hx (by omega) (fun j u hj => ?_) h1
    (by unfold maxLen; omega) hbytes (by simp; omega) ?_
  · have : (⟨W.heap.size, 0, none⟩ : Addr).add j = ⟨W.heap.size, j, none⟩ := by unfold Addr.add; split <;> simp_all
    rw [this]
    have hh : (W.alloc (.cells news.toArray e)).heap[W.heap.size]? = some (.cells news.toArray e (0, 0)) := heap_new W _
    unfold World.cell?
    rw [hh]
    simpa using hj
  · intro v' w' hown' hg _ hat
    refine h v' w' hown' (World.grownBy.trans (World.grownBy_alloc W _ _) hg) ?_
    rcases hat with hat | hat
    · exact .inl hat
    · exact .inr (by simpa using hat)
end

/-- n whole numbers that the call made. -/
def OwI (w : World) (base : Nat) (v : Value) (n : Nat) (f : Nat → Int) : Prop := w.ownsRow base 3 1 v n ((List.range n).map fun k => .int .i64 (f k))

theorem OwI.nil (w : World) (base : Nat) (f : Nat → Int) : OwI w base (.slice none 0 0) 0 f := World.ownsRow_nil w base 3 1

theorem OwI.reads {w : World} {base : Nat} {v : Value} {n : Nat} {f : Nat → Int} (h : OwI w base v n f) (hn : n ≤ 140737488355328) : RdI w v n f := by
  unfold OwI at h
  rcases h.2 with ⟨rfl, rfl⟩ | ⟨g, cap, cur, rfl, _, hh, hc, hm, hsz, ht⟩
  · exact ⟨none, 0, rfl, by omega, fun k hk => by omega⟩
  · refine ⟨_, cap, rfl, ⟨hn, hc⟩, fun k hk => ⟨g, 0, rfl, ?_⟩⟩
    have := h.cellAt k (by omega)
    rw [Nat.zero_add, this]
    simp [hk]

theorem OwI.kept {w w' : World} {row : Option Nat} {base : Nat} {v : Value} {n : Nat} {f : Nat → Int} (h : OwI w base v n f) (hg : w.grownBy w' row) (hne : v.ownBlock = none ∨ v.ownBlock ≠ row) : OwI w' base v n f :=
  World.ownsRow.kept h hg hne

theorem grown_below {w w1 : World} (h : Below w.heap.size w w1) (row : Option Nat) : w.grownBy w1 row := ⟨h.os, h.tape, h.output, h.size, fun i hi _ => h.block i hi⟩

theorem OwI.below {w w' : World} {base : Nat} {v : Value} {n : Nat} {f : Nat → Int} (h : OwI w base v n f) (hb : Below w.heap.size w w') : OwI w' base v n f :=
  h.kept (grown_below hb none) (by cases v.ownBlock <;> simp)

theorem OwI.congr {w : World} {base : Nat} {v : Value} {n : Nat} {f g : Nat → Int} (h : OwI w base v n f) (e : ∀ k, k < n → f k = g k) : OwI w base v n g := by
  unfold OwI at *
  have : (List.range n).map (fun k => Value.int .i64 (g k)) = (List.range n).map fun k => .int .i64 (f k) := by
    apply List.map_congr_left
    intro k hk
    rw [e k (by simpa using hk)]
  rw [this]; exact h

theorem own_base {w : World} {base : Nat} {e : TypeId} {size n : Nat} {v : Value} {xs : List Value} (h : w.ownsRow base e size v n xs) (k : Nat) (hk : v.ownBlock = some k) : base ≤ k := (h.lt k hk).1

section
variable {ops : Array Oper} {rest : List Oper} {o : Oper} {a : Act} {Q : Exit → Act → World → Prop}
/-- 'out = append(out, y)', whole numbers. -/
theorem app_int {w W : World} {y : Int} (hgd : o.guard = none) (s x : Operand) (ho : o.op = .call { callee := .builtin .append, args := #[s, x], argTypes := #[22, 22] })
    (base : Nat) (v : Value) (n : Nat) (f : Nat → Int) (hy : y = f n) (hs : a.eval s = v) (hown : OwI W base v n f) (hB : Below base w W)
    (hx : a.eval x = .slice (some ⟨W.heap.size, 0, none⟩) 1 1) (hbytes : n ≤ 1000000) (hbase : base ≤ W.heap.size)
    (h : ∀ v' w', OwI w' base v' (n + 1) f → Below base w w' → W.grownBy w' v.ownBlock → wpList Try.prog ops Q rest (a.put o.dst v') w') :
    wpList Try.prog ops Q (o :: rest) a (W.alloc (.cells #[.int .i64 y] 3)) := by
  refine app_one (news := [.int .i64 y]) 22 3 (.int .i64 0) 1 8 Try.underlying22 (by kernel_rfl) rfl (by decide) (by decide) hgd s x ho base v n _ hs hown hx rfl (by simp [Value.oneCell']) (by omega) hbase ?_
  intro v' w' h1 h2 _
  refine h v' w' ?_ (hB.grown h2 hbase (own_base hown)) h2
  unfold OwI
  rw [List.range_succ, List.map_append, List.map_cons, List.map_nil, ← hy]
  exact h1
end

/-- A slice of n triples. -/
def RdT (w : World) (v : Value) (n : Nat) (A B H : Nat → Int) : Prop :=
  ∃ a c, v = .slice a n c ∧ (n ≤ 46912496118442 ∧ n ≤ c) ∧ ∀ k, k < n → ∃ b off, a = some ⟨b, off, none⟩ ∧ w.cell? ⟨b, off + k * 3, none⟩ = some (.int .i64 (A k)) ∧
    w.cell? ⟨b, off + k * 3 + 1, none⟩ = some (.int .i64 (B k)) ∧ w.cell? ⟨b, off + k * 3 + 2, none⟩ = some (.int .i64 (H k))

theorem cell_up {w w1 : World} (hb : Below w.heap.size w w1) {a : Addr} {v : Value} (h : w.cell? a = some v) : w1.cell? a = some v := (hb.cell (World.block_lt_of_cell? w _ h)).trans h

theorem RdT.below {w w1 : World} {v : Value} {n : Nat} {A B H : Nat → Int} (h : RdT w v n A B H) (hb : Below w.heap.size w w1) : RdT w1 v n A B H := by
  obtain ⟨a, c, e, hl, hc⟩ := h
  refine ⟨a, c, e, hl, fun k hx => ?_⟩
  obtain ⟨b, off, ea, h1, h2, h3⟩ := hc k hx
  exact ⟨b, off, ea, cell_up hb h1, cell_up hb h2, cell_up hb h3⟩

/-- A slice of n pairs. -/
def RdP (w : World) (v : Value) (n : Nat) (A B : Nat → Int) : Prop :=
  ∃ a c, v = .slice a n c ∧ (n ≤ 70368744177664 ∧ n ≤ c) ∧ ∀ k, k < n → ∃ b off, a = some ⟨b, off, none⟩ ∧ w.cell? ⟨b, off + k * 2, none⟩ = some (.int .i64 (A k)) ∧
    w.cell? ⟨b, off + k * 2 + 1, none⟩ = some (.int .i64 (B k))

theorem RdP.below {w w1 : World} {v : Value} {n : Nat} {A B : Nat → Int} (h : RdP w v n A B) (hb : Below w.heap.size w w1) : RdP w1 v n A B := by
  obtain ⟨a, c, e, hl, hc⟩ := h
  refine ⟨a, c, e, hl, fun k hx => ?_⟩
  obtain ⟨b, off, ea, h1, h2⟩ := hc k hx
  exact ⟨b, off, ea, cell_up hb h1, cell_up hb h2⟩

theorem add_plain (b off j : Nat) : (⟨b, off, none⟩ : Addr).add j = ⟨b, off + j, none⟩ := by unfold Addr.add; split <;> simp_all

theorem RdI.take {w : World} {A : Option Addr} {n c : Nat} {f : Nat → Int} (h : RdI w (.slice A n c) n f) (k : Nat) (hk : k ≤ n) : RdI w (.slice A k c) k f := by
  obtain ⟨A1, c1, e, hl, hc⟩ := h
  cases e
  exact ⟨A, c, rfl, by omega, fun j hj => hc j (by omega)⟩

theorem RdT.take {w : World} {a : Option Addr} {n c : Nat} {A B H : Nat → Int} (h : RdT w (.slice a n c) n A B H) (k : Nat) (hk : k ≤ n) : RdT w (.slice a k c) k A B H := by
  obtain ⟨A1, c1, e, hl, hc⟩ := h
  cases e
  exact ⟨a, c, rfl, by omega, fun j hj => hc j (by omega)⟩

section
variable {ops : Array Oper} {rest : List Oper} {o : Oper} {a : Act} {Q : Exit → Act → World → Prop}
/-- 'append(out, l...)', whole numbers. -/
theorem app_ints {w W : World} (hgd : o.guard = none) (s x : Operand) (ho : o.op = .call { callee := .builtin .append, args := #[s, x], argTypes := #[22, 22] })
    (base : Nat) (v u : Value) (n m : Nat) (f g : Nat → Int) (hs : a.eval s = v) (hx : a.eval x = u) (hown : OwI W base v n f) (hr : RdI W u m g) (hB : Below base w W)
    (hn : n ≤ 1000000) (hm : m ≤ 1000000) (hbase : base ≤ W.heap.size)
    (h : ∀ v' w', OwI w' base v' (n + m) (fun k => if k < n then f k else g (k - n)) → Below base w w' → W.grownBy w' v.ownBlock → wpList Try.prog ops Q rest (a.put o.dst v') w') :
    wpList Try.prog ops Q (o :: rest) a W := by
  obtain ⟨A, c, rfl, hl, hc⟩ := hr
  have hinfo : (Try.prog.info? 3).map (fun i => (i.zero, i.size, i.bytes)) = some (some (.int .i64 0), 1, 8) := by kernel_rfl
  obtain ⟨i, hi, hz1, hz2, hz3⟩ := info_parts hinfo
  have hlist : ∀ v' w', w'.ownsRow base 3 1 v' (n + m) ((List.range n).map (fun k => Value.int .i64 (f k)) ++ (List.range m).map fun k => .int .i64 (g k)) → OwI w' base v' (n + m) (fun k => if k < n then f k else g (k - n)) := by
    intro v' w' h'
    unfold OwI
    rw [List.range_add, List.map_append]
    have e1 : (List.range n).map (fun k => Value.int .i64 (if k < n then f k else g (k - n))) = (List.range n).map fun k => .int .i64 (f k) := by
      apply List.map_congr_left
      intro k hk
      rw [if_pos (by simpa using hk)]
    have e2 : ((List.range m).map (n + ·)).map (fun k => Value.int .i64 (if k < n then f k else g (k - n))) = (List.range m).map fun k => .int .i64 (g k) := by
      rw [List.map_map]
      apply List.map_congr_left
      intro k hk
      show Value.int .i64 (if n + k < n then f (n + k) else g (n + k - n)) = _
      rw [if_neg (by omega), Nat.add_sub_cancel_left]
    rw [e1, e2]
    exact h'
  rcases A with _ | ad
  · obtain rfl : m = 0 := by
      rcases Nat.eq_zero_or_pos m with h0 | h0
      · exact h0
      · obtain ⟨_, _, e, _⟩ := hc 0 h0
        cases e
    have hrun : (Builtin.append_ #[22, 22] o.type #[v, .slice none 0 c]).run Try.prog W = .ok v W := by
      rcases hown.2 with ⟨rfl, rfl⟩ | ⟨g', cap, cur, rfl, _, _, hnc, _⟩
      · simp [Builtin.append_, run_underlying Try.underlying22, sizeOf, typeInfo, hi, Builtin.lenOf, Builtin.firstCells]
      · simp [Builtin.append_, run_underlying Try.underlying22, sizeOf, typeInfo, hi, Builtin.lenOf, Builtin.firstCells, hnc, storeCells]
    refine wpList_plain hgd fun K hK => ?_
    unfold Oper.wp execOp
    simp only [ho, resolve, invoke, builtin, Sem.run_bind, Sem.run_pure, Result.andThen_ok, List.map_toArray, List.map_cons, List.map_nil, hs, hx, hrun]
    refine hK _ _ (h v W (hlist _ _ ?_) hB (World.grownBy.refl _ _))
    unfold OwI at hown
    simpa using hown
  · refine wpList_append_own_at W hgd s x 22 ho base 3 i (.int .i64 0) 1 8 Try.underlying22 hi hz1 hz2 hz3 rfl (by decide) v n _ hs hown ad m c ((List.range m).map fun k => .int .i64 (g k)) hx (by simp) (fun j u hj => ?_)
      (by intro u hu; simp at hu; obtain ⟨k, _, rfl⟩ := hu; rfl) (by unfold maxLen; omega) (by omega) hbase ?_
    · have hjm : j < m := by
        have := (List.getElem?_eq_some_iff.1 hj).1
        simpa using this
      obtain ⟨b, off, e, hcell⟩ := hc j hjm
      cases e
      rw [add_plain, hcell, ← hj]
      simp [hjm]
    · intro v' w' hown' hg _ _
      exact h v' w' (hlist _ _ hown') (hB.grown hg hbase (own_base hown)) hg
end

/-! ### A region that draws its order, loads, and calls what makes memory -/
/-- A world that has grown out of W. -/
def Ext (W : World) : Type := { w' : World // Below W.heap.size W w' }
instance (W : World) : Nonempty (Ext W) := ⟨⟨W, Below.refl _ W⟩⟩
def _root_.Go.World.ext (W : World) (n : Ext W) : World := n.1
theorem Ext.below {W : World} (n : Ext W) : Below W.heap.size W (W.ext n) := n.2
theorem Ext.cell {W : World} {a : Addr} {v : Value} (h : W.cell? a = some v) (n : Ext W) : (W.ext n).cell? a = some v := cell_up n.2 h

theorem wp_region_ext {P : Program} {id : Nat} {Q : Exit → Act → World → Prop} {a : Act} {W : World} {l : List Oper} (hm : P.follows .mixedOrders = true) (hB : Region.lexB .any l.toArray = true)
    (h : wpQuiet P l.toArray (fun w' => ∃ n : Ext W, w' = W.ext n) (fun a' => ∀ w', (∃ n : Ext W, w' = W.ext n) → Q .normal a' w') l a) : (Code.region id l.toArray true).wp P Q a W :=
  wp_region_quiet (C := fun w' => ∃ n : Ext W, w' = W.ext n) hm hB ⟨⟨_, (Below.refl _ W).drew⟩, rfl⟩ (by simpa using h)

/-- A callee that makes memory, met in a world that has grown. -/
theorem calls_ext {P : Program} {f : FuncId} {args : Array Value} {W : World} {n : Ext W} {v : Value}
    (h : Calls P f args (W.ext n) fun e w' => e = .returned v ∧ Below (W.ext n).heap.size (W.ext n) w') : Calls P f args (W.ext n) fun e w'' => e = .returned v ∧ ∃ m : Ext W, w'' = W.ext m :=
  h.mono fun _ w' ⟨he, hm⟩ => ⟨he, ⟨w', n.below.trans (hm.mono n.below.size)⟩, rfl⟩

theorem calls_ext_drawn {P : Program} {f : FuncId} {args : Array Value} {W : World} {n : Ext W} {v : Value}
    (h : Calls P f args (W.ext n) fun e w' => e = .returned v ∧ ∃ q, w' = (W.ext n).drewN q) : Calls P f args (W.ext n) fun e w'' => e = .returned v ∧ ∃ m : Ext W, w'' = W.ext m :=
  h.mono fun _ w' ⟨he, q, hm⟩ => ⟨he, ⟨w', by rw [hm]; exact below_drewN n.below q⟩, rfl⟩

/-! ### A block known whole -/
def Blk (w : World) (b : Nat) (cs : Array Value) (t : TypeId) : Prop := w.heap[b]? = some (.cells cs t (0, 0))
theorem Blk.lt {w : World} {b : Nat} {cs : Array Value} {t : TypeId} (h : Blk w b cs t) : b < w.heap.size := (Array.getElem?_eq_some_iff.1 h).1
theorem Blk.cell {w : World} {b : Nat} {cs : Array Value} {t : TypeId} (h : Blk w b cs t) (j : Nat) {v : Value} (hj : cs[j]? = some v) : w.cell? ⟨b, j, none⟩ = some v := by
  unfold World.cell?
  rw [show w.heap[(⟨b, j, none⟩ : Addr).block]? = _ from h]
  simpa using hj
theorem Blk.frozen {w : World} {b : Nat} {cs : Array Value} {t : TypeId} (h : Blk w b cs t) (j : Nat) : w.frozen? ⟨b, j, none⟩ = false := by
  unfold World.frozen?
  rw [show w.heap[(⟨b, j, none⟩ : Addr).block]? = _ from h]
  simp
theorem Blk.new (w : World) (cs : Array Value) (t : TypeId) : Blk (w.alloc (.cells cs t)) w.heap.size cs t := heap_new w _
theorem Blk.kept {w w' : World} {row : Option Nat} {b : Nat} {cs : Array Value} {t : TypeId} (h : Blk w b cs t) (hg : w.grownBy w' row) (hne : some b ≠ row) : Blk w' b cs t := (hg.block b h.lt hne).trans h
theorem Blk.below {w w' : World} {b : Nat} {cs : Array Value} {t : TypeId} (h : Blk w b cs t) (hb : Below w.heap.size w w') : Blk w' b cs t := (hb.block b h.lt).trans h
theorem Blk.alloc {w : World} {b : Nat} {cs : Array Value} {t : TypeId} (h : Blk w b cs t) (o : Obj) : Blk (w.alloc o) b cs t := h.kept (World.grownBy_alloc w o none) (by simp)
theorem Blk.drewN {w : World} {b : Nat} {cs : Array Value} {t : TypeId} (h : Blk w b cs t) (n : Nat) : Blk (w.drewN n) b cs t := h
theorem Blk.set {w : World} {b : Nat} {cs : Array Value} {t : TypeId} (h : Blk w b cs t) (j : Nat) (x : Value) : Blk (w.setCell ⟨b, j, none⟩ x) b (cs.setIfInBounds j x) t := by
  unfold Blk at *
  simp only [World.setCell, Array.getElem?_modify]
  rw [if_pos trivial, h]
  simp
theorem grown_setCell (w : World) (b j : Nat) (x : Value) : w.grownBy (w.setCell ⟨b, j, none⟩ x) (some b) :=
  ⟨rfl, rfl, rfl, by simp [World.setCell], fun k _ hne => Below.heap_setCell _ _ _ _ (fun e => hne (by rw [e]))⟩
theorem Blk.other {w : World} {b b' j : Nat} {cs : Array Value} {t : TypeId} (h : Blk w b cs t) (hne : b ≠ b') (x : Value) : Blk (w.setCell ⟨b', j, none⟩ x) b cs t := h.kept (grown_setCell w b' j x) (fun e => hne (by cases e; rfl))
theorem Blk.ne_own {w : World} {b : Nat} {cs : Array Value} {t e : TypeId} (h : Blk w b cs t) (hte : t ≠ e) {base size k : Nat} {v : Value} {xs : List Value} (hr : w.ownsRow base e size v k xs) : some b ≠ v.ownBlock := by
  rcases hr.2 with ⟨rfl, _⟩ | ⟨g, cap, cur, rfl, _, hh, _⟩
  · simp [Value.ownBlock]
  · intro e'
    have : b = g := by simpa [Value.ownBlock] using e'
    subst this
    rw [show w.heap[b]? = _ from h] at hh
    cases hh
    exact hte rfl

section
variable {ops : Array Oper} {rest : List Oper} {o : Oper} {a : Act} {Q : Exit → Act → World → Prop}
/-- The same; and where the new row lies. -/
theorem app_int' {w W : World} {y : Int} (hgd : o.guard = none) (s x : Operand) (ho : o.op = .call { callee := .builtin .append, args := #[s, x], argTypes := #[22, 22] })
    (base : Nat) (v : Value) (n : Nat) (f : Nat → Int) (hy : y = f n) (hs : a.eval s = v) (hown : OwI W base v n f) (hB : Below base w W)
    (hx : a.eval x = .slice (some ⟨W.heap.size, 0, none⟩) 1 1) (hbytes : n ≤ 1000000) (hbase : base ≤ W.heap.size)
    (h : ∀ v' w', OwI w' base v' (n + 1) f → Below base w w' → W.grownBy w' v.ownBlock → (v'.ownBlock = v.ownBlock ∨ v'.ownBlock = some (W.heap.size + 1)) → wpList Try.prog ops Q rest (a.put o.dst v') w') :
    wpList Try.prog ops Q (o :: rest) a (W.alloc (.cells #[.int .i64 y] 3)) := by
  refine app_one (news := [.int .i64 y]) 22 3 (.int .i64 0) 1 8 Try.underlying22 (by kernel_rfl) rfl (by decide) (by decide) hgd s x ho base v n _ hs hown hx rfl (by simp [Value.oneCell']) (by omega) hbase ?_
  intro v' w' h1 h2 h3
  refine h v' w' ?_ (hB.grown h2 hbase (own_base hown)) h2 h3
  unfold OwI
  rw [List.range_succ, List.map_append, List.map_cons, List.map_nil, ← hy]
  exact h1
end

theorem own_form {w : World} {base : Nat} {e : TypeId} {size n : Nat} {v : Value} {xs : List Value} (h : w.ownsRow base e size v (n + 1) xs) : ∃ g cap, v = .slice (some ⟨g, 0, none⟩) (n + 1) cap := by
  rcases h.2 with ⟨_, h0⟩ | ⟨g, cap, cur, rfl, _⟩
  · omega
  · exact ⟨g, cap, rfl⟩

theorem world_name {p : World → Prop} {W0 : World} (h : ∀ W, W = W0 → p W) : p W0 := h _ rfl

theorem ret_eq {a b : Value} (h : a = b) : Ending.returned a = .returned b := by rw [h]
end Go.Proofs.Ytjhididnmkbgoaa
