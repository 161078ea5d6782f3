/- Parts of the proof, one behind the other: Ob, Ba, Ko, Ge, Gf, Gg. -/
import Derived.Below
import Derived.Deep.Draws
import Derived.ChangeMaps5
import Derived.Deep.AppendLies
import Derived.Laws.Rows
import Derived.IntWalk
import Derived.Lib.Hide
import Derived.WalkKit
import Derived.Test.YtgnagbbdnlmgeaaGreatProg
import Derived.WalkSpells
import Derived.LoopTactic
import Derived.Deep.RegionWith
import Derived.Deep.RegionHeld3

/- What a call may turn of memory, and slices that lie in blocks of their own. Plain facts of the model's memory; no program is named. -/
section
set_option linter.unusedVariables false
set_option linter.unusedSimpArgs false
set_option linter.unusedSectionVars false
namespace Go.Proofs.YtgnagbbdnlmgeaaGreat.Ob
open Go Go.RowKit
open Go.ChangeMaps (setBlock)

/-- w' is w but for blocks of F and new ones. -/
structure Upd (F : List Nat) (w w' : World) : Prop where
  os : w'.os = w.os
  tape : w'.tape = w.tape
  output : w'.output = w.output
  size : w.heap.size ≤ w'.heap.size
  block : ∀ k, k < w.heap.size → k ∉ F → w'.heap[k]? = w.heap[k]?

theorem Upd.refl (F : List Nat) (w : World) : Upd F w w := ⟨rfl, rfl, rfl, Nat.le_refl _, fun _ _ _ => rfl⟩
theorem Upd.trans {F F1 : List Nat} {w w1 w2 : World} (h : Upd F w w1) (k : Upd F1 w1 w2) (s : ∀ x ∈ F1, x ∈ F ∨ w.heap.size ≤ x) : Upd F w w2 :=
  ⟨k.os.trans h.os, k.tape.trans h.tape, k.output.trans h.output, Nat.le_trans h.size k.size, fun i hi hn =>
    (k.block i (Nat.lt_of_lt_of_le hi h.size) (fun hc => by rcases s i hc with r | r; exact hn r; omega)).trans (h.block i hi hn)⟩
theorem Upd.mono {F F1 : List Nat} {w w1 : World} (h : Upd F w w1) (s : ∀ x ∈ F, x ∈ F1 ∨ w.heap.size ≤ x) : Upd F1 w w1 :=
  ⟨h.os, h.tape, h.output, h.size, fun i hi hn => h.block i hi (fun hc => by rcases s i hc with r | r; exact hn r; omega)⟩
theorem Upd.of_below {F : List Nat} {w w' : World} (h : Below w.heap.size w w') : Upd F w w' := ⟨h.os, h.tape, h.output, h.size, fun k hk _ => h.block k hk⟩
theorem Upd.below {F : List Nat} {w w' : World} (h : Upd F w w') (hF : ∀ k ∈ F, w.heap.size ≤ k) : Below w.heap.size w w' :=
  ⟨h.os, h.tape, h.output, h.size, fun k hk => h.block k hk (fun hc => by have := hF k hc; omega)⟩
theorem Upd.belowB {F : List Nat} {B : Nat} {w w' : World} (h : Upd F w w') (hB : B ≤ w.heap.size) (hF : ∀ k ∈ F, B ≤ k) : Below B w w' :=
  ⟨h.os, h.tape, h.output, h.size, fun k hk => h.block k (by omega) (fun hc => by have := hF k hc; omega)⟩
theorem Upd.of_grown {F : List Nat} {w w' : World} (h : w.grownBy w' none) : Upd F w w' := ⟨h.os, h.tape, h.output, h.size, fun k hk _ => h.block k hk (by simp)⟩
theorem Upd.drew {F : List Nat} {w w1 : World} (h : Upd F w w1) : Upd F w w1.drew := ⟨h.os, h.tape, h.output, h.size, h.block⟩
theorem Upd.drewN {F : List Nat} {w w1 : World} (h : Upd F w w1) (n : Nat) : Upd F w (w1.drewN n) := ⟨h.os, h.tape, h.output, h.size, h.block⟩
theorem Upd.alloc {F : List Nat} {w w1 : World} (h : Upd F w w1) (o : Obj) : Upd F w (w1.alloc o) :=
  ⟨h.os, h.tape, h.output, by have := h.size; simp; omega, fun k hk hn => (Below.heap_alloc w1 o k (by have := h.size; omega)).trans (h.block k hk hn)⟩
theorem Upd.setCell {F : List Nat} {w w1 : World} (h : Upd F w w1) {a : Addr} (ha : a.block ∈ F ∨ w.heap.size ≤ a.block) (v : Value) : Upd F w (w1.setCell a v) :=
  ⟨h.os, h.tape, h.output, by simpa [World.setCell] using h.size, fun k hk hn => (Below.heap_setCell w1 a v k (fun e => by subst e; rcases ha with r | r; exact hn r; omega)).trans (h.block k hk hn)⟩
theorem setBlock_size (w : World) (b : Nat) (o : Obj) : (setBlock w b o).heap.size = w.heap.size := by simp [setBlock]
theorem setBlock_other (w : World) (b : Nat) (o : Obj) (k : Nat) (h : k ≠ b) : (setBlock w b o).heap[k]? = w.heap[k]? := by
  simp only [setBlock, Array.getElem?_setIfInBounds]
  rw [if_neg (fun e => h e.symm)]
theorem setBlock_same {w : World} {b : Nat} {o' : Obj} (h : w.heap[b]? = some o') (o : Obj) : (setBlock w b o).heap[b]? = some o := by
  have := (Array.getElem?_eq_some_iff.1 h).1
  simp only [setBlock, Array.getElem?_setIfInBounds, if_true, this]
theorem Upd.setBlock {F : List Nat} {w w1 : World} (h : Upd F w w1) {b : Nat} (hb : b ∈ F ∨ w.heap.size ≤ b) (o : Obj) : Upd F w (setBlock w1 b o) :=
  ⟨h.os, h.tape, h.output, by rw [setBlock_size]; exact h.size, fun k hk hn => (setBlock_other w1 b o k (fun e => by subst e; rcases hb with r | r; exact hn r; omega)).trans (h.block k hk hn)⟩
theorem Upd.blk {F : List Nat} {w w1 : World} (h : Upd F w w1) {k : Nat} {o : Obj} (hb : w.heap[k]? = some o) (hn : k ∉ F) : w1.heap[k]? = some o :=
  (h.block k (Array.getElem?_eq_some_iff.1 hb).1 hn).trans hb

/-! ### single blocks -/
theorem lt_of {w : World} {g : Nat} {o : Obj} (h : w.heap[g]? = some o) : g < w.heap.size := (Array.getElem?_eq_some_iff.1 h).1
theorem cell_of {w : World} {g : Nat} {t : TypeId} {cs : Array Value} {fr : Nat × Nat} (h : w.heap[g]? = some (.cells cs t fr)) (i : Nat) : w.cell? ⟨g, i, none⟩ = cs[i]? := by
  simp [World.cell?, h]
theorem free_of {w : World} {g : Nat} {t : TypeId} {cs : Array Value} (h : w.heap[g]? = some (.cells cs t (0, 0))) (i : Nat) : w.frozen? ⟨g, i, none⟩ = false := by
  simp [World.frozen?, h]
theorem set_same {w : World} {g : Nat} {t : TypeId} {cs : Array Value} {fr : Nat × Nat} (h : w.heap[g]? = some (.cells cs t fr)) (i : Nat) (u : Value) : (w.setCell ⟨g, i, none⟩ u).heap[g]? = some (.cells (cs.setIfInBounds i u) t fr) := by
  simp [World.setCell, Array.getElem?_modify, h]
theorem set_other {w : World} {g : Nat} {o : Obj} (h : w.heap[g]? = some o) {a : Addr} (ha : g ≠ a.block) (u : Value) : (w.setCell a u).heap[g]? = some o := (Below.heap_setCell w a u g ha).trans h
theorem alloc_old {w : World} {g : Nat} {o : Obj} (h : w.heap[g]? = some o) (o' : Obj) : (w.alloc o').heap[g]? = some o := (Below.heap_alloc w o' g (lt_of h)).trans h
theorem alloc_new (w : World) (o : Obj) : (w.alloc o).heap[w.heap.size]? = some o := heap_alloc_new w o

/-! ### a slice over a row -/
/-- Slice (A, c) holds vs; its row lies in the blocks qs (none, if it is empty). -/
def Sl (w : World) (T : TypeId) (A : Option Addr) (c : Nat) (vs : List Value) (qs : List Nat) : Prop :=
  vs.length ≤ c ∧ ((vs = [] ∧ qs = []) ∨ ∃ q off cs, A = some ⟨q, off, none⟩ ∧ qs = [q] ∧ w.heap[q]? = some (.cells cs T (0, 0)) ∧ off + c ≤ cs.size ∧ ∀ j v, vs[j]? = some v → cs[off + j]? = some v)

theorem Sl.keep {w w' : World} {T : TypeId} {A : Option Addr} {c : Nat} {vs : List Value} {qs : List Nat} (h : Sl w T A c vs qs) (hk : ∀ q ∈ qs, w'.heap[q]? = w.heap[q]?) : Sl w' T A c vs qs := by
  obtain ⟨h0, h1 | ⟨q, off, cs, hA, hq, hb, hs, hc⟩⟩ := h
  · exact ⟨h0, .inl h1⟩
  · exact ⟨h0, .inr ⟨q, off, cs, hA, hq, (hk q (by simp [hq])).trans hb, hs, hc⟩⟩

theorem Sl.at_ {w : World} {T : TypeId} {A : Option Addr} {c : Nat} {vs : List Value} {qs : List Nat} (h : Sl w T A c vs qs) {i : Nat} {v : Value} (hi : vs[i]? = some v) :
    ∃ q off cs, A = some ⟨q, off, none⟩ ∧ qs = [q] ∧ w.heap[q]? = some (.cells cs T (0, 0)) ∧ off + c ≤ cs.size ∧ w.cell? ⟨q, off + i, none⟩ = some v ∧ w.frozen? ⟨q, off + i, none⟩ = false := by
  obtain ⟨h0, ⟨rfl, _⟩ | ⟨q, off, cs, hA, hq, hb, hs, hc⟩⟩ := h
  · simp at hi
  · exact ⟨q, off, cs, hA, hq, hb, hs, by rw [cell_of hb]; exact hc i v hi, free_of hb _⟩

theorem Sl.set_ {w : World} {T : TypeId} {c q off : Nat} {vs : List Value} {qs : List Nat} (h : Sl w T (some ⟨q, off, none⟩) c vs qs) {i : Nat} (hi : i < vs.length) (u : Value) :
    Sl (w.setCell ⟨q, off + i, none⟩ u) T (some ⟨q, off, none⟩) c (vs.set i u) qs := by
  obtain ⟨h0, ⟨rfl, _⟩ | ⟨q', off', cs, hA, hq, hb, hs, hc⟩⟩ := h
  · simp at hi
  · simp only [Option.some.injEq, Addr.mk.injEq, and_true] at hA
    obtain ⟨rfl, rfl⟩ := hA
    refine ⟨by simpa using h0, .inr ⟨q, off, _, rfl, hq, set_same hb _ u, by simpa using hs, fun j v hj => ?_⟩⟩
    rw [Array.getElem?_setIfInBounds]
    rw [List.getElem?_set] at hj
    by_cases e : i = j
    · subst e
      simp only [if_true, hi] at hj ⊢
      cases hj
      rw [if_pos (by omega)]
    · rw [if_neg (by omega)]
      rw [if_neg e] at hj
      exact hc j v hj

theorem Sl.of_own {w : World} {base n : Nat} {T : TypeId} {v : Value} {xs : List Value} (h : w.ownsRow base T 1 v n xs) :
    ∃ A c qs, v = .slice A n c ∧ Sl w T A c xs qs ∧ ∀ q ∈ qs, base ≤ q := by
  obtain ⟨h1, ⟨rfl, rfl⟩ | ⟨g, cap, cur, rfl, hg, hb, hn, _, hs, ht⟩⟩ := h
  · have : xs = [] := List.eq_nil_of_length_eq_zero (by omega)
    exact ⟨none, 0, [], rfl, ⟨by simp [this], .inl ⟨this, rfl⟩⟩, by simp⟩
  · refine ⟨some ⟨g, 0, none⟩, cap, [g], rfl, ⟨by omega, .inr ⟨g, 0, cur, rfl, rfl, hb, by omega, fun j v hj => ?_⟩⟩, by simpa using hg⟩
    rw [← ht, List.getElem?_take] at hj
    split at hj
    · simpa using hj
    · cases hj

end Go.Proofs.YtgnagbbdnlmgeaaGreat.Ob
end

/- Small laws of memory that all walks use. No program is named. -/
section
set_option linter.unusedVariables false
set_option linter.unusedSimpArgs false
namespace Go.Proofs.YtgnagbbdnlmgeaaGreat.Ba
open Go Go.RowKit
open Go.Proofs.YtgnagbbdnlmgeaaGreat.Ob

/-! ### a world that keeps what was there -/
theorem bl_alloc {w w1 : World} (h : Below w.heap.size w w1) (o : Obj) : Below w.heap.size w (w1.alloc o) := h.alloc h.size o
theorem bl_set {w w1 : World} (h : Below w.heap.size w w1) {b o : Nat} (hb : w.heap.size ≤ b) (v : Value) : Below w.heap.size w (w1.setCell ⟨b, o, none⟩ v) := h.setCell hb v
theorem bl_drew {w w1 : World} (h : Below w.heap.size w w1) : Below w.heap.size w w1.drew := ⟨h.os, h.tape, h.output, h.size, h.block⟩
theorem bl_drewN {w w1 : World} (h : Below w.heap.size w w1) (n : Nat) : Below w.heap.size w (w1.drewN n) := ⟨h.os, h.tape, h.output, h.size, h.block⟩
theorem bl_then {w w1 w2 : World} (h : Below w.heap.size w w1) (k : Below w1.heap.size w1 w2) : Below w.heap.size w w2 := h.trans (k.mono h.size)
theorem bl_grown {w w1 w2 : World} {row : Option Nat} (h : Below w.heap.size w w1) (k : w1.grownBy w2 row) (hr : ∀ b, row = some b → w.heap.size ≤ b) : Below w.heap.size w w2 := h.grown k h.size hr
theorem bcell {W w1 : World} (hb : Below W.heap.size W w1) : (∀ b o, b < W.heap.size → w1.cell? ⟨b, o, none⟩ = W.cell? ⟨b, o, none⟩) ∧ (∀ b o, b < W.heap.size → w1.frozen? ⟨b, o, none⟩ = W.frozen? ⟨b, o, none⟩) :=
  ⟨fun b o h => hb.cell (p := ⟨b, o, none⟩) h, fun b o h => hb.frozen (p := ⟨b, o, none⟩) h⟩
theorem cell_blk {w w' : World} {q : Nat} (h : w'.heap[q]? = w.heap[q]?) (o : Nat) : w'.cell? ⟨q, o, none⟩ = w.cell? ⟨q, o, none⟩ := by simp [World.cell?, h]
theorem add_block (a : Addr) (j : Nat) : (a.add j).block = a.block := by
  unfold Addr.add
  split <;> rfl
theorem add_two (a : Addr) (i j : Nat) : (a.add i).add j = a.add (i + j) := by
  unfold Addr.add
  by_cases hi : i = 0 <;> by_cases hj : j = 0 <;> simp [hi, hj, Nat.add_assoc]

/-! ### results that lie in memory -/
theorem res_c {P : Program} {fn : Func} {p : Tmp} {ty : TypeId} (h : fn.results = #[.cell p ty]) (tmps : Array Value) (w : World) (g : Nat) (t : TypeId) (cs : Array Value) (fr : Nat × Nat) (d : TypeDesc)
    (hp : tmps.getD p undef = .pointer (some ⟨g, 0, none⟩)) (hg : w.heap[g]? = some (.cells cs t fr))
    (hu : P.underlying ty = some d) (hd : (match d with | .struct _ | .array _ _ => true | _ => false) = true) (hi : (P.info? ty).map (·.size) = some cs.size) :
    (results fn tmps).run P w = .ok (.agg cs) w := by
  have hp' : tmps[p]?.getD undef = .pointer (some ⟨g, 0, none⟩) := by simpa using hp
  simp [results, h, hp', asAddr, run_loadVar_row w g t ty cs fr d hg hu hd hi]
theorem res_ct {P : Program} {fn : Func} {p u : Tmp} {ty : TypeId} (h : fn.results = #[.cell p ty, .tmp u]) (tmps : Array Value) (w : World) (g : Nat) (t : TypeId) (cs : Array Value) (fr : Nat × Nat) (d : TypeDesc)
    (hp : tmps.getD p undef = .pointer (some ⟨g, 0, none⟩)) (hg : w.heap[g]? = some (.cells cs t fr))
    (hu : P.underlying ty = some d) (hd : (match d with | .struct _ | .array _ _ => true | _ => false) = true) (hi : (P.info? ty).map (·.size) = some cs.size) :
    (results fn tmps).run P w = .ok (.tuple #[.agg cs, tmps.getD u undef]) w := by
  have hp' : tmps[p]?.getD undef = .pointer (some ⟨g, 0, none⟩) := by simpa using hp
  simp [results, h, hp', asAddr, run_loadVar_row w g t ty cs fr d hg hu hd hi]

/-! ### numbers in a row -/
def ivs (k : IntKind) (l : List Int) : List Value := l.map (Value.int k)
theorem ivs_length (k : IntKind) (l : List Int) : (ivs k l).length = l.length := by simp [ivs]
theorem ivs_get {k : IntKind} {l : List Int} {i : Nat} {x : Int} (h : l[i]? = some x) : (ivs k l)[i]? = some (.int k x) := by simp [ivs, h]
theorem ivs_append (k : IntKind) (a b : List Int) : ivs k (a ++ b) = ivs k a ++ ivs k b := by simp [ivs]

/-- the slice (A, ..) reads as these numbers -/
def Rk (k : IntKind) (w : World) (A : Option Addr) (l : List Int) : Prop := ∀ (i : Nat) x, l[i]? = some x → ∃ a, A = some a ∧ a.block < w.heap.size ∧ w.cell? (a.add i) = some (.int k x)

theorem Rk.below {k : IntKind} {w w' : World} {A : Option Addr} {l : List Int} (h : Rk k w A l) (hb : Below w.heap.size w w') : Rk k w' A l := by
  intro i x hi
  obtain ⟨a, rfl, h1, h2⟩ := h i x hi
  exact ⟨a, rfl, Nat.lt_of_lt_of_le h1 hb.size, by rw [hb.cell (p := a.add i) (by rw [add_block]; exact h1)]; exact h2⟩
theorem Rk.keep {k : IntKind} {w w' : World} {A : Option Addr} {l : List Int} (h : Rk k w A l) (hk : ∀ a, A = some a → w'.heap[a.block]? = w.heap[a.block]?) (hs : w.heap.size ≤ w'.heap.size) : Rk k w' A l := by
  intro i x hi
  obtain ⟨a, rfl, h1, h2⟩ := h i x hi
  refine ⟨a, rfl, Nat.lt_of_lt_of_le h1 hs, ?_⟩
  rw [World.cell?_of_block (w := w) (a := a.add i) (by rw [add_block]; exact hk a rfl)]
  exact h2
theorem Rk.nil (k : IntKind) (w : World) (A : Option Addr) : Rk k w A [] := by intro i x hi; simp at hi
theorem Rk.at_ {k : IntKind} {w : World} {a : Addr} {l : List Int} (h : Rk k w (some a) l) {i : Nat} {x : Int} (hi : l[i]? = some x) : w.cell? (a.add i) = some (.int k x) := by
  obtain ⟨b, e, _, h2⟩ := h i x hi
  cases e
  exact h2
theorem Rk.drop {k : IntKind} {w : World} {a : Addr} {l : List Int} (h : Rk k w (some a) l) (n : Nat) : Rk k w (some (a.add n)) (l.drop n) := by
  intro i x hi
  rw [List.getElem?_drop] at hi
  obtain ⟨b, e, h1, h2⟩ := h _ x hi
  cases e
  exact ⟨_, rfl, by rw [add_block]; exact h1, by rw [add_two]; exact h2⟩
theorem Rk.take {k : IntKind} {w : World} {A : Option Addr} {l : List Int} (h : Rk k w A l) (n : Nat) : Rk k w A (l.take n) := by
  intro i x hi
  rw [List.getElem?_take] at hi
  split at hi
  · exact h i x hi
  · cases hi

theorem sl_rk {k : IntKind} {w : World} {T : TypeId} {A : Option Addr} {c : Nat} {l : List Int} {qs : List Nat} (h : Sl w T A c (ivs k l) qs) : Rk k w A l := by
  intro i x hi
  obtain ⟨q, off, cs, rfl, -, hb, -, hc, -⟩ := h.at_ (i := i) (v := .int k x) (ivs_get hi)
  exact ⟨_, rfl, lt_of hb, by rw [Addr.add_lit]; exact hc⟩

/-- cells of a block known whole -/
theorem blk_rk {k : IntKind} {w : World} {q T : Nat} {cs : Array Value} {fr : Nat × Nat} {l : List Int} (h : w.heap[q]? = some (.cells cs T fr)) (hc : ∀ (i : Nat) x, l[i]? = some x → cs[i]? = some (.int k x)) : Rk k w (some ⟨q, 0, none⟩) l := by
  intro i x hi
  exact ⟨_, rfl, lt_of h, by rw [Addr.add_lit, cell_of h, Nat.zero_add]; exact hc i x hi⟩

/-! ### rows of the call's own -/
theorem own_lo {W : World} {B T s n : Nat} {v : Value} {xs : List Value} (h : W.ownsRow B T s v n xs) : ∀ k, v.ownBlock = some k → B ≤ k := by
  obtain ⟨_, ⟨rfl, _⟩ | ⟨g, cap, cur, rfl, hg, _⟩⟩ := h
  · intro k hk; simp [Value.ownBlock] at hk
  · intro k hk; simp [Value.ownBlock] at hk; omega
theorem own_kp {W W' : World} {B T s n : Nat} {v : Value} {xs : List Value} (h : W.ownsRow B T s v n xs) (hk : ∀ k, B ≤ k → k < W.heap.size → W'.heap[k]? = W.heap[k]?) : W'.ownsRow B T s v n xs := by
  obtain ⟨h1, h2 | ⟨g, cap, cur, hv, hg, hb, r⟩⟩ := h
  · exact ⟨h1, .inl h2⟩
  · exact ⟨h1, .inr ⟨g, cap, cur, hv, hg, (hk g hg (lt_of hb)).trans hb, r⟩⟩
theorem own_bl {W W' : World} {B T s n : Nat} {v : Value} {xs : List Value} (h : W.ownsRow B T s v n xs) (hb : Below W.heap.size W W') : W'.ownsRow B T s v n xs := own_kp h (fun k _ hk => hb.block k hk)
theorem own_base {w : World} {B B' T s n : Nat} {v : Value} {xs : List Value} (h : w.ownsRow B' T s v n xs) (hB : B ≤ B') : w.ownsRow B T s v n xs := by
  obtain ⟨h1, h2 | ⟨g, cap, cur, hv, hg, r⟩⟩ := h
  · exact ⟨h1, .inl h2⟩
  · exact ⟨h1, .inr ⟨g, cap, cur, hv, by omega, r⟩⟩
theorem own_slice {w : World} {B T s n : Nat} {v : Value} {xs : List Value} (h : w.ownsRow B T s v n xs) : ∃ A c, v = .slice A n c := by
  obtain ⟨_, ⟨rfl, rfl⟩ | ⟨g, cap, cur, rfl, _⟩⟩ := h
  · exact ⟨_, _, rfl⟩
  · exact ⟨_, _, rfl⟩
theorem own_rk {k : IntKind} {w : World} {B T n : Nat} {A : Option Addr} {c : Nat} {l : List Int} (h : w.ownsRow B T 1 (.slice A n c) n (ivs k l)) : Rk k w A l ∧ l.length = n ∧ n ≤ c := by
  have hl : l.length = n := by
    have := h.1
    rw [ivs_length] at this
    omega
  obtain ⟨A', c', qs, hv, hsl, -⟩ := Sl.of_own h
  simp only [Value.slice.injEq, true_and] at hv
  obtain ⟨rfl, rfl⟩ := hv
  exact ⟨sl_rk hsl, hl, by have := hsl.1; rw [ivs_length] at this; omega⟩
/-- a cell of one's own row -/
theorem own_set {W : World} {B T n q c : Nat} {xs : List Value} (h : W.ownsRow B T 1 (.slice (some ⟨q, 0, none⟩) n c) n xs) {i : Nat} (hi : i < n) (u : Value) : (W.setCell ⟨q, i, none⟩ u).ownsRow B T 1 (.slice (some ⟨q, 0, none⟩) n c) n (xs.set i u) := by
  obtain ⟨h1, ⟨h2, _⟩ | ⟨g, cap, cur, hv, hg, hb, hn, hm, hs, ht⟩⟩ := h
  · cases h2
  · simp only [Value.slice.injEq, Option.some.injEq, Addr.mk.injEq, and_true, true_and] at hv
    obtain ⟨rfl, rfl⟩ := hv
    refine ⟨by rw [List.length_set]; exact h1, .inr ⟨q, c, cur.setIfInBounds i u, rfl, hg, set_same hb i u, hn, hm, by simpa using hs, ?_⟩⟩
    rw [← ht]
    simp [List.take_set]
theorem own_nil (w : World) (B : Nat) (T : TypeId) (g : Nat) (hg : B ≤ g) (hb : w.heap[g]? = some (.cells #[] T (0, 0))) (s : Nat) : w.ownsRow B T s (.slice (some ⟨g, 0, none⟩) 0 0) 0 [] :=
  ⟨by simp, .inr ⟨g, 0, #[], rfl, hg, hb, Nat.le_refl _, by unfold maxLen; omega, by simp, by simp⟩⟩
theorem own_nil0 (w : World) (B : Nat) (T s : Nat) : w.ownsRow B T s (.slice none 0 0) 0 [] := ⟨by simp, .inl ⟨rfl, rfl⟩⟩
/-- a new row, whole -/
theorem own_new {k : IntKind} {W : World} {B T q n : Nat} {l : List Int} (h : W.heap[q]? = some (.cells (ivs k l).toArray T (0, 0))) (hq : B ≤ q) (hn : l.length = n) (hm : n ≤ maxLen) : W.ownsRow B T 1 (.slice (some ⟨q, 0, none⟩) n n) n (ivs k l) :=
  ⟨by simp [ivs, hn], .inr ⟨q, n, _, rfl, hq, h, Nat.le_refl _, hm, by simp [ivs, hn], by rw [Nat.mul_one, ← hn]; exact List.take_of_length_le (by simp [ivs])⟩⟩
theorem ivs_oneCell (k : IntKind) (l : List Int) : ∀ u ∈ ivs k l, u.oneCell' = true := by
  intro u hu
  simp only [ivs, List.mem_map] at hu
  obtain ⟨z, _, rfl⟩ := hu
  rfl
theorem one_at (w : World) (v : Value) (T : TypeId) : ∀ (j : Nat) u, [v][j]? = some u → (w.alloc (.cells #[v] T)).cell? ((⟨w.heap.size, 0, none⟩ : Addr).add j) = some u := by
  intro j u hj
  match j, hj with
  | 0, hj =>
    simp at hj
    subst hj
    simp [Addr.add]

theorem put3 {W : World} {k T : Nat} {x0 x1 x2 : Value} (h : W.heap[k]? = some (.cells #[x0, x1, x2] T (0, 0))) (y0 y1 y2 : Value) :
    (((W.setCell ⟨k, 0, none⟩ y0).setCell ⟨k, 1, none⟩ y1).setCell ⟨k, 2, none⟩ y2).heap[k]? = some (.cells #[y0, y1, y2] T (0, 0)) := by
  rw [set_same (set_same (set_same h 0 y0) 1 y1) 2 y2]; rfl
theorem bl_put3 {w W : World} {k : Nat} (h : Below w.heap.size w W) (hk : w.heap.size ≤ k) (y0 y1 y2 : Value) : Below w.heap.size w (((W.setCell ⟨k, 0, none⟩ y0).setCell ⟨k, 1, none⟩ y1).setCell ⟨k, 2, none⟩ y2) := bl_set (bl_set (bl_set h hk _) hk _) hk _
theorem blk_bl {W W' : World} {k : Nat} {o : Obj} (h : W.heap[k]? = some o) (hb : Below W.heap.size W W') : W'.heap[k]? = some o := (hb.block k (lt_of h)).trans h

/-! ### numbers -/
theorem w64 (n : Int) (h0 : -9223372036854775808 ≤ n) (h1 : n ≤ 9223372036854775807) : wrap64 n = n := by unfold wrap64; omega
theorem wu64 (n : Int) (h0 : 0 ≤ n) (h1 : n < 18446744073709551616) : IntKind.u64.wrap n = n := by
  simp [IntKind.wrap, IntKind.bits, IntKind.signed]; omega
theorem take_next {α : Type} {l : List α} {i : Nat} {x : α} (h : l[i]? = some x) : l.take (i + 1) = l.take i ++ [x] := by
  obtain ⟨hi, hx⟩ := List.getElem?_eq_some_iff.1 h
  rw [List.take_succ_eq_append_getElem hi, hx]
theorem some_at {α : Type} {l : List α} {i : Nat} (h : i < l.length) : ∃ x, l[i]? = some x := ⟨_, List.getElem?_eq_getElem h⟩
theorem ret_int {k : IntKind} {a b : Int} (h : a = b) : Ending.returned (.int k a) = .returned (.int k b) := by rw [h]

end Go.Proofs.YtgnagbbdnlmgeaaGreat.Ba
end

/- The fourth chapter's reference: where the parts of an image begin. -/
section
set_option linter.unusedVariables false
set_option linter.unusedSimpArgs false
set_option maxHeartbeats 400000
namespace Go.Proofs.YtgnagbbdnlmgeaaGreat.Ko
open Go Go.RowKit
open Go.Proofs.YtgnagbbdnlmgeaaGreat.Ob

def pows : List Int := [64, 128, 256, 512, 1024, 2048, 4096]
def up8 (x : Int) : Int := (x + 7) / 8 * 8
def tot (n m s : Int) : Int := 16 + 8 * m + up8 n + up8 ((n + 63) / 64) + n * (s / 8)
def inB (n m : Int) : Bool := decide (1 ≤ n) && decide (n ≤ 65534) && decide (1 ≤ m) && decide (m ≤ 65534)
def geoOk (n m s : Int) : Bool := inB n m && decide (s ∈ pows) && decide (tot n m s ≤ 4194304)
/-- the parts' beginnings, and where they end -/
def parts (n m s : Int) : Int × Int × Int × Int × Int × Bool :=
  if geoOk n m s then (16, 16 + 8 * m, 16 + 8 * m + up8 n, 16 + 8 * m + up8 n + up8 ((n + 63) / 64), tot n m s, true) else (0, 0, 0, 0, 0, false)

theorem fill_any (x : Int) (h0 : 0 ≤ x) (h1 : x < 1000000000) (w : World) :
    Calls Tryz.prog 186 #[.int .i64 x] w fun e w' => e = .returned (.int .i64 (up8 x)) ∧ w = w' := by
  have hu : x ≤ up8 x ∧ up8 x ≤ x + 7 := by unfold up8; omega
  go_enter Tryz.func186, Tryz.ntmps186
  go_wp2_with fail
  go_loop [0] (fun c => ∃ y : Int, x ≤ y ∧ Hid (up8 y = up8 x) ∧ Hid (y ≤ up8 y) ∧ y ≤ 1000000007 ∧ c = .int .i64 y) (fun c => (up8 x - intOf c).toNat)
  case atStart => exact ⟨x, Int.le_refl _, rfl, hu.1, by omega, rfl⟩
  case round =>
    obtain ⟨y, hy0, hy1, hy2, hy3, rfl⟩ := hrel
    by_cases hm : y % 8 = 0
    · have hmb : (y % 8 == 0) = true := by simpa using hm
      have hmb2 : (y % 8 != 0) = false := by simpa using hm
      have e : up8 x = y := by rw [← hy1.out]; unfold up8; omega
      have HE := Lib.hid e
      clear hm e
      go_wp2_with fail
      go_ret
      exact ⟨by rw [HE.out]; rfl, rfl⟩
    · have hmb : (y % 8 == 0) = false := by simpa using hm
      have hmb2 : (y % 8 != 0) = true := by simpa using hm
      have e : up8 (y + 1) = up8 x := by rw [← hy1.out]; unfold up8; omega
      have e2 : y + 1 ≤ up8 (y + 1) := by unfold up8; omega
      have e3 : y + 1 ≤ up8 x := by rw [← e]; exact e2
      have HE := Lib.hid (And.intro e (And.intro e2 e3))
      clear hm e e2
      go_wp2_with fail
      go_round
      case rel => exact ⟨y + 1, by omega, HE.out.1, HE.out.2.1, by omega, rfl⟩
      case measure => simp [intOf]; omega

theorem pows_in {s : Int} (h : s ∈ pows) : 64 ≤ s ∧ s ≤ 4096 ∧ s % 8 = 0 := by
  simp only [pows, List.mem_cons, List.not_mem_nil, or_false] at h
  omega

def zero5 : Value := .tuple #[.agg #[.int .i64 0, .int .i64 0, .int .i64 0, .int .i64 0, .int .i64 0], .bool false]

theorem of_out (n m s : Int) (hb : inB n m = false) (w : World) :
    Calls Tryz.prog 160 #[.int .i64 n, .int .i64 m, .int .i64 s] w fun e w' => e = .returned zero5 ∧ Below w.heap.size w w' := by
  simp only [inB, Bool.and_eq_false_iff, decide_eq_false_iff_not] at hb
  by_cases h1 : n < 1
  · clear hb
    go_enter Tryz.func160, Tryz.ntmps160
    go_wp2_with fail
    exact bodyPost_ret (v := zero5) (by simp [zero5, results, Tryz.results160, go_sem]) rfl ⟨rfl, by first | exact (((Upd.refl [] w).alloc _).setCell (a := _) (.inr (by simp)) _).below (by simp) | exact ((Upd.refl [] w).alloc _).below (by simp)⟩
  by_cases h2 : 65534 < n
  · clear hb
    go_enter Tryz.func160, Tryz.ntmps160
    go_wp2_with fail
    exact bodyPost_ret (v := zero5) (by simp [zero5, results, Tryz.results160, go_sem]) rfl ⟨rfl, by first | exact (((Upd.refl [] w).alloc _).setCell (a := _) (.inr (by simp)) _).below (by simp) | exact ((Upd.refl [] w).alloc _).below (by simp)⟩
  by_cases h3 : m < 1
  · clear hb
    go_enter Tryz.func160, Tryz.ntmps160
    go_wp2_with fail
    exact bodyPost_ret (v := zero5) (by simp [zero5, results, Tryz.results160, go_sem]) rfl ⟨rfl, by first | exact (((Upd.refl [] w).alloc _).setCell (a := _) (.inr (by simp)) _).below (by simp) | exact ((Upd.refl [] w).alloc _).below (by simp)⟩
  · have h4 : 65534 < m := by omega
    clear hb
    go_enter Tryz.func160, Tryz.ntmps160
    go_wp2_with fail
    exact bodyPost_ret (v := zero5) (by simp [zero5, results, Tryz.results160, go_sem]) rfl ⟨rfl, by first | exact (((Upd.refl [] w).alloc _).setCell (a := _) (.inr (by simp)) _).below (by simp) | exact ((Upd.refl [] w).alloc _).below (by simp)⟩

/-- the power behind the loop -/
def PowRel (s p : Int) : Prop := p ∈ pows ∧ ∀ q ∈ pows, q < p → q < s
theorem pow_start (s : Int) : PowRel s 64 := ⟨by decide, by intro q hq h; simp only [pows, List.mem_cons, List.not_mem_nil, or_false] at hq; omega⟩
theorem pow_next {s p : Int} (h : PowRel s p) (h1 : p < 4096) (h2 : p < s) : PowRel s (2 * p) := by
  obtain ⟨hp, hl⟩ := h
  refine ⟨?_, fun q hq hqp => ?_⟩
  · simp only [pows, List.mem_cons, List.not_mem_nil, or_false] at hp ⊢
    omega
  · simp only [pows, List.mem_cons, List.not_mem_nil, or_false] at hp hq
    omega
theorem pow_end {s p : Int} (h : PowRel s p) (h1 : ¬ (p < 4096 ∧ p < s)) : p = s ↔ s ∈ pows := by
  obtain ⟨hp, hl⟩ := h
  refine ⟨fun e => by rw [← e]; exact hp, fun hs => ?_⟩
  have := hl s hs
  have hp' := pows_in hp
  have hs' := pows_in hs
  simp only [pows, List.mem_cons, List.not_mem_nil, or_false] at hp hs
  by_cases h4 : p < 4096
  · omega
  · have h5 := hl 2048 (by decide) (by omega)
    omega

set_option maxRecDepth 100000 in
theorem of_no (n m s : Int) (hb : inB n m = true) (hs : ¬ s ∈ pows) (w : World) :
    Calls Tryz.prog 160 #[.int .i64 n, .int .i64 m, .int .i64 s] w fun e w' => e = .returned zero5 ∧ Below w.heap.size w w' := by
  have hb' := hb
  simp only [inB, Bool.and_eq_true, decide_eq_true_eq] at hb'
  obtain ⟨⟨⟨h1, h2⟩, h3⟩, h4⟩ := hb'
  have HB := Lib.hid hb
  have HS := Lib.hid hs
  clear hb hs
  go_enter Tryz.func160, Tryz.ntmps160
  go_wp2_with fail
  go_loop [8] (fun c => ∃ p : Int, 64 ≤ p ∧ p ≤ 4096 ∧ Hid (PowRel s p) ∧ c = .int .i64 p) (fun c => (8192 - intOf c).toNat)
  case atStart => exact ⟨64, by omega, by omega, pow_start s, rfl⟩
  case round =>
    obtain ⟨p, hp0, hp1, hp, rfl⟩ := hrel
    by_cases hc : p < 4096 ∧ p < s
    · obtain ⟨hc1, hc2⟩ := hc
      have hn := pow_next hp.out hc1 hc2
      have hnn := pows_in hn.1
      have HN := Lib.hid hn
      clear hn
      go_wp2_with fail
      go_round
      case rel => exact ⟨2 * p, by omega, by omega, HN.out, rfl⟩
      case measure => simp [intOf]; omega
    · have he := pow_end hp.out hc
      have HE := Lib.hid he
      have hc' : (p < 4096 ∧ s ≤ p) ∨ Hid (p = 4096) := by
        by_cases h : p = 4096
        · exact .inr h
        · exact .inl (by omega)
      clear he hc
      have hps : p ≠ s := fun e => HS.out (HE.out.1 e)
      have hpb : (p == s) = false := beq_eq_false_iff_ne.2 hps
      have hpb2 : (p != s) = true := by simp [hps]
      rcases hc' with ⟨hc1, hc2⟩ | hc1
      · go_wp2_with fail
        exact bodyPost_ret (v := zero5) (by simp [zero5, results, Tryz.results160, go_sem]) rfl ⟨rfl, ((Upd.refl [] w).alloc _).below (by simp)⟩
      · obtain rfl := hc1.out
        go_wp2_with fail
        exact bodyPost_ret (v := zero5) (by simp [zero5, results, Tryz.results160, go_sem]) rfl ⟨rfl, ((Upd.refl [] w).alloc _).below (by simp)⟩

theorem fill_at (x : Int) (h0 : 0 ≤ x) (h1 : x < 1000000000) (y : Int) (hy : Hid (up8 x = y)) (w : World) :
    Calls Tryz.prog 186 #[.int .i64 x] w fun e w' => e = .returned (.int .i64 y) ∧ w = w' := by
  have := fill_any x h0 h1 w
  rw [hy.out] at this
  exact this

set_option maxRecDepth 100000 in
theorem of_yes (n m s b1 b2 : Int) (hb : inB n m = true) (hs : s ∈ pows) (hb1 : Hid (b1 = 16 + 8 * m + up8 n)) (hb2 : Hid (b2 = b1 + up8 ((n + 63) / 64))) (hle : b2 + n * s / 8 ≤ 4194304) (w : World) :
    Calls Tryz.prog 160 #[.int .i64 n, .int .i64 m, .int .i64 s] w fun e' w' => e' = .returned (.tuple #[.agg #[.int .i64 16, .int .i64 (16 + 8 * m), .int .i64 b1, .int .i64 b2, .int .i64 (b2 + n * s / 8)], .bool true]) ∧ Below w.heap.size w w' := by
  have hb' := hb
  simp only [inB, Bool.and_eq_true, decide_eq_true_eq] at hb'
  obtain ⟨⟨⟨h1, h2⟩, h3⟩, h4⟩ := hb'
  have hsp := pows_in hs
  have hp0 : 0 ≤ n * s := Int.mul_nonneg (by omega) (by omega)
  have hp1 : n * s ≤ 65534 * 4096 := Int.mul_le_mul h2 (by omega) (by omega) (by omega)
  have q1 : 0 ≤ b1 ∧ b1 ≤ 600000 := by have := hb1.out; unfold up8 at this; omega
  have q2 : 0 ≤ b2 ∧ b2 ≤ 700000 := by have := hb2.out; unfold up8 at this; omega
  have w1 : Hid (up8 (16 + 8 * m + n) = b1) := by show up8 (16 + 8 * m + n) = b1; rw [hb1.out]; unfold up8; omega
  have w2 : Hid (up8 (b1 + (n + 63) / 64) = b2) := by show up8 (b1 + (n + 63) / 64) = b2; rw [hb2.out, hb1.out]; unfold up8; omega
  obtain ⟨q1a, q1b⟩ := q1
  obtain ⟨q2a, q2b⟩ := q2
  have HB := Lib.hid hb
  have HS := Lib.hid (And.intro hs hsp)
  clear hb hs hsp hb1 hb2
  go_enter Tryz.func160, Tryz.ntmps160
  go_wp2_with fail
  go_loop [8] (fun c => ∃ p : Int, 64 ≤ p ∧ p ≤ 4096 ∧ Hid (PowRel s p) ∧ c = .int .i64 p) (fun c => (8192 - intOf c).toNat)
  case atStart => exact ⟨64, by omega, by omega, pow_start s, rfl⟩
  case round =>
    obtain ⟨p, hp0, hp1, hp, rfl⟩ := hrel
    by_cases hc : p < 4096 ∧ p < s
    · obtain ⟨hc1, hc2⟩ := hc
      have hn := pow_next hp.out hc1 hc2
      have hnn := pows_in hn.1
      have HN := Lib.hid hn
      clear hn
      go_wp2_with fail
      go_round
      case rel => exact ⟨2 * p, by omega, by omega, HN.out, rfl⟩
      case measure => simp [intOf]; omega
    · obtain rfl : p = s := (pow_end hp.out hc).2 HS.out.1
      clear hc
      clear hp
      by_cases h4096 : p < 4096
      all_goals
        go_wp2_with fail
        refine (fill_at _ (by omega) (by omega) b1 w1 _).mono ?_
        rintro e9 w9 ⟨rfl, rfl⟩
        go_wp2_with fail
        refine (fill_at _ (by omega) (by omega) b2 w2 _).mono ?_
        rintro e9 w9 ⟨rfl, rfl⟩
        go_wp2_with fail
        exact bodyPost_ret (v := .tuple #[.agg #[.int .i64 16, .int .i64 (16 + 8 * m), .int .i64 b1, .int .i64 b2, .int .i64 (b2 + n * p / 8)], .bool true]) (by simp [zero5, results, Tryz.results160, go_sem]) rfl ⟨rfl, (((Upd.refl [] w).alloc _).alloc _).below (by simp)⟩

set_option maxRecDepth 100000 in
theorem of_big (n m s b1 b2 : Int) (hb : inB n m = true) (hs : s ∈ pows) (hb1 : Hid (b1 = 16 + 8 * m + up8 n)) (hb2 : Hid (b2 = b1 + up8 ((n + 63) / 64))) (hle : 4194304 < b2 + n * s / 8) (w : World) :
    Calls Tryz.prog 160 #[.int .i64 n, .int .i64 m, .int .i64 s] w fun e' w' => e' = .returned zero5 ∧ Below w.heap.size w w' := by
  have hb' := hb
  simp only [inB, Bool.and_eq_true, decide_eq_true_eq] at hb'
  obtain ⟨⟨⟨h1, h2⟩, h3⟩, h4⟩ := hb'
  have hsp := pows_in hs
  have hp0 : 0 ≤ n * s := Int.mul_nonneg (by omega) (by omega)
  have hp1 : n * s ≤ 65534 * 4096 := Int.mul_le_mul h2 (by omega) (by omega) (by omega)
  have q1 : 0 ≤ b1 ∧ b1 ≤ 600000 := by have := hb1.out; unfold up8 at this; omega
  have q2 : 0 ≤ b2 ∧ b2 ≤ 700000 := by have := hb2.out; unfold up8 at this; omega
  have w1 : Hid (up8 (16 + 8 * m + n) = b1) := by show up8 (16 + 8 * m + n) = b1; rw [hb1.out]; unfold up8; omega
  have w2 : Hid (up8 (b1 + (n + 63) / 64) = b2) := by show up8 (b1 + (n + 63) / 64) = b2; rw [hb2.out, hb1.out]; unfold up8; omega
  obtain ⟨q1a, q1b⟩ := q1
  obtain ⟨q2a, q2b⟩ := q2
  have HB := Lib.hid hb
  have HS := Lib.hid (And.intro hs hsp)
  clear hb hs hsp hb1 hb2
  go_enter Tryz.func160, Tryz.ntmps160
  go_wp2_with fail
  go_loop [8] (fun c => ∃ p : Int, 64 ≤ p ∧ p ≤ 4096 ∧ Hid (PowRel s p) ∧ c = .int .i64 p) (fun c => (8192 - intOf c).toNat)
  case atStart => exact ⟨64, by omega, by omega, pow_start s, rfl⟩
  case round =>
    obtain ⟨p, hp0, hp1, hp, rfl⟩ := hrel
    by_cases hc : p < 4096 ∧ p < s
    · obtain ⟨hc1, hc2⟩ := hc
      have hn := pow_next hp.out hc1 hc2
      have hnn := pows_in hn.1
      have HN := Lib.hid hn
      clear hn
      go_wp2_with fail
      go_round
      case rel => exact ⟨2 * p, by omega, by omega, HN.out, rfl⟩
      case measure => simp [intOf]; omega
    · obtain rfl : p = s := (pow_end hp.out hc).2 HS.out.1
      clear hc
      clear hp
      by_cases h4096 : p < 4096
      all_goals
        go_wp2_with fail
        refine (fill_at _ (by omega) (by omega) b1 w1 _).mono ?_
        rintro e9 w9 ⟨rfl, rfl⟩
        go_wp2_with fail
        refine (fill_at _ (by omega) (by omega) b2 w2 _).mono ?_
        rintro e9 w9 ⟨rfl, rfl⟩
        go_wp2_with fail
        exact bodyPost_ret (v := zero5) (by simp [zero5, results, Tryz.results160, go_sem]) rfl ⟨rfl, (((Upd.refl [] w).alloc _).alloc _).below (by simp)⟩

theorem of_any (n m s : Int) (w : World) :
    Calls Tryz.prog 160 #[.int .i64 n, .int .i64 m, .int .i64 s] w fun e w' => e = .returned (.tuple #[.agg #[.int .i64 (parts n m s).1, .int .i64 (parts n m s).2.1, .int .i64 (parts n m s).2.2.1, .int .i64 (parts n m s).2.2.2.1, .int .i64 (parts n m s).2.2.2.2.1], .bool (parts n m s).2.2.2.2.2]) ∧ Below w.heap.size w w' := by
  cases hb : inB n m with
  | false =>
    have hg : parts n m s = (0, 0, 0, 0, 0, false) := by unfold parts geoOk; rw [hb]; rfl
    rw [hg]
    exact of_out n m s hb w
  | true =>
    by_cases hs : s ∈ pows
    · have ht : tot n m s = 16 + 8 * m + up8 n + up8 ((n + 63) / 64) + n * s / 8 := by
        have hp := pows_in hs
        have : n * s = 8 * (n * (s / 8)) := by
          have e : s = 8 * (s / 8) := by omega
          calc n * s = n * (8 * (s / 8)) := by rw [← e]
            _ = 8 * (n * (s / 8)) := by rw [Int.mul_left_comm]
        unfold tot
        rw [this]
        omega
      by_cases hl : tot n m s ≤ 4194304
      · have hg : parts n m s = (16, 16 + 8 * m, 16 + 8 * m + up8 n, 16 + 8 * m + up8 n + up8 ((n + 63) / 64), tot n m s, true) := by unfold parts geoOk; rw [hb, decide_eq_true hs, decide_eq_true hl]; rfl
        rw [hg, ht]
        exact of_yes n m s _ _ hb hs rfl rfl (by omega) w
      · have hg : parts n m s = (0, 0, 0, 0, 0, false) := by unfold parts geoOk; rw [hb, decide_eq_true hs, decide_eq_false hl]; rfl
        rw [hg]
        exact of_big n m s _ _ hb hs rfl rfl (by omega) w
    · have hg : parts n m s = (0, 0, 0, 0, 0, false) := by unfold parts geoOk; rw [decide_eq_false hs]; simp
      rw [hg]
      exact of_no n m s hb hs w

end Go.Proofs.YtgnagbbdnlmgeaaGreat.Ko
end

/- The fourth chapter's functions: geometry. -/
section
set_option linter.unusedVariables false
set_option linter.unusedSimpArgs false
set_option maxHeartbeats 1000000
set_option maxRecDepth 100000
namespace Go.Proofs.YtgnagbbdnlmgeaaGreat.Ge
open Go Go.RowKit
open Go.Proofs.YtgnagbbdnlmgeaaGreat.Ob Go.Proofs.YtgnagbbdnlmgeaaGreat.Ba Go.Proofs.YtgnagbbdnlmgeaaGreat.Ko

/-- how many bits of a word are set, as the library reckons it -/
def oc (a : Int) : Int :=
  let A := IntKind.u64.wrap (Go.bits .and .u64 (a / 2) 6148914691236517205 + Go.bits .and .u64 a 6148914691236517205)
  let B := IntKind.u64.wrap (Go.bits .and .u64 (A / 4) 3689348814741910323 + Go.bits .and .u64 A 3689348814741910323)
  let C := Go.bits .and .u64 (IntKind.u64.wrap (B / 16 + B)) 1085102592571150095
  let D := IntKind.u64.wrap (C + C / 256)
  let E := IntKind.u64.wrap (D + D / 65536)
  let F := IntKind.u64.wrap (E + E / 4294967296)
  Go.bits .and .i64 (wrap64 F) 127

theorem ones64 (a : Int) (w : World) : Calls Tryz.prog 112 #[.int .u64 a] w fun e w' => e = .returned (.int .i64 (oc a)) ∧ w = w' := by
  go_enter Tryz.func112, Tryz.ntmps112
  go_wp2
  go_ret
  exact ⟨rfl, rfl⟩
theorem ones (a : Int) (w : World) : Calls Tryz.prog 189 #[.int .u64 a] w fun e w' => e = .returned (.int .i64 (oc a)) ∧ w = w' := by
  go_enter Tryz.func189, Tryz.ntmps189
  go_wp2_with (go_at_call 112; refine (ones64 _ _).mono ?_; rintro e w' ⟨rfl, rfl⟩)
  go_ret
  exact ⟨rfl, rfl⟩

theorem ones_all : (List.range 4033).all (fun j => (oc ((64 + j : Nat) : Int) == 1) == decide (((64 + j : Nat) : Int) ∈ pows)) = true := by decide +kernel
theorem ones_at (s : Int) (h0 : 64 ≤ s) (h1 : s ≤ 4096) : (oc s == 1) = decide (s ∈ pows) := by
  obtain ⟨j, rfl⟩ : ∃ j : Nat, s = ((64 + j : Nat) : Int) := ⟨(s - 64).toNat, by omega⟩
  have h := List.all_eq_true.1 ones_all j (List.mem_range.2 (by omega))
  exact beq_iff_eq.1 h

def gv (n m s : Int) : Value := .agg #[.int .i64 n, .int .i64 m, .int .i64 s]

theorem right (n m s : Int) (w : World) : Calls Tryz.prog 177 #[.agg #[.int .i64 n, .int .i64 m, .int .i64 s]] w fun e w' => e = .returned (.bool (inB n m && decide (s ∈ pows))) ∧ Below w.heap.size w w' := by
  have hu := Tryz.underlying34
  by_cases h : 1 ≤ n ∧ n ≤ 65534 ∧ 1 ≤ m ∧ m ≤ 65534 ∧ 64 ≤ s ∧ s ≤ 4096
  · obtain ⟨h1, h2, h3, h4, h5, h6⟩ := h
    have hi : (inB n m && decide (s ∈ pows)) = (oc s == 1) := by
      rw [ones_at s h5 h6]
      simp [inB, h1, h2, h3, h4]
    rw [hi]
    have hwr : IntKind.u64.wrap s = s := wu64 _ (by omega) (by omega)
    clear hi
    generalize hb : (oc s == 1) = b
    have HB := Lib.hid hb
    go_enter Tryz.func177, Tryz.ntmps177
    go_wp2_with (go_at_call 189; refine (ones _ _).mono ?_; rintro e w' ⟨rfl, rfl⟩)
    go_ret
    exact ⟨rfl, by repeat (first | exact Below.refl _ _ | refine bl_alloc ?_ _)⟩
  · have hi : (inB n m && decide (s ∈ pows)) = false := by
      by_cases hs : s ∈ pows
      · have := pows_in hs
        simp only [inB, Bool.and_eq_false_iff, decide_eq_false_iff_not]
        omega
      · simp [hs]
    rw [hi]
    rcases (by omega : n < 1 ∨ (1 ≤ n ∧ 65534 < n) ∨ (1 ≤ n ∧ n ≤ 65534 ∧ m < 1) ∨ (1 ≤ n ∧ n ≤ 65534 ∧ 1 ≤ m ∧ 65534 < m) ∨ (1 ≤ n ∧ n ≤ 65534 ∧ 1 ≤ m ∧ m ≤ 65534 ∧ s < 64) ∨ (1 ≤ n ∧ n ≤ 65534 ∧ 1 ≤ m ∧ m ≤ 65534 ∧ 64 ≤ s ∧ 4096 < s)) with h1 | ⟨h1, h2⟩ | ⟨h1, h2, h3⟩ | ⟨h1, h2, h3, h4⟩ | ⟨h1, h2, h3, h4, h5⟩ | ⟨h1, h2, h3, h4, h5, h6⟩
    all_goals
      clear h hi
      go_enter Tryz.func177, Tryz.ntmps177
      go_wp2
      go_ret
      exact ⟨rfl, by repeat (first | exact Below.refl _ _ | refine bl_alloc ?_ _)⟩

theorem slots (n m s : Int) (h0 : 0 ≤ m) (h1 : m ≤ 65534) (w : World) : Calls Tryz.prog 136 #[.agg #[.int .i64 n, .int .i64 m, .int .i64 s]] w fun e w' => e = .returned (.int .i64 (16 + 8 * m)) ∧ Below w.heap.size w w' := by
  have hu := Tryz.underlying34
  go_enter Tryz.func136, Tryz.ntmps136
  go_wp2
  go_ret
  exact ⟨ret_int (by omega), by repeat (first | exact Below.refl _ _ | refine bl_alloc ?_ _)⟩

theorem lines (x : Int) (h0 : 0 ≤ x) (h1 : x < 1000000000) (w : World) : Calls Tryz.prog 176 #[.int .i64 x] w fun e w' => e = .returned (.int .i64 (up8 x)) ∧ w = w' := by
  go_enter Tryz.func176, Tryz.ntmps176
  go_wp2
  go_ret
  exact ⟨ret_int (by unfold up8; omega), rfl⟩

end Go.Proofs.YtgnagbbdnlmgeaaGreat.Ge
end

/- The fourth chapter's functions: where the parts of an image begin. -/
section
set_option linter.unusedVariables false
set_option linter.unusedSimpArgs false
set_option maxHeartbeats 1000000
set_option maxRecDepth 100000
namespace Go.Proofs.YtgnagbbdnlmgeaaGreat.Ge
open Go Go.RowKit
open Go.Proofs.YtgnagbbdnlmgeaaGreat.Ob Go.Proofs.YtgnagbbdnlmgeaaGreat.Ba Go.Proofs.YtgnagbbdnlmgeaaGreat.Ko

def bmAt (n m : Int) : Int := 16 + 8 * m + up8 n
def bkAt (n m : Int) : Int := 16 + 8 * m + up8 n + up8 ((n + 63) / 64)
theorem inB_out {n m : Int} (h : inB n m = true) : 1 ≤ n ∧ n ≤ 65534 ∧ 1 ≤ m ∧ m ≤ 65534 := by
  simp only [inB, Bool.and_eq_true, decide_eq_true_eq] at h
  omega
theorem up8_in {x : Int} (h : 0 ≤ x) : x ≤ up8 x ∧ up8 x ≤ x + 7 := by unfold up8; omega

/-- a world that grew behind a box -/
structure Bx (w W : World) : Prop where
  below : Below w.heap.size w W
  size : w.heap.size < W.heap.size
theorem bx_keep {w W W' : World} {c0 c1 c2 : Value} (h : W.cell? ⟨w.heap.size, 0, none⟩ = some c0 ∧ W.cell? ⟨w.heap.size, 1, none⟩ = some c1 ∧ W.cell? ⟨w.heap.size, 2, none⟩ = some c2 ∧ Bx w W) (hb : Below W.heap.size W W') :
    W'.cell? ⟨w.heap.size, 0, none⟩ = some c0 ∧ W'.cell? ⟨w.heap.size, 1, none⟩ = some c1 ∧ W'.cell? ⟨w.heap.size, 2, none⟩ = some c2 ∧ Bx w W' := by
  obtain ⟨h0, h1, h2, h3, h4⟩ := h
  have hs := hb.size
  exact ⟨(hb.cell (p := ⟨_, 0, none⟩) h4).trans h0, (hb.cell (p := ⟨_, 1, none⟩) h4).trans h1, (hb.cell (p := ⟨_, 2, none⟩) h4).trans h2, bl_then h3 hb, by omega⟩
theorem bx_of {w W : World} {c0 c1 c2 : Value} (h : W.cell? ⟨w.heap.size, 0, none⟩ = some c0 ∧ W.cell? ⟨w.heap.size, 1, none⟩ = some c1 ∧ W.cell? ⟨w.heap.size, 2, none⟩ = some c2 ∧ Bx w W) : Bx w W := h.2.2.2
theorem bx_start {w W : World} {c0 c1 c2 : Value} {T : TypeId} (h : W = (w.alloc (.cells #[c0, c1, c2] T)).drew) : W.cell? ⟨w.heap.size, 0, none⟩ = some c0 ∧ W.cell? ⟨w.heap.size, 1, none⟩ = some c1 ∧ W.cell? ⟨w.heap.size, 2, none⟩ = some c2 ∧ Bx w W := by
  subst h
  exact ⟨cell_of (alloc_new w _) 0, cell_of (alloc_new w _) 1, cell_of (alloc_new w _) 2, bl_drew (bl_alloc (Below.refl _ _) _), by simp⟩

theorem bitmap_ (n m s : Int) (h : inB n m = true) (w : World) : Calls Tryz.prog 141 #[.agg #[.int .i64 n, .int .i64 m, .int .i64 s]] w fun e w' => e = .returned (.tuple #[.int .i64 (bmAt n m), .int .i64 ((n + 63) / 64)]) ∧ Below w.heap.size w w' := by
  have hu := Tryz.underlying34
  obtain ⟨h1, h2, h3, h4⟩ := inB_out h
  clear h
  have h5 := up8_in (x := n) (by omega)
  have q1 : IntKind.i64.wrap (16 + 8 * m + up8 n) = bmAt n m := by unfold bmAt; exact IntWalk.i64_in _ (by omega)
  have q2 : IntKind.i64.wrap (n + 64) = n + 64 := IntWalk.i64_in _ (by omega)
  have q3 : IntKind.i64.wrap (n + 64 - 1) = n + 63 := by rw [IntWalk.i64_in _ (by omega)]; omega
  have q4 : IntKind.i64.wrap ((n + 63).tdiv 64) = (n + 63) / 64 := by rw [Int.tdiv_eq_ediv_of_nonneg (by omega)]; exact IntWalk.i64_in _ (by omega)
  have Q := Lib.hid (And.intro q1 (And.intro q2 (And.intro q3 q4)))
  clear q1 q2 q3 q4
  go_enter Tryz.func141, Tryz.ntmps141
  go_wp2_with fail
  obtain ⟨q1, q2, q3, q4⟩ := Q.out
  go_region_held3 (fun w' => w'.cell? ⟨w.heap.size, 0, none⟩ = some (.int .i64 n) ∧ w'.cell? ⟨w.heap.size, 1, none⟩ = some (.int .i64 m) ∧ w'.cell? ⟨w.heap.size, 2, none⟩ = some (.int .i64 s) ∧ Bx w w')
    (first | assumption | exact bx_start rfl | exact bx_keep ‹_› ‹_›)
    (first | (go_at_call 136; refine (slots _ _ _ (by omega) (by omega) _).mono ?_; rintro e w1 ⟨rfl, hb⟩) |
    (go_at_call 176; refine (lines _ (by omega) (by omega) _).mono ?_; rintro e w2 ⟨rfl, rfl⟩))
  all_goals
    go_wp2
    go_ret2
    exact ⟨rfl, (bx_of ‹_›).below⟩

theorem blocks_ (n m s : Int) (h : inB n m = true) (w : World) : Calls Tryz.prog 139 #[.agg #[.int .i64 n, .int .i64 m, .int .i64 s]] w fun e w' => e = .returned (.int .i64 (bkAt n m)) ∧ Below w.heap.size w w' := by
  have hu := Tryz.underlying34
  obtain ⟨h1, h2, h3, h4⟩ := inB_out h
  have h5 := up8_in (x := n) (by omega)
  have h6 := up8_in (x := (n + 63) / 64) (by omega)
  have H := Lib.hid h
  clear h
  have hb0 : 0 ≤ bmAt n m ∧ bmAt n m ≤ 1000000 := by unfold bmAt; omega
  have HE : Hid (bkAt n m = bmAt n m + up8 ((n + 63) / 64)) := rfl
  go_enter Tryz.func139, Tryz.ntmps139
  go_wp2_with (first | (go_at_call 141; refine (bitmap_ _ _ _ H.out _).mono ?_; rintro e w1 ⟨rfl, hb⟩; (have HB := Lib.hid hb); clear hb) |
    (go_at_call 176; refine (lines _ (by omega) (by omega) _).mono ?_; rintro e w2 ⟨rfl, rfl⟩))
  go_ret
  exact ⟨ret_int HE.out.symm, bl_then (by repeat (first | exact Below.refl _ _ | refine bl_alloc ?_ _)) HB.out⟩

theorem pows_eight {s : Int} (h : s ∈ pows) : ∃ k, s = 8 * k ∧ 8 ≤ k ∧ k ≤ 512 ∧ s / 8 = k := by
  simp only [pows, List.mem_cons, List.not_mem_nil, or_false] at h
  exact ⟨s / 8, by omega, by omega, by omega, rfl⟩

theorem all_ (n m s : Int) (h : inB n m = true) (hs : s ∈ pows) (w : World) : Calls Tryz.prog 178 #[.agg #[.int .i64 n, .int .i64 m, .int .i64 s]] w fun e w' => e = .returned (.int .i64 (tot n m s)) ∧ Below w.heap.size w w' := by
  have hu := Tryz.underlying34
  obtain ⟨h1, h2, h3, h4⟩ := inB_out h
  have h5 := up8_in (x := n) (by omega)
  have h6 := up8_in (x := (n + 63) / 64) (by omega)
  obtain ⟨k, e1, e2, e3, e4⟩ := pows_eight hs
  have hnk0 : 0 ≤ n * k := Int.mul_nonneg (by omega) (by omega)
  have hnk1 : n * k ≤ 65534 * 512 := Int.mul_le_mul (by omega) (by omega) (by omega) (by omega)
  have hb0 : 0 ≤ bkAt n m ∧ bkAt n m ≤ 1000000 := by unfold bkAt; omega
  have q1 : IntKind.i64.wrap (s.tdiv 8) = k := by rw [Int.tdiv_eq_ediv_of_nonneg (by omega), e4]; exact IntWalk.i64_in _ (by omega)
  have q2 : IntKind.i64.wrap (n * k) = n * k := IntWalk.i64_in _ (by omega)
  have q3 : IntKind.i64.wrap (bkAt n m + n * k) = tot n m s := by
    rw [IntWalk.i64_in _ (by omega)]
    unfold tot bkAt
    rw [e4]
  have Q := Lib.hid (And.intro q1 (And.intro q2 q3))
  have H := Lib.hid h
  clear h q1 q2 q3 e1 e4 hs h5 h6
  go_enter Tryz.func178, Tryz.ntmps178
  go_wp2_with fail
  obtain ⟨q1, q2, q3⟩ := Q.out
  go_region_held3 (fun w' => w'.cell? ⟨w.heap.size, 0, none⟩ = some (.int .i64 n) ∧ w'.cell? ⟨w.heap.size, 1, none⟩ = some (.int .i64 m) ∧ w'.cell? ⟨w.heap.size, 2, none⟩ = some (.int .i64 s) ∧ Bx w w')
    (first | assumption | exact bx_start rfl | exact bx_keep ‹_› ‹_›)
    (first | (go_at_call 139; refine (blocks_ _ _ _ H.out _).mono ?_; rintro e w1 ⟨rfl, hb⟩))
  all_goals
    go_wp2
    go_ret
    exact ⟨rfl, (bx_of ‹_›).below⟩

theorem may_ (n m s : Int) (w : World) : Calls Tryz.prog 140 #[.agg #[.int .i64 n, .int .i64 m, .int .i64 s]] w fun e w' => e = .returned (.bool (geoOk n m s)) ∧ Below w.heap.size w w' := by
  have hu := Tryz.underlying34
  have hr := right n m s
  by_cases h : inB n m = true ∧ s ∈ pows
  · have he : geoOk n m s = decide (tot n m s ≤ 4194304) := by simp [geoOk, h.1, h.2]
    rw [he]
    have e2 : (inB n m && decide (s ∈ pows)) = true := by simp [h.1, h.2]
    rw [e2] at hr
    have ha := all_ n m s h.1 h.2
    have HR := Lib.hid hr
    have HA := Lib.hid ha
    clear h he e2 hr ha
    generalize tot n m s = t at *
    go_enter Tryz.func140, Tryz.ntmps140
    go_wp2_with (first | (go_at_call 177; refine (HR.out _).mono ?_; rintro e w1 ⟨rfl, hb⟩; (obtain ⟨hc, hf⟩ := bcell hb); (have hz : w.heap.size < w1.heap.size := by (have h9 := hb.size; simp at h9; omega)); (have HB := Lib.hid hb); clear hb hf) |
      (go_at_call 178; refine (HA.out _).mono ?_; rintro e w2 ⟨rfl, hb⟩; (have HB2 := Lib.hid hb); clear hb))
    go_ret
    exact ⟨rfl, bl_then (bl_then (bl_alloc (Below.refl _ _) _) HB.out) HB2.out⟩
  · have e2 : (inB n m && decide (s ∈ pows)) = false := by
      cases hi : inB n m
      · rfl
      · simp only [hi, true_and] at h
        simp [h]
    have he : geoOk n m s = false := by simp only [geoOk, e2, Bool.false_and]
    rw [he]
    rw [e2] at hr
    have HR := Lib.hid hr
    clear h he e2 hr
    go_enter Tryz.func140, Tryz.ntmps140
    go_wp2_with (go_at_call 177; refine (HR.out _).mono ?_; rintro e w1 ⟨rfl, hb⟩; (have HB := Lib.hid hb); clear hb)
    go_ret
    exact ⟨rfl, bl_then (bl_alloc (Below.refl _ _) _) HB.out⟩

end Go.Proofs.YtgnagbbdnlmgeaaGreat.Ge
end

/- The fourth chapter's functions: where one of a part is. -/
section
set_option linter.unusedVariables false
set_option linter.unusedSimpArgs false
set_option maxHeartbeats 1000000
set_option maxRecDepth 100000
namespace Go.Proofs.YtgnagbbdnlmgeaaGreat.Ge
open Go Go.RowKit
open Go.Proofs.YtgnagbbdnlmgeaaGreat.Ob Go.Proofs.YtgnagbbdnlmgeaaGreat.Ba Go.Proofs.YtgnagbbdnlmgeaaGreat.Ko

theorem ok_out {n m s : Int} (h : geoOk n m s = true) : inB n m = true ∧ s ∈ pows ∧ tot n m s ≤ 4194304 := by
  simp only [geoOk, Bool.and_eq_true, decide_eq_true_eq] at h
  exact ⟨h.1.1, h.1.2, h.2⟩

theorem words_ (n m s : Int) (h : geoOk n m s = true) (w : World) : Calls Tryz.prog 167 #[.agg #[.int .i64 n, .int .i64 m, .int .i64 s]] w fun e w' => e = .returned (.int .i64 (tot n m s)) ∧ Below w.heap.size w w' := by
  have hu := Tryz.underlying34
  have hm := may_ n m s
  rw [h] at hm
  obtain ⟨h1, h2, h3⟩ := ok_out h
  have HM := Lib.hid hm
  have HA := Lib.hid (all_ n m s h1 h2)
  clear h hm h1 h2 h3
  go_enter Tryz.func167, Tryz.ntmps167
  go_wp2_with (first | (go_at_call 140; refine (HM.out _).mono ?_; rintro e w1 ⟨rfl, hb⟩; (obtain ⟨hc, hf⟩ := bcell hb); (have HB := Lib.hid hb); clear hb hf) |
    (go_at_call 178; refine (HA.out _).mono ?_; rintro e w2 ⟨rfl, hb⟩; (have HB2 := Lib.hid hb); clear hb))
  go_ret
  exact ⟨rfl, bl_then (bl_then (bl_alloc (Below.refl _ _) _) HB.out) HB2.out⟩

theorem words_no (n m s : Int) (h : geoOk n m s = false) (w : World) : Calls Tryz.prog 167 #[.agg #[.int .i64 n, .int .i64 m, .int .i64 s]] w fun e w' => e = .returned (.int .i64 0) ∧ Below w.heap.size w w' := by
  have hu := Tryz.underlying34
  have hm := may_ n m s
  rw [h] at hm
  have HM := Lib.hid hm
  clear h hm
  go_enter Tryz.func167, Tryz.ntmps167
  go_wp2_with (first | (go_at_call 140; refine (HM.out _).mono ?_; rintro e w1 ⟨rfl, hb⟩; (have HB := Lib.hid hb); clear hb))
  go_ret
  exact ⟨rfl, bl_then (bl_alloc (Below.refl _ _) _) HB.out⟩

/-- where one is, of so many -/
def plc (at_ i k : Int) : Int := if 0 ≤ i ∧ i < k then at_ else -1

theorem place_ (n m s a i k : Int) (h : geoOk n m s = true) (w : World) : Calls Tryz.prog 132 #[.agg #[.int .i64 n, .int .i64 m, .int .i64 s], .int .i64 a, .int .i64 i, .int .i64 k] w fun e w' => e = .returned (.int .i64 (plc a i k)) ∧ Below w.heap.size w w' := by
  have hu := Tryz.underlying34
  have hm := may_ n m s
  rw [h] at hm
  have HM := Lib.hid hm
  clear h hm
  rcases (by omega : i < 0 ∨ (0 ≤ i ∧ k ≤ i) ∨ (0 ≤ i ∧ i < k)) with h1 | ⟨h1, h2⟩ | ⟨h1, h2⟩
  · have e1 : plc a i k = -1 := if_neg (by omega)
    rw [e1]
    clear e1
    go_enter Tryz.func132, Tryz.ntmps132
    go_wp2
    go_ret
    exact ⟨rfl, bl_alloc (Below.refl _ _) _⟩
  · have e1 : plc a i k = -1 := if_neg (by omega)
    rw [e1]
    clear e1
    go_enter Tryz.func132, Tryz.ntmps132
    go_wp2
    go_ret
    exact ⟨rfl, bl_alloc (Below.refl _ _) _⟩
  · have e1 : plc a i k = a := if_pos ⟨h1, h2⟩
    rw [e1]
    clear e1
    go_enter Tryz.func132, Tryz.ntmps132
    go_wp2_with (first | (go_at_call 140; refine (HM.out _).mono ?_; rintro e w1 ⟨rfl, hb⟩; (have HB := Lib.hid hb); clear hb))
    go_ret
    exact ⟨rfl, bl_then (bl_alloc (Below.refl _ _) _) HB.out⟩

theorem inode_ (n m s i : Int) (h : geoOk n m s = true) (w : World) : Calls Tryz.prog 76 #[.agg #[.int .i64 n, .int .i64 m, .int .i64 s], .int .i64 i] w fun e w' => e = .returned (.int .i64 (plc (16 + 8 * i) i m)) ∧ Below w.heap.size w w' := by
  have hu := Tryz.underlying34
  have hin := inB_out (ok_out h).1
  have hp : ∀ W, Calls Tryz.prog 132 #[.agg #[.int .i64 n, .int .i64 m, .int .i64 s], .int .i64 (wrap64 (16 + wrap64 (i * 8))), .int .i64 i, .int .i64 m] W fun e w' => e = .returned (.int .i64 (plc (16 + 8 * i) i m)) ∧ Below W.heap.size W w' := by
    intro W
    have e : plc (16 + 8 * i) i m = plc (wrap64 (16 + wrap64 (i * 8))) i m := by
      unfold plc
      split
      · rw [w64 (i * 8) (by omega) (by omega), w64 _ (by omega) (by omega)]; omega
      · rfl
    rw [e]
    exact place_ n m s _ i m h W
  have HP := Lib.hid hp
  clear h hp hin
  go_enter Tryz.func76, Tryz.ntmps76
  go_wp2_with (first | (go_at_call 132; refine (HP.out _).mono ?_; rintro e w1 ⟨rfl, hb⟩; (have HB := Lib.hid hb); clear hb))
  go_ret
  exact ⟨rfl, bl_then (bl_alloc (Below.refl _ _) _) HB.out⟩

theorem slot_ (n m s i : Int) (h : geoOk n m s = true) (w : World) : Calls Tryz.prog 80 #[.agg #[.int .i64 n, .int .i64 m, .int .i64 s], .int .i64 i] w fun e w' => e = .returned (.int .i64 (plc (16 + 8 * m + i) i n)) ∧ Below w.heap.size w w' := by
  have hu := Tryz.underlying34
  have hin := inB_out (ok_out h).1
  have hs := slots n m s (by omega) (by omega)
  have hp : ∀ W, Calls Tryz.prog 132 #[.agg #[.int .i64 n, .int .i64 m, .int .i64 s], .int .i64 (IntKind.i64.wrap (16 + 8 * m + i)), .int .i64 i, .int .i64 n] W fun e w' => e = .returned (.int .i64 (plc (16 + 8 * m + i) i n)) ∧ Below W.heap.size W w' := by
    intro W
    have e : plc (16 + 8 * m + i) i n = plc (IntKind.i64.wrap (16 + 8 * m + i)) i n := by
      unfold plc
      split
      · rw [IntWalk.i64_in _ (by omega)]
      · rfl
    rw [e]
    exact place_ n m s _ i n h W
  have HP := Lib.hid hp
  have HS := Lib.hid hs
  clear h hp hs hin
  go_enter Tryz.func80, Tryz.ntmps80
  go_wp2_with fail
  go_region_held3 (fun w' => w'.cell? ⟨w.heap.size, 0, none⟩ = some (.int .i64 n) ∧ w'.cell? ⟨w.heap.size, 1, none⟩ = some (.int .i64 m) ∧ w'.cell? ⟨w.heap.size, 2, none⟩ = some (.int .i64 s) ∧ Bx w w')
    (first | assumption | exact bx_start rfl | exact bx_keep ‹_› ‹_›)
    (first | (go_at_call 132; refine (HP.out _).mono ?_; rintro e w1 ⟨rfl, hb⟩) | (go_at_call 136; refine (HS.out _).mono ?_; rintro e w2 ⟨rfl, hb⟩))
  all_goals
    go_wp2
    go_ret
    exact ⟨rfl, (bx_of ‹_›).below⟩

theorem block_ (n m s i : Int) (h : geoOk n m s = true) (w : World) : Calls Tryz.prog 84 #[.agg #[.int .i64 n, .int .i64 m, .int .i64 s], .int .i64 i] w fun e w' => e = .returned (.int .i64 (plc (bkAt n m + i * (s / 8)) i n)) ∧ Below w.heap.size w w' := by
  have hu := Tryz.underlying34
  obtain ⟨hi, hpw, _⟩ := ok_out h
  have hin := inB_out hi
  have h5 := up8_in (x := n) (by omega)
  have h6 := up8_in (x := (n + 63) / 64) (by omega)
  have hb0 : 0 ≤ bkAt n m ∧ bkAt n m ≤ 1000000 := by unfold bkAt; omega
  have hs := blocks_ n m s hi
  obtain ⟨k, e1, e2, e3, e4⟩ := pows_eight hpw
  have q1 : IntKind.i64.wrap (s.tdiv 8) = k := by rw [Int.tdiv_eq_ediv_of_nonneg (by omega), e4]; exact IntWalk.i64_in _ (by omega)
  have hp : ∀ W, Calls Tryz.prog 132 #[.agg #[.int .i64 n, .int .i64 m, .int .i64 s], .int .i64 (IntKind.i64.wrap (bkAt n m + IntKind.i64.wrap (i * k))), .int .i64 i, .int .i64 n] W fun e w' => e = .returned (.int .i64 (plc (bkAt n m + i * (s / 8)) i n)) ∧ Below W.heap.size W w' := by
    intro W
    have e : plc (bkAt n m + i * (s / 8)) i n = plc (IntKind.i64.wrap (bkAt n m + IntKind.i64.wrap (i * k))) i n := by
      rw [e4]
      unfold plc
      split
      · have hnk0 : 0 ≤ i * k := Int.mul_nonneg (by omega) (by omega)
        have hnk1 : i * k ≤ 65534 * 512 := Int.mul_le_mul (by omega) (by omega) (by omega) (by omega)
        rw [IntWalk.i64_in (i * k) (by omega), IntWalk.i64_in _ (by omega)]
      · rfl
    rw [e]
    exact place_ n m s _ i n h W
  have HP := Lib.hid hp
  have HS := Lib.hid hs
  have Q := Lib.hid q1
  clear h hp hs hin hi hpw h5 h6 e1 e4 q1
  go_enter Tryz.func84, Tryz.ntmps84
  go_wp2_with fail
  have q1 := Q.out
  go_region_held3 (fun w' => w'.cell? ⟨w.heap.size, 0, none⟩ = some (.int .i64 n) ∧ w'.cell? ⟨w.heap.size, 1, none⟩ = some (.int .i64 m) ∧ w'.cell? ⟨w.heap.size, 2, none⟩ = some (.int .i64 s) ∧ Bx w w')
    (first | assumption | exact bx_start rfl | exact bx_keep ‹_› ‹_›)
    (first | (go_at_call 132; refine (HP.out _).mono ?_; rintro e w1 ⟨rfl, hb⟩) | (go_at_call 139; refine (HS.out _).mono ?_; rintro e w2 ⟨rfl, hb⟩))
  all_goals
    go_wp2
    go_ret
    exact ⟨rfl, (bx_of ‹_›).below⟩

theorem bmap_ (n m s : Int) (h : geoOk n m s = true) (w : World) : Calls Tryz.prog 88 #[.agg #[.int .i64 n, .int .i64 m, .int .i64 s]] w fun e w' => e = .returned (.tuple #[.int .i64 (bmAt n m), .int .i64 ((n + 63) / 64)]) ∧ Below w.heap.size w w' := by
  have hu := Tryz.underlying34
  have hm := may_ n m s
  rw [h] at hm
  have HM := Lib.hid hm
  have HA := Lib.hid (bitmap_ n m s (ok_out h).1)
  clear h hm
  go_enter Tryz.func88, Tryz.ntmps88
  go_wp2_with (first | (go_at_call 140; refine (HM.out _).mono ?_; rintro e w1 ⟨rfl, hb⟩; (obtain ⟨hc, hf⟩ := bcell hb); (have HB := Lib.hid hb); clear hb hf) |
    (go_at_call 141; refine (HA.out _).mono ?_; rintro e w2 ⟨rfl, hb⟩; (have HB2 := Lib.hid hb); clear hb))
  go_ret2
  exact ⟨rfl, bl_then (bl_then (bl_alloc (Below.refl _ _) _) HB.out) HB2.out⟩

theorem each_ (n m s : Int) (h : geoOk n m s = true) (w : World) : Calls Tryz.prog 86 #[.agg #[.int .i64 n, .int .i64 m, .int .i64 s]] w fun e w' => e = .returned (.int .i64 (s / 8)) ∧ Below w.heap.size w w' := by
  have hu := Tryz.underlying34
  have hm := may_ n m s
  rw [h] at hm
  have hp := pows_in (ok_out h).2.1
  obtain ⟨p1, p2, _⟩ := hp
  have HM := Lib.hid hm
  clear h hm
  go_enter Tryz.func86, Tryz.ntmps86
  go_wp2_with (first | (go_at_call 140; refine (HM.out _).mono ?_; rintro e w1 ⟨rfl, hb⟩; (obtain ⟨hc, hf⟩ := bcell hb); (have HB := Lib.hid hb); clear hb hf))
  go_ret
  exact ⟨rfl, bl_then (bl_alloc (Below.refl _ _) _) HB.out⟩

end Go.Proofs.YtgnagbbdnlmgeaaGreat.Ge
end
