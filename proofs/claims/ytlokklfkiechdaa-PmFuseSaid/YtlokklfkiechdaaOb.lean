/- What a call may turn of memory, and slices that lie in blocks of their own. Plain facts of the model's memory; no program is named. -/
import Derived.Below
import Derived.Deep.Draws
import Derived.ChangeMaps5
import Derived.Deep.AppendLies
set_option linter.unusedVariables false
set_option linter.unusedSimpArgs false
set_option linter.unusedSectionVars false
namespace Go.Proofs.Ytlokklfkiechdaa.Ob
open Go Go.RowKit
open Go.ChangeMaps (setBlock)

/-- w' is w but for blocks of F and new ones. -/
structure Upd (F : List Nat) (w w' : World) : Prop where
  os : w'.os = w.os
  tape : w'.tape = w.tape
  output : w'.output = w.output
  size : w.heap.size ≤ w'.heap.size
  block : ∀ k, k < w.heap.size → k ∉ F → w'.heap[k]? = w.heap[k]?

theorem Upd.refl (F : List Nat) (w : World) : Upd F w w := ⟨rfl, rfl, rfl, Nat.le_refl _, fun _ _ _ => rfl⟩
theorem Upd.trans {F F1 : List Nat} {w w1 w2 : World} (h : Upd F w w1) (k : Upd F1 w1 w2) (s : ∀ x ∈ F1, x ∈ F ∨ w.heap.size ≤ x) : Upd F w w2 :=
  ⟨k.os.trans h.os, k.tape.trans h.tape, k.output.trans h.output, Nat.le_trans h.size k.size, fun i hi hn =>
    (k.block i (Nat.lt_of_lt_of_le hi h.size) (fun hc => by rcases s i hc with r | r; exact hn r; omega)).trans (h.block i hi hn)⟩
theorem Upd.mono {F F1 : List Nat} {w w1 : World} (h : Upd F w w1) (s : ∀ x ∈ F, x ∈ F1 ∨ w.heap.size ≤ x) : Upd F1 w w1 :=
  ⟨h.os, h.tape, h.output, h.size, fun i hi hn => h.block i hi (fun hc => by rcases s i hc with r | r; exact hn r; omega)⟩
theorem Upd.of_below {F : List Nat} {w w' : World} (h : Below w.heap.size w w') : Upd F w w' := ⟨h.os, h.tape, h.output, h.size, fun k hk _ => h.block k hk⟩
theorem Upd.below {F : List Nat} {w w' : World} (h : Upd F w w') (hF : ∀ k ∈ F, w.heap.size ≤ k) : Below w.heap.size w w' :=
  ⟨h.os, h.tape, h.output, h.size, fun k hk => h.block k hk (fun hc => by have := hF k hc; omega)⟩
theorem Upd.belowB {F : List Nat} {B : Nat} {w w' : World} (h : Upd F w w') (hB : B ≤ w.heap.size) (hF : ∀ k ∈ F, B ≤ k) : Below B w w' :=
  ⟨h.os, h.tape, h.output, h.size, fun k hk => h.block k (by omega) (fun hc => by have := hF k hc; omega)⟩
theorem Upd.of_grown {F : List Nat} {w w' : World} (h : w.grownBy w' none) : Upd F w w' := ⟨h.os, h.tape, h.output, h.size, fun k hk _ => h.block k hk (by simp)⟩
theorem Upd.drew {F : List Nat} {w w1 : World} (h : Upd F w w1) : Upd F w w1.drew := ⟨h.os, h.tape, h.output, h.size, h.block⟩
theorem Upd.drewN {F : List Nat} {w w1 : World} (h : Upd F w w1) (n : Nat) : Upd F w (w1.drewN n) := ⟨h.os, h.tape, h.output, h.size, h.block⟩
theorem Upd.alloc {F : List Nat} {w w1 : World} (h : Upd F w w1) (o : Obj) : Upd F w (w1.alloc o) :=
  ⟨h.os, h.tape, h.output, by have := h.size; simp; omega, fun k hk hn => (Below.heap_alloc w1 o k (by have := h.size; omega)).trans (h.block k hk hn)⟩
theorem Upd.setCell {F : List Nat} {w w1 : World} (h : Upd F w w1) {a : Addr} (ha : a.block ∈ F ∨ w.heap.size ≤ a.block) (v : Value) : Upd F w (w1.setCell a v) :=
  ⟨h.os, h.tape, h.output, by simpa [World.setCell] using h.size, fun k hk hn => (Below.heap_setCell w1 a v k (fun e => by subst e; rcases ha with r | r; exact hn r; omega)).trans (h.block k hk hn)⟩
theorem setBlock_size (w : World) (b : Nat) (o : Obj) : (setBlock w b o).heap.size = w.heap.size := by simp [setBlock]
theorem setBlock_other (w : World) (b : Nat) (o : Obj) (k : Nat) (h : k ≠ b) : (setBlock w b o).heap[k]? = w.heap[k]? := by
  simp only [setBlock, Array.getElem?_setIfInBounds]
  rw [if_neg (fun e => h e.symm)]
theorem setBlock_same {w : World} {b : Nat} {o' : Obj} (h : w.heap[b]? = some o') (o : Obj) : (setBlock w b o).heap[b]? = some o := by
  have := (Array.getElem?_eq_some_iff.1 h).1
  simp only [setBlock, Array.getElem?_setIfInBounds, if_true, this]
theorem Upd.setBlock {F : List Nat} {w w1 : World} (h : Upd F w w1) {b : Nat} (hb : b ∈ F ∨ w.heap.size ≤ b) (o : Obj) : Upd F w (setBlock w1 b o) :=
  ⟨h.os, h.tape, h.output, by rw [setBlock_size]; exact h.size, fun k hk hn => (setBlock_other w1 b o k (fun e => by subst e; rcases hb with r | r; exact hn r; omega)).trans (h.block k hk hn)⟩
theorem Upd.blk {F : List Nat} {w w1 : World} (h : Upd F w w1) {k : Nat} {o : Obj} (hb : w.heap[k]? = some o) (hn : k ∉ F) : w1.heap[k]? = some o :=
  (h.block k (Array.getElem?_eq_some_iff.1 hb).1 hn).trans hb

/-! ### single blocks -/
theorem lt_of {w : World} {g : Nat} {o : Obj} (h : w.heap[g]? = some o) : g < w.heap.size := (Array.getElem?_eq_some_iff.1 h).1
theorem cell_of {w : World} {g : Nat} {t : TypeId} {cs : Array Value} {fr : Nat × Nat} (h : w.heap[g]? = some (.cells cs t fr)) (i : Nat) : w.cell? ⟨g, i, none⟩ = cs[i]? := by
  simp [World.cell?, h]
theorem free_of {w : World} {g : Nat} {t : TypeId} {cs : Array Value} (h : w.heap[g]? = some (.cells cs t (0, 0))) (i : Nat) : w.frozen? ⟨g, i, none⟩ = false := by
  simp [World.frozen?, h]
theorem set_same {w : World} {g : Nat} {t : TypeId} {cs : Array Value} {fr : Nat × Nat} (h : w.heap[g]? = some (.cells cs t fr)) (i : Nat) (u : Value) : (w.setCell ⟨g, i, none⟩ u).heap[g]? = some (.cells (cs.setIfInBounds i u) t fr) := by
  simp [World.setCell, Array.getElem?_modify, h]
theorem set_other {w : World} {g : Nat} {o : Obj} (h : w.heap[g]? = some o) {a : Addr} (ha : g ≠ a.block) (u : Value) : (w.setCell a u).heap[g]? = some o := (Below.heap_setCell w a u g ha).trans h
theorem alloc_old {w : World} {g : Nat} {o : Obj} (h : w.heap[g]? = some o) (o' : Obj) : (w.alloc o').heap[g]? = some o := (Below.heap_alloc w o' g (lt_of h)).trans h
theorem alloc_new (w : World) (o : Obj) : (w.alloc o).heap[w.heap.size]? = some o := heap_alloc_new w o

/-! ### a slice over a row -/
/-- Slice (A, c) holds vs; its row lies in the blocks qs (none, if it is empty). -/
def Sl (w : World) (T : TypeId) (A : Option Addr) (c : Nat) (vs : List Value) (qs : List Nat) : Prop :=
  vs.length ≤ c ∧ ((vs = [] ∧ qs = []) ∨ ∃ q off cs, A = some ⟨q, off, none⟩ ∧ qs = [q] ∧ w.heap[q]? = some (.cells cs T (0, 0)) ∧ off + c ≤ cs.size ∧ ∀ j v, vs[j]? = some v → cs[off + j]? = some v)

theorem Sl.keep {w w' : World} {T : TypeId} {A : Option Addr} {c : Nat} {vs : List Value} {qs : List Nat} (h : Sl w T A c vs qs) (hk : ∀ q ∈ qs, w'.heap[q]? = w.heap[q]?) : Sl w' T A c vs qs := by
  obtain ⟨h0, h1 | ⟨q, off, cs, hA, hq, hb, hs, hc⟩⟩ := h
  · exact ⟨h0, .inl h1⟩
  · exact ⟨h0, .inr ⟨q, off, cs, hA, hq, (hk q (by simp [hq])).trans hb, hs, hc⟩⟩

theorem Sl.at_ {w : World} {T : TypeId} {A : Option Addr} {c : Nat} {vs : List Value} {qs : List Nat} (h : Sl w T A c vs qs) {i : Nat} {v : Value} (hi : vs[i]? = some v) :
    ∃ q off cs, A = some ⟨q, off, none⟩ ∧ qs = [q] ∧ w.heap[q]? = some (.cells cs T (0, 0)) ∧ off + c ≤ cs.size ∧ w.cell? ⟨q, off + i, none⟩ = some v ∧ w.frozen? ⟨q, off + i, none⟩ = false := by
  obtain ⟨h0, ⟨rfl, _⟩ | ⟨q, off, cs, hA, hq, hb, hs, hc⟩⟩ := h
  · simp at hi
  · exact ⟨q, off, cs, hA, hq, hb, hs, by rw [cell_of hb]; exact hc i v hi, free_of hb _⟩

theorem Sl.set_ {w : World} {T : TypeId} {c q off : Nat} {vs : List Value} {qs : List Nat} (h : Sl w T (some ⟨q, off, none⟩) c vs qs) {i : Nat} (hi : i < vs.length) (u : Value) :
    Sl (w.setCell ⟨q, off + i, none⟩ u) T (some ⟨q, off, none⟩) c (vs.set i u) qs := by
  obtain ⟨h0, ⟨rfl, _⟩ | ⟨q', off', cs, hA, hq, hb, hs, hc⟩⟩ := h
  · simp at hi
  · simp only [Option.some.injEq, Addr.mk.injEq, and_true] at hA
    obtain ⟨rfl, rfl⟩ := hA
    refine ⟨by simpa using h0, .inr ⟨q, off, _, rfl, hq, set_same hb _ u, by simpa using hs, fun j v hj => ?_⟩⟩
    rw [Array.getElem?_setIfInBounds]
    rw [List.getElem?_set] at hj
    by_cases e : i = j
    · subst e
      simp only [if_true, hi] at hj ⊢
      cases hj
      rw [if_pos (by omega)]
    · rw [if_neg (by omega)]
      rw [if_neg e] at hj
      exact hc j v hj

theorem Sl.of_own {w : World} {base n : Nat} {T : TypeId} {v : Value} {xs : List Value} (h : w.ownsRow base T 1 v n xs) :
    ∃ A c qs, v = .slice A n c ∧ Sl w T A c xs qs ∧ ∀ q ∈ qs, base ≤ q := by
  obtain ⟨h1, ⟨rfl, rfl⟩ | ⟨g, cap, cur, rfl, hg, hb, hn, _, hs, ht⟩⟩ := h
  · have : xs = [] := List.eq_nil_of_length_eq_zero (by omega)
    exact ⟨none, 0, [], rfl, ⟨by simp [this], .inl ⟨this, rfl⟩⟩, by simp⟩
  · refine ⟨some ⟨g, 0, none⟩, cap, [g], rfl, ⟨by omega, .inr ⟨g, 0, cur, rfl, rfl, hb, by omega, fun j v hj => ?_⟩⟩, by simpa using hg⟩
    rw [← ht, List.getElem?_take] at hj
    split at hj
    · simpa using hj
    · cases hj

end Go.Proofs.Ytlokklfkiechdaa.Ob
