/- Parts of the proof, one behind the other: Ob, Ba, Cr, Cc, C6, Oc, Cd, Pk, Wd. -/
import Derived.Below
import Derived.Deep.Draws
import Derived.ChangeMaps5
import Derived.Deep.AppendLies
import Derived.Laws.Rows
import Derived.IntWalk
import Derived.Lib.Hide
import Derived.WalkKit
import Derived.Laws.BitsLemmas
import Derived.Test.YtgnagbbdnlmgeaaGreatProg
import Derived.LoopTactic
import Derived.WalkSpells
import Derived.RegionTactic
import Derived.ChangeAlike
set_option linter.unusedVariables false
set_option linter.unusedSimpArgs false
set_option linter.unusedSectionVars false
section
namespace Go.Proofs.YtgnagbbdnlmgeaaGreat.Ob
open Go Go.RowKit
open Go.ChangeMaps (setBlock)
structure Upd (F : List Nat) (w w' : World) : Prop where
  os : w'.os = w.os
  tape : w'.tape = w.tape
  output : w'.output = w.output
  size : w.heap.size ≤ w'.heap.size
  block : ∀ k, k < w.heap.size → k ∉ F → w'.heap[k]? = w.heap[k]?
theorem Upd.refl (F : List Nat) (w : World) : Upd F w w := ⟨rfl, rfl, rfl, Nat.le_refl _, fun _ _ _ => rfl⟩
theorem Upd.trans {F F1 : List Nat} {w w1 w2 : World} (h : Upd F w w1) (k : Upd F1 w1 w2) (s : ∀ x ∈ F1, x ∈ F ∨ w.heap.size ≤ x) : Upd F w w2 :=
  ⟨k.os.trans h.os, k.tape.trans h.tape, k.output.trans h.output, Nat.le_trans h.size k.size, fun i hi hn =>
    (k.block i (Nat.lt_of_lt_of_le hi h.size) (fun hc => by rcases s i hc with r | r; exact hn r; omega)).trans (h.block i hi hn)⟩
theorem Upd.mono {F F1 : List Nat} {w w1 : World} (h : Upd F w w1) (s : ∀ x ∈ F, x ∈ F1 ∨ w.heap.size ≤ x) : Upd F1 w w1 :=
  ⟨h.os, h.tape, h.output, h.size, fun i hi hn => h.block i hi (fun hc => by rcases s i hc with r | r; exact hn r; omega)⟩
theorem Upd.of_below {F : List Nat} {w w' : World} (h : Below w.heap.size w w') : Upd F w w' := ⟨h.os, h.tape, h.output, h.size, fun k hk _ => h.block k hk⟩
theorem Upd.below {F : List Nat} {w w' : World} (h : Upd F w w') (hF : ∀ k ∈ F, w.heap.size ≤ k) : Below w.heap.size w w' :=
  ⟨h.os, h.tape, h.output, h.size, fun k hk => h.block k hk (fun hc => by have := hF k hc; omega)⟩
theorem Upd.belowB {F : List Nat} {B : Nat} {w w' : World} (h : Upd F w w') (hB : B ≤ w.heap.size) (hF : ∀ k ∈ F, B ≤ k) : Below B w w' :=
  ⟨h.os, h.tape, h.output, h.size, fun k hk => h.block k (by omega) (fun hc => by have := hF k hc; omega)⟩
theorem Upd.of_grown {F : List Nat} {w w' : World} (h : w.grownBy w' none) : Upd F w w' := ⟨h.os, h.tape, h.output, h.size, fun k hk _ => h.block k hk (by simp)⟩
theorem Upd.drew {F : List Nat} {w w1 : World} (h : Upd F w w1) : Upd F w w1.drew := ⟨h.os, h.tape, h.output, h.size, h.block⟩
theorem Upd.alloc {F : List Nat} {w w1 : World} (h : Upd F w w1) (o : Obj) : Upd F w (w1.alloc o) :=
  ⟨h.os, h.tape, h.output, by have := h.size; simp; omega, fun k hk hn => (Below.heap_alloc w1 o k (by have := h.size; omega)).trans (h.block k hk hn)⟩
theorem Upd.setCell {F : List Nat} {w w1 : World} (h : Upd F w w1) {a : Addr} (ha : a.block ∈ F ∨ w.heap.size ≤ a.block) (v : Value) : Upd F w (w1.setCell a v) :=
  ⟨h.os, h.tape, h.output, by simpa [World.setCell] using h.size, fun k hk hn => (Below.heap_setCell w1 a v k (fun e => by subst e; rcases ha with r | r; exact hn r; omega)).trans (h.block k hk hn)⟩
theorem setBlock_size (w : World) (b : Nat) (o : Obj) : (setBlock w b o).heap.size = w.heap.size := by simp [setBlock]
theorem setBlock_other (w : World) (b : Nat) (o : Obj) (k : Nat) (h : k ≠ b) : (setBlock w b o).heap[k]? = w.heap[k]? := by
  simp only [setBlock, Array.getElem?_setIfInBounds]
  rw [if_neg (fun e => h e.symm)]
theorem setBlock_same {w : World} {b : Nat} {o' : Obj} (h : w.heap[b]? = some o') (o : Obj) : (setBlock w b o).heap[b]? = some o := by
  have := (Array.getElem?_eq_some_iff.1 h).1
  simp only [setBlock, Array.getElem?_setIfInBounds, if_true, this]
theorem Upd.setBlock {F : List Nat} {w w1 : World} (h : Upd F w w1) {b : Nat} (hb : b ∈ F ∨ w.heap.size ≤ b) (o : Obj) : Upd F w (setBlock w1 b o) :=
  ⟨h.os, h.tape, h.output, by rw [setBlock_size]; exact h.size, fun k hk hn => (setBlock_other w1 b o k (fun e => by subst e; rcases hb with r | r; exact hn r; omega)).trans (h.block k hk hn)⟩
theorem Upd.blk {F : List Nat} {w w1 : World} (h : Upd F w w1) {k : Nat} {o : Obj} (hb : w.heap[k]? = some o) (hn : k ∉ F) : w1.heap[k]? = some o :=
  (h.block k (Array.getElem?_eq_some_iff.1 hb).1 hn).trans hb
theorem lt_of {w : World} {g : Nat} {o : Obj} (h : w.heap[g]? = some o) : g < w.heap.size := (Array.getElem?_eq_some_iff.1 h).1
theorem cell_of {w : World} {g : Nat} {t : TypeId} {cs : Array Value} {fr : Nat × Nat} (h : w.heap[g]? = some (.cells cs t fr)) (i : Nat) : w.cell? ⟨g, i, none⟩ = cs[i]? := by
  simp [World.cell?, h]
theorem free_of {w : World} {g : Nat} {t : TypeId} {cs : Array Value} (h : w.heap[g]? = some (.cells cs t (0, 0))) (i : Nat) : w.frozen? ⟨g, i, none⟩ = false := by
  simp [World.frozen?, h]
theorem set_same {w : World} {g : Nat} {t : TypeId} {cs : Array Value} {fr : Nat × Nat} (h : w.heap[g]? = some (.cells cs t fr)) (i : Nat) (u : Value) : (w.setCell ⟨g, i, none⟩ u).heap[g]? = some (.cells (cs.setIfInBounds i u) t fr) := by
  simp [World.setCell, Array.getElem?_modify, h]
theorem set_other {w : World} {g : Nat} {o : Obj} (h : w.heap[g]? = some o) {a : Addr} (ha : g ≠ a.block) (u : Value) : (w.setCell a u).heap[g]? = some o := (Below.heap_setCell w a u g ha).trans h
theorem alloc_old {w : World} {g : Nat} {o : Obj} (h : w.heap[g]? = some o) (o' : Obj) : (w.alloc o').heap[g]? = some o := (Below.heap_alloc w o' g (lt_of h)).trans h
theorem alloc_new (w : World) (o : Obj) : (w.alloc o).heap[w.heap.size]? = some o := heap_alloc_new w o
def Sl (w : World) (T : TypeId) (A : Option Addr) (c : Nat) (vs : List Value) (qs : List Nat) : Prop :=
  vs.length ≤ c ∧ ((vs = [] ∧ qs = []) ∨ ∃ q off cs, A = some ⟨q, off, none⟩ ∧ qs = [q] ∧ w.heap[q]? = some (.cells cs T (0, 0)) ∧ off + c ≤ cs.size ∧ ∀ j v, vs[j]? = some v → cs[off + j]? = some v)
theorem Sl.keep {w w' : World} {T : TypeId} {A : Option Addr} {c : Nat} {vs : List Value} {qs : List Nat} (h : Sl w T A c vs qs) (hk : ∀ q ∈ qs, w'.heap[q]? = w.heap[q]?) : Sl w' T A c vs qs := by
  obtain ⟨h0, h1 | ⟨q, off, cs, hA, hq, hb, hs, hc⟩⟩ := h
  · exact ⟨h0, .inl h1⟩
  · exact ⟨h0, .inr ⟨q, off, cs, hA, hq, (hk q (by simp [hq])).trans hb, hs, hc⟩⟩
theorem Sl.at_ {w : World} {T : TypeId} {A : Option Addr} {c : Nat} {vs : List Value} {qs : List Nat} (h : Sl w T A c vs qs) {i : Nat} {v : Value} (hi : vs[i]? = some v) :
    ∃ q off cs, A = some ⟨q, off, none⟩ ∧ qs = [q] ∧ w.heap[q]? = some (.cells cs T (0, 0)) ∧ off + c ≤ cs.size ∧ w.cell? ⟨q, off + i, none⟩ = some v ∧ w.frozen? ⟨q, off + i, none⟩ = false := by
  obtain ⟨h0, ⟨rfl, _⟩ | ⟨q, off, cs, hA, hq, hb, hs, hc⟩⟩ := h
  · simp at hi
  · exact ⟨q, off, cs, hA, hq, hb, hs, by rw [cell_of hb]; exact hc i v hi, free_of hb _⟩
theorem Sl.set_ {w : World} {T : TypeId} {c q off : Nat} {vs : List Value} {qs : List Nat} (h : Sl w T (some ⟨q, off, none⟩) c vs qs) {i : Nat} (hi : i < vs.length) (u : Value) :
    Sl (w.setCell ⟨q, off + i, none⟩ u) T (some ⟨q, off, none⟩) c (vs.set i u) qs := by
  obtain ⟨h0, ⟨rfl, _⟩ | ⟨q', off', cs, hA, hq, hb, hs, hc⟩⟩ := h
  · simp at hi
  · simp only [Option.some.injEq, Addr.mk.injEq, and_true] at hA
    obtain ⟨rfl, rfl⟩ := hA
    refine ⟨by simpa using h0, .inr ⟨q, off, _, rfl, hq, set_same hb _ u, by simpa using hs, fun j v hj => ?_⟩⟩
    rw [Array.getElem?_setIfInBounds]
    rw [List.getElem?_set] at hj
    by_cases e : i = j
    · subst e
      simp only [if_true, hi] at hj ⊢
      cases hj
      rw [if_pos (by omega)]
    · rw [if_neg (by omega)]
      rw [if_neg e] at hj
      exact hc j v hj
theorem Sl.of_own {w : World} {base n : Nat} {T : TypeId} {v : Value} {xs : List Value} (h : w.ownsRow base T 1 v n xs) :
    ∃ A c qs, v = .slice A n c ∧ Sl w T A c xs qs ∧ ∀ q ∈ qs, base ≤ q := by
  obtain ⟨h1, ⟨rfl, rfl⟩ | ⟨g, cap, cur, rfl, hg, hb, hn, _, hs, ht⟩⟩ := h
  · have : xs = [] := List.eq_nil_of_length_eq_zero (by omega)
    exact ⟨none, 0, [], rfl, ⟨by simp [this], .inl ⟨this, rfl⟩⟩, by simp⟩
  · refine ⟨some ⟨g, 0, none⟩, cap, [g], rfl, ⟨by omega, .inr ⟨g, 0, cur, rfl, rfl, hb, by omega, fun j v hj => ?_⟩⟩, by simpa using hg⟩
    rw [← ht, List.getElem?_take] at hj
    split at hj
    · simpa using hj
    · cases hj
end Go.Proofs.YtgnagbbdnlmgeaaGreat.Ob
end
section
namespace Go.Proofs.YtgnagbbdnlmgeaaGreat.Ba
open Go Go.RowKit
open Ob
theorem bl_alloc {w w1 : World} (h : Below w.heap.size w w1) (o : Obj) : Below w.heap.size w (w1.alloc o) := h.alloc h.size o
theorem bl_set {w w1 : World} (h : Below w.heap.size w w1) {b o : Nat} (hb : w.heap.size ≤ b) (v : Value) : Below w.heap.size w (w1.setCell ⟨b, o, none⟩ v) := h.setCell hb v
theorem bl_drew {w w1 : World} (h : Below w.heap.size w w1) : Below w.heap.size w w1.drew := ⟨h.os, h.tape, h.output, h.size, h.block⟩
theorem bl_drewN {w w1 : World} (h : Below w.heap.size w w1) (n : Nat) : Below w.heap.size w (w1.drewN n) := ⟨h.os, h.tape, h.output, h.size, h.block⟩
theorem bl_then {w w1 w2 : World} (h : Below w.heap.size w w1) (k : Below w1.heap.size w1 w2) : Below w.heap.size w w2 := h.trans (k.mono h.size)
theorem bl_grown {w w1 w2 : World} {row : Option Nat} (h : Below w.heap.size w w1) (k : w1.grownBy w2 row) (hr : ∀ b, row = some b → w.heap.size ≤ b) : Below w.heap.size w w2 := h.grown k h.size hr
theorem bcell {W w1 : World} (hb : Below W.heap.size W w1) : (∀ b o, b < W.heap.size → w1.cell? ⟨b, o, none⟩ = W.cell? ⟨b, o, none⟩) ∧ (∀ b o, b < W.heap.size → w1.frozen? ⟨b, o, none⟩ = W.frozen? ⟨b, o, none⟩) :=
  ⟨fun b o h => hb.cell (p := ⟨b, o, none⟩) h, fun b o h => hb.frozen (p := ⟨b, o, none⟩) h⟩
theorem cell_blk {w w' : World} {q : Nat} (h : w'.heap[q]? = w.heap[q]?) (o : Nat) : w'.cell? ⟨q, o, none⟩ = w.cell? ⟨q, o, none⟩ := by simp [World.cell?, h]
theorem add_block (a : Addr) (j : Nat) : (a.add j).block = a.block := by
  unfold Addr.add
  split <;> rfl
theorem add_two (a : Addr) (i j : Nat) : (a.add i).add j = a.add (i + j) := by
  unfold Addr.add
  by_cases hi : i = 0 <;> by_cases hj : j = 0 <;> simp [hi, hj, Nat.add_assoc]
theorem res_c {P : Program} {fn : Func} {p : Tmp} {ty : TypeId} (h : fn.results = #[.cell p ty]) (tmps : Array Value) (w : World) (g : Nat) (t : TypeId) (cs : Array Value) (fr : Nat × Nat) (d : TypeDesc)
    (hp : tmps.getD p undef = .pointer (some ⟨g, 0, none⟩)) (hg : w.heap[g]? = some (.cells cs t fr))
    (hu : P.underlying ty = some d) (hd : (match d with | .struct _ | .array _ _ => true | _ => false) = true) (hi : (P.info? ty).map (·.size) = some cs.size) :
    (results fn tmps).run P w = .ok (.agg cs) w := by
  have hp' : tmps[p]?.getD undef = .pointer (some ⟨g, 0, none⟩) := by simpa using hp
  simp [results, h, hp', asAddr, run_loadVar_row w g t ty cs fr d hg hu hd hi]
theorem res_ct {P : Program} {fn : Func} {p u : Tmp} {ty : TypeId} (h : fn.results = #[.cell p ty, .tmp u]) (tmps : Array Value) (w : World) (g : Nat) (t : TypeId) (cs : Array Value) (fr : Nat × Nat) (d : TypeDesc)
    (hp : tmps.getD p undef = .pointer (some ⟨g, 0, none⟩)) (hg : w.heap[g]? = some (.cells cs t fr))
    (hu : P.underlying ty = some d) (hd : (match d with | .struct _ | .array _ _ => true | _ => false) = true) (hi : (P.info? ty).map (·.size) = some cs.size) :
    (results fn tmps).run P w = .ok (.tuple #[.agg cs, tmps.getD u undef]) w := by
  have hp' : tmps[p]?.getD undef = .pointer (some ⟨g, 0, none⟩) := by simpa using hp
  simp [results, h, hp', asAddr, run_loadVar_row w g t ty cs fr d hg hu hd hi]
def ivs (k : IntKind) (l : List Int) : List Value := l.map (Value.int k)
theorem ivs_length (k : IntKind) (l : List Int) : (ivs k l).length = l.length := by simp [ivs]
theorem ivs_get {k : IntKind} {l : List Int} {i : Nat} {x : Int} (h : l[i]? = some x) : (ivs k l)[i]? = some (.int k x) := by simp [ivs, h]
theorem ivs_append (k : IntKind) (a b : List Int) : ivs k (a ++ b) = ivs k a ++ ivs k b := by simp [ivs]
def Rk (k : IntKind) (w : World) (A : Option Addr) (l : List Int) : Prop := ∀ (i : Nat) x, l[i]? = some x → ∃ a, A = some a ∧ a.block < w.heap.size ∧ w.cell? (a.add i) = some (.int k x)
theorem Rk.below {k : IntKind} {w w' : World} {A : Option Addr} {l : List Int} (h : Rk k w A l) (hb : Below w.heap.size w w') : Rk k w' A l := by
  intro i x hi
  obtain ⟨a, rfl, h1, h2⟩ := h i x hi
  exact ⟨a, rfl, Nat.lt_of_lt_of_le h1 hb.size, by rw [hb.cell (p := a.add i) (by rw [add_block]; exact h1)]; exact h2⟩
theorem Rk.keep {k : IntKind} {w w' : World} {A : Option Addr} {l : List Int} (h : Rk k w A l) (hk : ∀ a, A = some a → w'.heap[a.block]? = w.heap[a.block]?) (hs : w.heap.size ≤ w'.heap.size) : Rk k w' A l := by
  intro i x hi
  obtain ⟨a, rfl, h1, h2⟩ := h i x hi
  refine ⟨a, rfl, Nat.lt_of_lt_of_le h1 hs, ?_⟩
  rw [World.cell?_of_block (w := w) (a := a.add i) (by rw [add_block]; exact hk a rfl)]
  exact h2
theorem Rk.nil (k : IntKind) (w : World) (A : Option Addr) : Rk k w A [] := by intro i x hi; simp at hi
theorem Rk.at_ {k : IntKind} {w : World} {a : Addr} {l : List Int} (h : Rk k w (some a) l) {i : Nat} {x : Int} (hi : l[i]? = some x) : w.cell? (a.add i) = some (.int k x) := by
  obtain ⟨b, e, _, h2⟩ := h i x hi
  cases e
  exact h2
theorem Rk.drop {k : IntKind} {w : World} {a : Addr} {l : List Int} (h : Rk k w (some a) l) (n : Nat) : Rk k w (some (a.add n)) (l.drop n) := by
  intro i x hi
  rw [List.getElem?_drop] at hi
  obtain ⟨b, e, h1, h2⟩ := h _ x hi
  cases e
  exact ⟨_, rfl, by rw [add_block]; exact h1, by rw [add_two]; exact h2⟩
theorem Rk.take {k : IntKind} {w : World} {A : Option Addr} {l : List Int} (h : Rk k w A l) (n : Nat) : Rk k w A (l.take n) := by
  intro i x hi
  rw [List.getElem?_take] at hi
  split at hi
  · exact h i x hi
  · cases hi
theorem sl_rk {k : IntKind} {w : World} {T : TypeId} {A : Option Addr} {c : Nat} {l : List Int} {qs : List Nat} (h : Sl w T A c (ivs k l) qs) : Rk k w A l := by
  intro i x hi
  obtain ⟨q, off, cs, rfl, -, hb, -, hc, -⟩ := h.at_ (i := i) (v := .int k x) (ivs_get hi)
  exact ⟨_, rfl, lt_of hb, by rw [Addr.add_lit]; exact hc⟩
theorem blk_rk {k : IntKind} {w : World} {q T : Nat} {cs : Array Value} {fr : Nat × Nat} {l : List Int} (h : w.heap[q]? = some (.cells cs T fr)) (hc : ∀ (i : Nat) x, l[i]? = some x → cs[i]? = some (.int k x)) : Rk k w (some ⟨q, 0, none⟩) l := by
  intro i x hi
  exact ⟨_, rfl, lt_of h, by rw [Addr.add_lit, cell_of h, Nat.zero_add]; exact hc i x hi⟩
theorem own_lo {W : World} {B T s n : Nat} {v : Value} {xs : List Value} (h : W.ownsRow B T s v n xs) : ∀ k, v.ownBlock = some k → B ≤ k := by
  obtain ⟨_, ⟨rfl, _⟩ | ⟨g, cap, cur, rfl, hg, _⟩⟩ := h
  · intro k hk; simp [Value.ownBlock] at hk
  · intro k hk; simp [Value.ownBlock] at hk; omega
theorem own_kp {W W' : World} {B T s n : Nat} {v : Value} {xs : List Value} (h : W.ownsRow B T s v n xs) (hk : ∀ k, B ≤ k → k < W.heap.size → W'.heap[k]? = W.heap[k]?) : W'.ownsRow B T s v n xs := by
  obtain ⟨h1, h2 | ⟨g, cap, cur, hv, hg, hb, r⟩⟩ := h
  · exact ⟨h1, .inl h2⟩
  · exact ⟨h1, .inr ⟨g, cap, cur, hv, hg, (hk g hg (lt_of hb)).trans hb, r⟩⟩
theorem own_bl {W W' : World} {B T s n : Nat} {v : Value} {xs : List Value} (h : W.ownsRow B T s v n xs) (hb : Below W.heap.size W W') : W'.ownsRow B T s v n xs := own_kp h (fun k _ hk => hb.block k hk)
theorem own_base {w : World} {B B' T s n : Nat} {v : Value} {xs : List Value} (h : w.ownsRow B' T s v n xs) (hB : B ≤ B') : w.ownsRow B T s v n xs := by
  obtain ⟨h1, h2 | ⟨g, cap, cur, hv, hg, r⟩⟩ := h
  · exact ⟨h1, .inl h2⟩
  · exact ⟨h1, .inr ⟨g, cap, cur, hv, by omega, r⟩⟩
theorem own_slice {w : World} {B T s n : Nat} {v : Value} {xs : List Value} (h : w.ownsRow B T s v n xs) : ∃ A c, v = .slice A n c := by
  obtain ⟨_, ⟨rfl, rfl⟩ | ⟨g, cap, cur, rfl, _⟩⟩ := h
  · exact ⟨_, _, rfl⟩
  · exact ⟨_, _, rfl⟩
theorem own_rk {k : IntKind} {w : World} {B T n : Nat} {A : Option Addr} {c : Nat} {l : List Int} (h : w.ownsRow B T 1 (.slice A n c) n (ivs k l)) : Rk k w A l ∧ l.length = n ∧ n ≤ c := by
  have hl : l.length = n := by
    have := h.1
    rw [ivs_length] at this
    omega
  obtain ⟨A', c', qs, hv, hsl, -⟩ := Sl.of_own h
  simp only [Value.slice.injEq, true_and] at hv
  obtain ⟨rfl, rfl⟩ := hv
  exact ⟨sl_rk hsl, hl, by have := hsl.1; rw [ivs_length] at this; omega⟩
theorem own_set {W : World} {B T n q c : Nat} {xs : List Value} (h : W.ownsRow B T 1 (.slice (some ⟨q, 0, none⟩) n c) n xs) {i : Nat} (hi : i < n) (u : Value) : (W.setCell ⟨q, i, none⟩ u).ownsRow B T 1 (.slice (some ⟨q, 0, none⟩) n c) n (xs.set i u) := by
  obtain ⟨h1, ⟨h2, _⟩ | ⟨g, cap, cur, hv, hg, hb, hn, hm, hs, ht⟩⟩ := h
  · cases h2
  · simp only [Value.slice.injEq, Option.some.injEq, Addr.mk.injEq, and_true, true_and] at hv
    obtain ⟨rfl, rfl⟩ := hv
    refine ⟨by rw [List.length_set]; exact h1, .inr ⟨q, c, cur.setIfInBounds i u, rfl, hg, set_same hb i u, hn, hm, by simpa using hs, ?_⟩⟩
    rw [← ht]
    simp [List.take_set]
theorem own_nil (w : World) (B : Nat) (T : TypeId) (g : Nat) (hg : B ≤ g) (hb : w.heap[g]? = some (.cells #[] T (0, 0))) (s : Nat) : w.ownsRow B T s (.slice (some ⟨g, 0, none⟩) 0 0) 0 [] :=
  ⟨by simp, .inr ⟨g, 0, #[], rfl, hg, hb, Nat.le_refl _, by unfold maxLen; omega, by simp, by simp⟩⟩
theorem own_nil0 (w : World) (B : Nat) (T s : Nat) : w.ownsRow B T s (.slice none 0 0) 0 [] := ⟨by simp, .inl ⟨rfl, rfl⟩⟩
theorem own_new {k : IntKind} {W : World} {B T q n : Nat} {l : List Int} (h : W.heap[q]? = some (.cells (ivs k l).toArray T (0, 0))) (hq : B ≤ q) (hn : l.length = n) (hm : n ≤ maxLen) : W.ownsRow B T 1 (.slice (some ⟨q, 0, none⟩) n n) n (ivs k l) :=
  ⟨by simp [ivs, hn], .inr ⟨q, n, _, rfl, hq, h, Nat.le_refl _, hm, by simp [ivs, hn], by rw [Nat.mul_one, ← hn]; exact List.take_of_length_le (by simp [ivs])⟩⟩
theorem ivs_oneCell (k : IntKind) (l : List Int) : ∀ u ∈ ivs k l, u.oneCell' = true := by
  intro u hu
  simp only [ivs, List.mem_map] at hu
  obtain ⟨z, _, rfl⟩ := hu
  rfl
theorem one_at (w : World) (v : Value) (T : TypeId) : ∀ (j : Nat) u, [v][j]? = some u → (w.alloc (.cells #[v] T)).cell? ((⟨w.heap.size, 0, none⟩ : Addr).add j) = some u := by
  intro j u hj
  match j, hj with
  | 0, hj =>
    simp at hj
    subst hj
    simp [Addr.add]
theorem put3 {W : World} {k T : Nat} {x0 x1 x2 : Value} (h : W.heap[k]? = some (.cells #[x0, x1, x2] T (0, 0))) (y0 y1 y2 : Value) :
    (((W.setCell ⟨k, 0, none⟩ y0).setCell ⟨k, 1, none⟩ y1).setCell ⟨k, 2, none⟩ y2).heap[k]? = some (.cells #[y0, y1, y2] T (0, 0)) := by
  rw [set_same (set_same (set_same h 0 y0) 1 y1) 2 y2]; rfl
theorem bl_put3 {w W : World} {k : Nat} (h : Below w.heap.size w W) (hk : w.heap.size ≤ k) (y0 y1 y2 : Value) : Below w.heap.size w (((W.setCell ⟨k, 0, none⟩ y0).setCell ⟨k, 1, none⟩ y1).setCell ⟨k, 2, none⟩ y2) := bl_set (bl_set (bl_set h hk _) hk _) hk _
theorem blk_bl {W W' : World} {k : Nat} {o : Obj} (h : W.heap[k]? = some o) (hb : Below W.heap.size W W') : W'.heap[k]? = some o := (hb.block k (lt_of h)).trans h
theorem w64 (n : Int) (h0 : -9223372036854775808 ≤ n) (h1 : n ≤ 9223372036854775807) : wrap64 n = n := by unfold wrap64; omega
theorem wu64 (n : Int) (h0 : 0 ≤ n) (h1 : n < 18446744073709551616) : IntKind.u64.wrap n = n := by
  simp [IntKind.wrap, IntKind.bits, IntKind.signed]; omega
theorem take_next {α : Type} {l : List α} {i : Nat} {x : α} (h : l[i]? = some x) : l.take (i + 1) = l.take i ++ [x] := by
  obtain ⟨hi, hx⟩ := List.getElem?_eq_some_iff.1 h
  rw [List.take_succ_eq_append_getElem hi, hx]
theorem some_at {α : Type} {l : List α} {i : Nat} (h : i < l.length) : ∃ x, l[i]? = some x := ⟨_, List.getElem?_eq_getElem h⟩
theorem ret_int {k : IntKind} {a b : Int} (h : a = b) : Ending.returned (.int k a) = .returned (.int k b) := by rw [h]
end Go.Proofs.YtgnagbbdnlmgeaaGreat.Ba
end
section
namespace Go.Proofs.YtgnagbbdnlmgeaaGreat.Cr
open Go
def P32 : Nat := 3988292384
def bst (r : Nat) : Nat := if r % 2 = 1 then (r / 2) ^^^ P32 else r / 2
def rbit (r b : Nat) : Nat := if b = r % 2 then r / 2 else (r / 2) ^^^ P32
def itb : Nat → Nat → Nat
  | 0, r => r
  | n + 1, r => itb n (bst r)
def itr : Nat → Nat → Nat → Nat
  | 0, r, _ => r
  | n + 1, r, x => itr n (rbit r (x % 2)) (x / 2)
def stp (s x : Nat) : Nat := itb 8 (s ^^^ x)
def sumB (s : Nat) (l : List Nat) : Nat := l.foldl stp s
theorem xor_half (a b : Nat) : (a ^^^ b) / 2 = a / 2 ^^^ b / 2 := by
  apply Nat.eq_of_testBit_eq
  intro i
  simp [Nat.testBit_div_two, Nat.testBit_xor]
theorem xor_par (a b : Nat) : (a ^^^ b) % 2 = (a + b) % 2 := by
  have h := Nat.testBit_xor a b 0
  simp only [Nat.testBit_zero] at h
  have h1 : (a ^^^ b) % 2 < 2 := Nat.mod_lt _ (by decide)
  have h2 : a % 2 < 2 := Nat.mod_lt _ (by decide)
  have h3 : b % 2 < 2 := Nat.mod_lt _ (by decide)
  by_cases e1 : a % 2 = 1
  · by_cases e2 : b % 2 = 1
    · rw [decide_eq_true e1, decide_eq_true e2, Bool.xor_self, decide_eq_false_iff_not] at h
      omega
    · rw [decide_eq_true e1, decide_eq_false e2, Bool.xor_false, decide_eq_true_iff] at h
      omega
  · by_cases e2 : b % 2 = 1
    · rw [decide_eq_false e1, decide_eq_true e2, Bool.false_xor, decide_eq_true_iff] at h
      omega
    · rw [decide_eq_false e1, decide_eq_false e2, Bool.xor_self, decide_eq_false_iff_not] at h
      omega
theorem bst_xor (r x : Nat) : bst (r ^^^ x) = rbit r (x % 2) ^^^ (x / 2) := by
  unfold bst rbit
  rw [xor_par, xor_half]
  by_cases h : x % 2 = r % 2
  · rw [if_neg (by omega), if_pos h]
  · rw [if_pos (by omega), if_neg h, Nat.xor_assoc, Nat.xor_assoc, Nat.xor_comm (x / 2)]
theorem itb_xor : ∀ (n r x : Nat), itb n (r ^^^ x) = itr n r x ^^^ (x / 2 ^ n)
  | 0, r, x => by simp [itb, itr]
  | n + 1, r, x => by
    simp only [itb, itr]
    rw [bst_xor, itb_xor n, Nat.div_div_eq_div_mul, Nat.pow_succ, Nat.mul_comm 2]
theorem stp_eq (s x : Nat) (hx : x < 256) : stp s x = itr 8 s x := by
  unfold stp
  rw [itb_xor, show x / 2 ^ 8 = 0 from Nat.div_eq_of_lt (by omega), Nat.xor_zero]
theorem bst_lt (r : Nat) (h : r < 4294967296) : bst r < 4294967296 := by
  unfold bst
  split
  · exact Nat.xor_lt_two_pow (n := 32) (by omega) (by decide)
  · omega
theorem itb_lt : ∀ (n r : Nat), r < 4294967296 → itb n r < 4294967296
  | 0, _, h => h
  | n + 1, r, h => itb_lt n _ (bst_lt r h)
theorem xor_lt32 {a b : Nat} (h : a < 4294967296) (h' : b < 4294967296) : a ^^^ b < 4294967296 := Nat.xor_lt_two_pow (n := 32) h h'
theorem stp_lt (s x : Nat) (h : s < 4294967296) (h' : x < 256) : stp s x < 4294967296 := itb_lt 8 _ (xor_lt32 h (by omega))
theorem sumB_lt : ∀ (l : List Nat) (s : Nat), s < 4294967296 → (∀ x ∈ l, x < 256) → sumB s l < 4294967296
  | [], _, h, _ => h
  | x :: l, s, h, hl => sumB_lt l _ (stp_lt s x h (hl x (by simp))) (fun y hy => hl y (by simp [hy]))
theorem bits_xor32 (a b : Nat) (ha : a < 4294967296) (hb : b < 4294967296) : bits .xor .u32 a b = ((a ^^^ b : Nat) : Int) := by
  have ha' : a % 4294967296 = a := Nat.mod_eq_of_lt ha
  have hb' : b % 4294967296 = b := Nat.mod_eq_of_lt hb
  have hl := xor_lt32 ha hb
  have hk : IntKind.u32.bits = 32 := rfl
  simp only [bits, hk, BitVec.ofInt_natCast, BitVec.toNat_xor, BitVec.toNat_ofNat]
  rw [show (2 : Nat) ^ 32 = 4294967296 from rfl, ha', hb', IntKind.wrap_u32]
  omega
theorem bits_and1 (a : Nat) (ha : a < 4294967296) : bits .and .u32 a 1 = ((a % 2 : Nat) : Int) := by
  have := bits_mask .u32 32 (by decide) (fun n h0 h1 => by rw [IntKind.wrap_u32]; omega) 1 (by decide) a (by omega) (by omega)
  simpa using this
theorem not32 (x : Nat) (h : x < 4294967296) : 4294967295 ^^^ x = 4294967295 - x := by
  apply Nat.eq_of_testBit_eq
  intro i
  have h1 := Nat.testBit_two_pow_sub_succ (n := 32) (x := x) (by omega) i
  have h2 := Nat.testBit_two_pow_sub_succ (n := 32) (x := 0) (by omega) i
  rw [Nat.testBit_xor]
  rw [show (4294967295 : Nat) - x = 2 ^ 32 - (x + 1) from by omega, h1]
  rw [show (4294967295 : Nat) = 2 ^ 32 - (0 + 1) from by omega, h2]
  by_cases hi : i < 32
  · simp [hi]
  · have : x.testBit i = false := Nat.testBit_lt_two_pow (Nat.lt_of_lt_of_le h (by
      have : 2 ^ 32 ≤ 2 ^ i := Nat.pow_le_pow_right (by decide) (by omega)
      omega))
    simp [hi, this]
end Go.Proofs.YtgnagbbdnlmgeaaGreat.Cr
end
section
set_option maxHeartbeats 1000000
set_option maxRecDepth 100000
namespace Go.Proofs.YtgnagbbdnlmgeaaGreat.Cc
open Go Go.RowKit
open Ob Ba Cr
theorem step32_ (s x : Nat) (hs : s < 4294967296) (hx : x < 256) (w : World) :
    Calls Tryz.prog 187 #[.int .u32 s, .int .u8 x] w fun e w' => e = .returned (.int .u32 (stp s x)) ∧ w = w' := by
  have hwx : IntKind.u32.wrap (x : Int) = x := by rw [IntKind.wrap_u32]; omega
  have hx0 : Go.bits .xor .u32 (s : Int) (x : Int) = ((s ^^^ x : Nat) : Int) := bits_xor32 s x hs (by omega)
  have hr0 : s ^^^ x < 4294967296 := xor_lt32 hs (by omega)
  go_enter Tryz.func187, Tryz.ntmps187
  go_wp2_with fail
  have HS : Hid (itb 8 (s ^^^ x) = stp s x) := rfl
  clear hwx hx0
  generalize s ^^^ x = r0 at *
  go_loop [9, 0] (fun c9 c0 => ∃ (i r : Nat), i ≤ 8 ∧ c9 = .int .i64 i ∧ c0 = .int .u32 r ∧ r < 4294967296 ∧ Hid (itb (8 - i) r = stp s x)) (fun c9 _ => 8 - (intOf c9).toNat)
  case atStart => exact ⟨0, r0, by omega, rfl, rfl, hr0, HS⟩
  case round =>
    obtain ⟨i, r, hi, rfl, rfl, hr, HR⟩ := hrel
    by_cases hlt : i < 8
    · have hn : itb (8 - (i + 1)) (bst r) = stp s x := by
        have := HR.out
        rw [show 8 - i = (8 - (i + 1)) + 1 from by omega, itb] at this
        exact this
      have HN := Lib.hid hn
      have hl := bst_lt r hr
      clear hn
      by_cases hp : r % 2 = 1
      · have e1 : Go.bits .and .u32 (r : Int) 1 = 1 := by rw [bits_and1 r hr, hp]; rfl
        have e3 : Go.bits .xor .u32 ((r : Int) / 2) 3988292384 = ((bst r : Nat) : Int) := by
          have := bits_xor32 (r / 2) P32 (by omega) (by decide)
          unfold bst
          rw [if_pos hp]
          exact this
        clear hp
        generalize bst r = z at *
        go_wp2
        go_round
        case rel => exact ⟨i + 1, z, by omega, by go_num, rfl, hl, HN⟩
        case measure => simp [intOf]; omega
      · have e1 : Go.bits .and .u32 (r : Int) 1 = 0 := by rw [bits_and1 r hr, show r % 2 = 0 from by omega]; rfl
        have e3 : (r : Int) / 2 = ((bst r : Nat) : Int) := by
          unfold bst
          rw [if_neg hp]
          rfl
        clear hp
        generalize bst r = z at *
        go_wp2
        go_round
        case rel => exact ⟨i + 1, z, by omega, by go_num, rfl, hl, HN⟩
        case measure => simp [intOf]; omega
    · obtain rfl : i = 8 := by omega
      go_wp2
      go_ret
      have := HR.out
      simp only [Nat.sub_self, itb] at this
      exact ⟨by rw [← this]; rfl, rfl⟩
end Go.Proofs.YtgnagbbdnlmgeaaGreat.Cc
end
section
namespace Go.Proofs.YtgnagbbdnlmgeaaGreat.C6
open Go Cr
def P16 : Nat := 4129
def dbl (r : Nat) : Nat := 2 * r % 65536
def bst6 (r : Nat) : Nat := if r.testBit 15 then dbl r ^^^ P16 else dbl r
def rbit6 (r : Nat) (b : Bool) : Nat := if b = r.testBit 15 then dbl r else dbl r ^^^ P16
def itb6 : Nat → Nat → Nat
  | 0, r => r
  | n + 1, r => itb6 n (bst6 r)
def itr6 : Nat → Nat → Nat → Nat
  | 0, r, _ => r
  | n + 1, r, y => itr6 n (rbit6 r (y.testBit 15)) (dbl y)
def dbls : Nat → Nat → Nat
  | 0, y => y
  | n + 1, y => dbls n (dbl y)
def stp6 (s x : Nat) : Nat := itb6 8 (s ^^^ 256 * x)
def sum6 (s : Nat) (l : List Nat) : Nat := l.foldl stp6 s
theorem dbl_bit (r i : Nat) : (dbl r).testBit i = (decide (i < 16) && decide (1 ≤ i) && r.testBit (i - 1)) := by
  unfold dbl
  rw [show (65536 : Nat) = 2 ^ 16 from rfl, Nat.testBit_mod_two_pow, show 2 * r = 2 ^ 1 * r from by omega, Nat.testBit_two_pow_mul, Bool.and_assoc]
theorem dbl_xor (a b : Nat) : dbl (a ^^^ b) = dbl a ^^^ dbl b := by
  apply Nat.eq_of_testBit_eq
  intro i
  rw [Nat.testBit_xor, dbl_bit, dbl_bit, dbl_bit, Nat.testBit_xor]
  cases decide (i < 16) <;> cases decide (1 ≤ i) <;> simp
theorem bst_xor6 (r y : Nat) : bst6 (r ^^^ y) = rbit6 r (y.testBit 15) ^^^ dbl y := by
  unfold bst6 rbit6
  rw [Nat.testBit_xor, dbl_xor]
  cases r.testBit 15 <;> cases y.testBit 15 <;> simp [Nat.xor_assoc, Nat.xor_comm (dbl y) P16]
theorem itb_xor6 : ∀ (n r y : Nat), itb6 n (r ^^^ y) = itr6 n r y ^^^ dbls n y
  | 0, r, y => rfl
  | n + 1, r, y => by
    rw [itb6, itr6, dbls, bst_xor6, itb_xor6 n]
theorem dbls_bit : ∀ (n y i : Nat), (dbls n y).testBit i = (if n = 0 then y.testBit i else decide (i < 16) && decide (n ≤ i) && y.testBit (i - n))
  | 0, y, i => rfl
  | n + 1, y, i => by
    rw [dbls, dbls_bit n (dbl y) i, if_neg (show ¬ (n + 1 = 0) by omega)]
    by_cases h0 : n = 0
    · subst h0
      rw [if_pos rfl, dbl_bit]
    · rw [if_neg h0, dbl_bit]
      by_cases h1 : i < 16 <;> by_cases h2 : n + 1 ≤ i
      · rw [show i - n - 1 = i - (n + 1) from by omega]
        simp [h1, h2, show n ≤ i from by omega, show i - n < 16 from by omega, show 1 ≤ i - n from by omega]
      · by_cases h3 : n ≤ i
        · simp [h1, h2, h3, show ¬ 1 ≤ i - n from by omega]
        · simp [h2, h3]
      · simp [h1]
      · simp [h1]
theorem stp_eq6 (s x : Nat) (hx : x < 256) : stp6 s x = itr6 8 s (256 * x) := by
  unfold stp6
  rw [itb_xor6]
  have : dbls 8 (256 * x) = 0 := by
    apply Nat.eq_of_testBit_eq
    intro i
    rw [dbls_bit, if_neg (by omega), Nat.zero_testBit]
    by_cases h : i < 16 <;> by_cases h2 : 8 ≤ i
    · rw [show (256 : Nat) = 2 ^ 8 from rfl, Nat.testBit_two_pow_mul]
      by_cases h3 : 8 ≤ i - 8
      · omega
      · simp [h3]
    · simp [h2]
    · simp [h]
    · simp [h]
  rw [this, Nat.xor_zero]
theorem bit_at (x j : Nat) (hj : j < 8) : (dbls j (256 * x)).testBit 15 = x.testBit (7 - j) := by
  rw [dbls_bit]
  split
  · rename_i h
    subst h
    rw [show (256 : Nat) = 2 ^ 8 from rfl, Nat.testBit_two_pow_mul]
    simp
  · rw [show (256 : Nat) = 2 ^ 8 from rfl, Nat.testBit_two_pow_mul]
    simp [show j ≤ 15 from by omega, show 8 ≤ 15 - j from by omega, show 15 - j - 8 = 7 - j from by omega]
theorem xor_lt16 {a b : Nat} (h : a < 65536) (h' : b < 65536) : a ^^^ b < 65536 := Nat.xor_lt_two_pow (n := 16) h h'
theorem dbl_lt (r : Nat) : dbl r < 65536 := Nat.mod_lt _ (by decide)
theorem bst6_lt (r : Nat) : bst6 r < 65536 := by
  unfold bst6
  split
  · exact xor_lt16 (dbl_lt r) (by decide)
  · exact dbl_lt r
theorem itb6_lt : ∀ (n r : Nat), r < 65536 → itb6 n r < 65536
  | 0, _, h => h
  | n + 1, r, _ => itb6_lt n _ (bst6_lt r)
theorem stp6_lt (s x : Nat) (h : s < 65536) (hx : x < 256) : stp6 s x < 65536 := itb6_lt 8 _ (xor_lt16 h (by omega))
theorem sum6_lt : ∀ (l : List Nat) (s : Nat), s < 65536 → (∀ x ∈ l, x < 256) → sum6 s l < 65536
  | [], _, h, _ => h
  | x :: l, s, h, hl => sum6_lt l _ (stp6_lt s x h (hl x (by simp))) (fun y hy => hl y (by simp [hy]))
theorem top16 (r : Nat) (h : r < 65536) : r.testBit 15 = decide (32768 ≤ r) := by
  rw [Nat.testBit_eq_decide_div_mod_eq]
  congr 1
  apply propext
  omega
theorem bits_xor16 (a b : Nat) (ha : a < 65536) (hb : b < 65536) : bits .xor .u16 a b = ((a ^^^ b : Nat) : Int) := by
  have ha' : a % 65536 = a := Nat.mod_eq_of_lt ha
  have hb' : b % 65536 = b := Nat.mod_eq_of_lt hb
  have hl := xor_lt16 ha hb
  have hk : IntKind.u16.bits = 16 := rfl
  simp only [bits, hk, BitVec.ofInt_natCast, BitVec.toNat_xor, BitVec.toNat_ofNat]
  rw [show (2 : Nat) ^ 16 = 65536 from rfl, ha', hb']
  simp [IntKind.wrap, IntKind.bits, IntKind.signed]
  omega
theorem bits_and16 (a b : Nat) (ha : a < 65536) (hb : b < 65536) : bits .and .u16 a b = ((a &&& b : Nat) : Int) := by
  have ha' : a % 65536 = a := Nat.mod_eq_of_lt ha
  have hb' : b % 65536 = b := Nat.mod_eq_of_lt hb
  have hl : a &&& b < 65536 := Nat.lt_of_le_of_lt Nat.and_le_left ha
  have hk : IntKind.u16.bits = 16 := rfl
  simp only [bits, hk, BitVec.ofInt_natCast, BitVec.toNat_and, BitVec.toNat_ofNat]
  rw [show (2 : Nat) ^ 16 = 65536 from rfl, ha', hb']
  simp [IntKind.wrap, IntKind.bits, IntKind.signed]
  omega
theorem and_top (r : Nat) (h : r < 65536) : (r &&& 32768 = 0) ↔ r.testBit 15 = false := by
  constructor
  · intro e
    have := congrArg (fun z => z.testBit 15) e
    simp only [Nat.testBit_and, Nat.zero_testBit] at this
    have h2 : (32768 : Nat).testBit 15 = true := by decide
    rw [h2, Bool.and_true] at this
    exact this
  · intro e
    apply Nat.eq_of_testBit_eq
    intro i
    rw [Nat.testBit_and, Nat.zero_testBit]
    by_cases hi : i = 15
    · subst hi; simp [e]
    · have : (32768 : Nat).testBit i = false := by
        rw [show (32768 : Nat) = 2 ^ 15 from rfl, Nat.testBit_two_pow]
        simp
        omega
      simp [this]
end Go.Proofs.YtgnagbbdnlmgeaaGreat.C6
end
section
namespace Go.Proofs.YtgnagbbdnlmgeaaGreat.Oc
open Go Go.RowKit Ba
def ints (l : List Nat) : List Int := l.map Int.ofNat
theorem ints_length (l : List Nat) : (ints l).length = l.length := by simp [ints]
theorem ints_get {l : List Nat} {i x : Nat} (h : l[i]? = some x) : (ints l)[i]? = some (x : Int) := by simp [ints, h]
theorem ints_take (l : List Nat) (n : Nat) : ints (l.take n) = (ints l).take n := by simp [ints, List.map_take]
theorem ints_inj {a b : List Nat} : ints a = ints b ↔ a = b := by
  constructor
  · intro h
    have := congrArg (List.map Int.toNat) h
    simpa [ints, Function.comp_def] using this
  · rintro rfl; rfl
def oct (w : Nat) : List Nat := (List.range 8).map fun i => w / 256 ^ i % 256
def octs (l : List Nat) : List Nat := l.flatMap oct
theorem oct_lt (w : Nat) : ∀ x ∈ oct w, x < 256 := by
  intro x hx
  simp only [oct, List.mem_map] at hx
  obtain ⟨i, _, rfl⟩ := hx
  exact Nat.mod_lt _ (by decide)
theorem octs_lt (l : List Nat) : ∀ x ∈ octs l, x < 256 := by
  intro x hx
  simp only [octs, List.mem_flatMap] at hx
  obtain ⟨w, _, h⟩ := hx
  exact oct_lt w x h
theorem octs_length (l : List Nat) : (octs l).length = 8 * l.length := by
  induction l with
  | nil => rfl
  | cons w l ih =>
    have : octs (w :: l) = oct w ++ octs l := rfl
    rw [this, List.length_append, ih]
    simp [oct]
    omega
theorem ints_append (a b : List Nat) : ints (a ++ b) = ints a ++ ints b := by simp [ints]
end Go.Proofs.YtgnagbbdnlmgeaaGreat.Oc
end
section
set_option maxHeartbeats 1000000
set_option maxRecDepth 100000
namespace Go.Proofs.YtgnagbbdnlmgeaaGreat.Cc
open Go Go.RowKit
open Ob Ba Cr C6 Oc
theorem step16_ (s x : Nat) (hs : s < 65536) (hx : x < 256) (w : World) :
    Calls Tryz.prog 183 #[.int .u16 s, .int .u8 x] w fun e w' => e = .returned (.int .u16 (stp6 s x)) ∧ w = w' := by
  have hx0 : Go.bits .xor .u16 (s : Int) ((x : Int) * 256) = ((s ^^^ 256 * x : Nat) : Int) := by
    have := bits_xor16 s (256 * x) hs (by omega)
    rw [← this]
    congr 1
    omega
  have hr0 : s ^^^ 256 * x < 65536 := xor_lt16 hs (by omega)
  have HX := Lib.hid hx0
  go_enter Tryz.func183, Tryz.ntmps183
  go_wp2_with fail
  have HS : Hid (itb6 8 (s ^^^ 256 * x) = stp6 s x) := rfl
  clear hx0
  generalize s ^^^ 256 * x = r0 at *
  go_loop [10, 0] (fun c9 c0 => ∃ (i r : Nat), i ≤ 8 ∧ c9 = .int .i64 i ∧ c0 = .int .u16 r ∧ r < 65536 ∧ Hid (itb6 (8 - i) r = stp6 s x)) (fun c9 _ => 8 - (intOf c9).toNat)
  case atStart => exact ⟨0, r0, by omega, rfl, rfl, hr0, HS⟩
  case round =>
    obtain ⟨i, r, hi, rfl, rfl, hr, HR⟩ := hrel
    by_cases hlt : i < 8
    · have hn : itb6 (8 - (i + 1)) (bst6 r) = stp6 s x := by
        have := HR.out
        rw [show 8 - i = (8 - (i + 1)) + 1 from by omega, itb6] at this
        exact this
      have HN := Lib.hid hn
      have hl := bst6_lt r
      have hd := dbl_lt r
      have e0 : IntKind.u16.wrap ((r : Int) * 2) = ((dbl r : Nat) : Int) := by unfold dbl; simp [IntKind.wrap, IntKind.bits, IntKind.signed]; omega
      clear hn
      cases hp : r.testBit 15 with
      | true =>
        have e1 : (Go.bits .and .u16 (r : Int) 32768 != 0) = true := by
          rw [show (32768 : Int) = ((32768 : Nat) : Int) from rfl, bits_and16 r 32768 hr (by decide), bne_iff_ne]
          intro e
          have := (and_top r hr).1 (by omega)
          rw [hp] at this
          cases this
        have e3 : Go.bits .xor .u16 ((dbl r : Nat) : Int) 4129 = ((bst6 r : Nat) : Int) := by
          have := bits_xor16 (dbl r) P16 hd (by decide)
          unfold bst6
          rw [if_pos hp]
          exact this
        clear hp
        generalize bst6 r = z at *
        generalize dbl r = y at *
        go_wp2
        go_round
        case rel => exact ⟨i + 1, z, by omega, by go_num, rfl, hl, HN⟩
        case measure => simp [intOf]; omega
      | false =>
        have e1 : (Go.bits .and .u16 (r : Int) 32768 != 0) = false := by
          rw [show (32768 : Int) = ((32768 : Nat) : Int) from rfl, bits_and16 r 32768 hr (by decide), (and_top r hr).2 hp]
          rfl
        have e3 : bst6 r = dbl r := by unfold bst6; rw [if_neg (by simp [hp])]
        rw [e3] at HN hl
        clear hp e3
        generalize dbl r = y at *
        go_wp2
        go_round
        case rel => exact ⟨i + 1, y, by omega, by go_num, rfl, hl, HN⟩
        case measure => simp [intOf]; omega
    · obtain rfl : i = 8 := by omega
      go_wp2
      go_ret
      have := HR.out
      simp only [Nat.sub_self, itb6] at this
      exact ⟨by rw [← this]; rfl, rfl⟩
theorem octs_snoc (l : List Nat) (x : Nat) : octs (l ++ [x]) = octs l ++ oct x := by simp [octs]
theorem oct_len (x : Nat) : (oct x).length = 8 := by simp [oct]
theorem oct_at (x j : Nat) (hj : j < 8) : (oct x)[j]? = some (x / 256 ^ j % 256) := by simp [oct, hj]
theorem shr_at (x j : Nat) (hj : j < 8) : (x : Int) / 2 ^ (8 * j) % 256 = ((x / 256 ^ j % 256 : Nat) : Int) := by
  have : ∀ i < 8, (2 : Int) ^ (8 * i) = ((256 ^ i : Nat) : Int) := by decide
  rw [this j hj]
  norm_cast
set_option maxHeartbeats 2000000 in
theorem octets_ {w : World} {A : Option Addr} {l : List Nat} (h : Rk .u64 w A (ints l)) (hl : ∀ x ∈ l, x < 18446744073709551616) (c : Nat) (hn : l.length ≤ 1000000000) :
    Calls Tryz.prog 185 #[.slice A l.length c] w fun e w' => ∃ v, e = .returned v ∧ w'.ownsRow w.heap.size 5 1 v (8 * l.length) (ivs .u8 (ints (octs l))) ∧ Below w.heap.size w w' := by
  have H := Lib.hid h
  have HL := Lib.hid hl
  obtain ⟨n, hnn⟩ : ∃ n, n = l.length := ⟨_, rfl⟩
  rw [← hnn]
  rw [← hnn] at hn
  have HN := Lib.hid hnn
  clear h hl hnn
  obtain ⟨i0, hinf, hz0, hz1, hz2⟩ := info_parts (show (Tryz.prog.info? 5).map (fun i => (i.zero, i.size, i.bytes)) = some (some (.int .u8 0), 1, 1) by kernel_rfl)
  go_enter Tryz.func185, Tryz.ntmps185
  go_wp2_with fail
  go_loopw [9, 3] (fun c9 c3 wr => ∃ i : Nat, i ≤ n ∧ c9 = .int .i64 i ∧ Hid (Below w.heap.size w wr ∧ wr.ownsRow w.heap.size 5 1 c3 (8 * i) (ivs .u8 (ints (octs (l.take i)))))) (fun c9 _ _ => n - (intOf c9).toNat)
  case atStart => exact ⟨0, Nat.zero_le _, rfl, Below.refl _ _, own_nil0 _ _ _ _⟩
  case round =>
    obtain ⟨i, hi, rfl, HR⟩ := hrel
    by_cases hlt : i < n
    · obtain ⟨x, hx⟩ := some_at (l := l) (i := i) (by rw [← HN.out]; exact hlt)
      obtain ⟨a, rfl, -, ha⟩ := (H.out.below HR.out.1) i x (ints_get hx)
      have HX := Lib.hid (And.intro hx (HL.out x (List.mem_of_getElem? hx)))
      clear hx
      generalize wr = wA at *
      go_wp2_with fail
      go_loopw [13, 3] (fun c13 c3 wq => ∃ j : Nat, j ≤ 8 ∧ c13 = .int .i64 j ∧ Hid (Below w.heap.size w wq ∧ wq.ownsRow w.heap.size 5 1 c3 (8 * i + j) (ivs .u8 (ints (octs (l.take i) ++ (oct x).take j))))) (fun c13 _ _ => 8 - (intOf c13).toNat)
      case atStart => exact ⟨0, Nat.zero_le _, rfl, HR.out.1, by simpa using HR.out.2⟩
      case round =>
        obtain ⟨j, hj, rfl, HQ⟩ := hrel
        by_cases hl8 : j < 8
        · have hv := shr_at x j hl8
          have HB := Lib.hid (oct_at x j hl8)
          have hlt2 : x / 256 ^ j % 256 < 256 := Nat.mod_lt _ (by decide)
          generalize x / 256 ^ j % 256 = y at *
          have HOW := Lib.hid (fun o => own_kp (W' := wr.alloc o) HQ.out.2 (fun k _ hk => Below.heap_alloc _ _ k hk))
          go_wp2_with (at_builtin; refine wpList_append_own _ rfl (.tmp 16) (.tmp 22) 59 rfl w.heap.size 5 i0 (.int .u8 0) 1 1 Tryz.underlying59 hinf hz0 hz1 hz2 rfl (by decide) _ (8 * i + j) _ rfl (HOW.out _) ⟨wr.heap.size, 0, none⟩ 1 1 [.int .u8 y] rfl rfl (one_at _ _ _) (by intro u hu; simp at hu; subst hu; rfl) (by unfold maxLen; omega) (by omega) (by have h1 := HQ.out.1.size; simp; omega) ?_; intro v' w7 hown' hgrow _; (have HO := Lib.hid hown'); (have HG := Lib.hid hgrow); clear hown' hgrow)
          have hx1 : Below w.heap.size w w7 := bl_grown (bl_alloc HQ.out.1 _) HG.out (own_lo HQ.out.2)
          have hx2 : w7.ownsRow w.heap.size 5 1 v' (8 * i + (j + 1)) (ivs .u8 (ints (octs (l.take i) ++ (oct x).take (j + 1)))) := by
            rw [take_next HB.out, ← List.append_assoc, ints_append, ivs_append]
            exact HO.out
          have HZ := Lib.hid (And.intro hx1 hx2)
          clear hx1 hx2
          go_roundw
          case rel => exact ⟨j + 1, by omega, by go_num, HZ.out⟩
          case measure => simp [intOf]; omega
        · obtain rfl : j = 8 := by omega
          have hz : Below w.heap.size w wr ∧ wr.ownsRow w.heap.size 5 1 u3 (8 * (i + 1)) (ivs .u8 (ints (octs (l.take (i + 1))))) := by
            refine ⟨HQ.out.1, ?_⟩
            have := HQ.out.2
            rw [List.take_of_length_le (l := oct x) (by rw [oct_len]; omega), ← octs_snoc, ← take_next HX.out.1] at this
            exact this
          have HZ := Lib.hid hz
          clear hz
          go_wp2_with fail
          go_roundw
          case rel => exact ⟨i + 1, by omega, by go_num, HZ.out⟩
          case measure => simp [intOf]; omega
    · obtain rfl : i = n := by omega
      go_wp2_with fail
      go_ret
      have h2 := HR.out.2
      rw [List.take_of_length_le (by rw [← HN.out]; omega)] at h2
      exact ⟨_, rfl, h2, HR.out.1⟩
end Go.Proofs.YtgnagbbdnlmgeaaGreat.Cc
end
section
set_option maxHeartbeats 2000000
set_option maxRecDepth 100000
namespace Go.Proofs.YtgnagbbdnlmgeaaGreat.Pk
open Go Go.RowKit
open Ob Ba Oc
structure FOk (wd v : Nat) : Prop where
  lo : 1 ≤ wd
  hi : wd ≤ 64
  lt : v < 2 ^ wd
theorem may_ (wd v : Nat) (h : FOk wd v) (w : World) : Calls Tryz.prog 182 #[.agg #[.int .i64 wd, .int .u64 v]] w fun e w' => e = .returned (.bool true) ∧ Below w.heap.size w w' := by
  have hu := Tryz.underlying215
  obtain ⟨h1, h2, h3⟩ := h
  by_cases hw : wd = 64
  · subst hw
    go_enter Tryz.func182, Tryz.ntmps182
    go_wp2
    go_ret
    exact ⟨rfl, bl_alloc (Below.refl _ _) _⟩
  · have e0 : ((wd : Int) == 64) = false := beq_eq_false_iff_ne.2 (by omega)
    have e1 : (v : Int) / 2 ^ wd = 0 := by
      have : ((v / 2 ^ wd : Nat) : Int) = 0 := by rw [Nat.div_eq_of_lt h3]; rfl
      rw [← this]
      norm_cast
    have hmin : min wd 64 = wd := by omega
    clear h3
    go_enter Tryz.func182, Tryz.ntmps182
    go_wp2
    go_ret
    exact ⟨rfl, bl_alloc (Below.refl _ _) _⟩
def FsAt (w : World) (A : Option Addr) (l : List (Nat × Nat)) : Prop := ∀ (i : Nat) p, l[i]? = some p → FOk p.1 p.2 ∧ ∃ q off, A = some ⟨q, off, none⟩ ∧ q < w.heap.size ∧ w.cell? ⟨q, off + i * 2, none⟩ = some (.int .i64 p.1) ∧ w.cell? ⟨q, off + i * 2 + 1, none⟩ = some (.int .u64 p.2)
theorem FsAt.below {w w' : World} {A : Option Addr} {l : List (Nat × Nat)} (h : FsAt w A l) (hb : Below w.heap.size w w') : FsAt w' A l := by
  intro i p hi
  obtain ⟨h0, q, off, rfl, h1, h2, h3⟩ := h i p hi
  exact ⟨h0, q, off, rfl, Nat.lt_of_lt_of_le h1 hb.size, (hb.cell (p := ⟨q, _, none⟩) h1).trans h2, (hb.cell (p := ⟨q, _, none⟩) h1).trans h3⟩
def wid (l : List (Nat × Nat)) : Nat := (l.map (·.1)).sum
def pv : List (Nat × Nat) → Nat
  | [] => 0
  | p :: r => p.2 + 2 ^ p.1 * pv r
theorem wid_snoc (l : List (Nat × Nat)) (p : Nat × Nat) : wid (l ++ [p]) = wid l + p.1 := by simp [wid]
theorem pv_snoc (l : List (Nat × Nat)) (p : Nat × Nat) : pv (l ++ [p]) = pv l + 2 ^ wid l * p.2 := by
  induction l with
  | nil => simp [pv, wid]
  | cons q l ih =>
    simp only [List.cons_append, pv, ih]
    have : wid (q :: l) = q.1 + wid l := by simp [wid]
    rw [this, Nat.pow_add, Nat.mul_add, ← Nat.mul_assoc, Nat.add_assoc]
theorem pv_lt (l : List (Nat × Nat)) (h : ∀ p ∈ l, FOk p.1 p.2) : pv l < 2 ^ wid l := by
  induction l with
  | nil => simp [pv, wid]
  | cons q l ih =>
    have h1 := (h q (by simp)).lt
    have h2 := ih (fun p hp => h p (by simp [hp]))
    have : wid (q :: l) = q.1 + wid l := by simp [wid]
    rw [this, Nat.pow_add, pv]
    have : 2 ^ q.1 * (pv l + 1) ≤ 2 ^ q.1 * 2 ^ wid l := Nat.mul_le_mul_left _ h2
    rw [Nat.mul_add] at this
    omega
theorem or_add (a v n : Nat) (ha : a < 2 ^ n) (h : a + 2 ^ n * v < 18446744073709551616) : Go.bits .or .u64 (a : Int) ((2 ^ n * v : Nat) : Int) = ((a + 2 ^ n * v : Nat) : Int) := by
  have hv : 2 ^ n * v < 18446744073709551616 := by omega
  have ha' : a < 18446744073709551616 := by omega
  have hor : a ||| 2 ^ n * v = a + 2 ^ n * v := by
    rw [Nat.or_comm, Nat.add_comm]
    exact (Nat.two_pow_add_eq_or_of_lt ha v).symm
  have hk : IntKind.u64.bits = 64 := rfl
  simp only [Go.bits, hk, BitVec.ofInt_natCast, BitVec.toNat_or, BitVec.toNat_ofNat]
  rw [show (2 : Nat) ^ 64 = 18446744073709551616 from rfl, Nat.mod_eq_of_lt ha', Nat.mod_eq_of_lt hv, hor]
  exact wu64 _ (by omega) (by omega)
theorem pack_ {w : World} {A : Option Addr} {l : List (Nat × Nat)} (h : FsAt w A l) (c : Nat) (hw : wid l ≤ 64) (hn : l.length ≤ 64) :
    Calls Tryz.prog 150 #[.slice A l.length c] w fun e w' => e = .returned (.tuple #[.int .u64 (pv l : Nat), .bool true]) ∧ Below w.heap.size w w' := by
  have hu := Tryz.underlying215
  have H := Lib.hid h
  have HO : Hid (∀ p ∈ l, FOk p.1 p.2) := by
    intro p hp
    obtain ⟨i, hi, hpi⟩ := List.getElem_of_mem hp
    exact (h i p (by rw [List.getElem?_eq_getElem hi, hpi])).1
  obtain ⟨n, hnn⟩ : ∃ n, n = l.length := ⟨_, rfl⟩
  rw [← hnn]
  rw [← hnn] at hn
  have HN := Lib.hid hnn
  have HW := Lib.hid hw
  clear h hnn hw
  go_enter Tryz.func150, Tryz.ntmps150
  go_wp2_with fail
  go_loopw [10, 4, 5] (fun c10 c4 c5 wr => ∃ i x t : Nat, i ≤ n ∧ c10 = .int .i64 i ∧ c4 = .int .u64 x ∧ c5 = .int .i64 t ∧ t ≤ 64 ∧ Hid (x = pv (l.take i) ∧ t = wid (l.take i) ∧ Below w.heap.size w wr)) (fun c10 _ _ _ => n - (intOf c10).toNat)
  case atStart => exact ⟨0, 0, 0, Nat.zero_le _, rfl, rfl, rfl, by omega, rfl, rfl, Below.refl _ _⟩
  case round =>
    obtain ⟨i, x, t, hi, rfl, rfl, rfl, ht, HR⟩ := hrel
    by_cases hlt : i < n
    · obtain ⟨⟨wd, v⟩, hp⟩ := some_at (l := l) (i := i) (by rw [← HN.out]; exact hlt)
      obtain ⟨hok, q, off, rfl, hq, e1, e2⟩ := (H.out.below HR.out.2.2) i _ hp
      have hok' := hok
      obtain ⟨h1, h2, h3⟩ := hok
      have hle : t + wd ≤ 64 := by
        have h4 : wid (l.take (i + 1)) ≤ wid l := by
          have : wid l = wid (l.take (i + 1)) + wid (l.drop (i + 1)) := by
            unfold wid
            rw [← List.sum_append, ← List.map_append, List.take_append_drop]
          omega
        rw [take_next hp, wid_snoc, ← HR.out.2.1] at h4
        have := HW.out
        simp only at h4
        omega
      have hx : x < 2 ^ t := by
        have := pv_lt (l.take i) (fun p hp => HO.out p (List.mem_of_mem_take hp))
        rw [← HR.out.1, ← HR.out.2.1] at this
        exact this
      simp only at e1 e2
      have hlim : 2 ^ t * v < 2 ^ 64 := by
        have h5 : 2 ^ t * v < 2 ^ t * 2 ^ wd := Nat.mul_lt_mul_of_pos_left h3 (Nat.two_pow_pos t)
        rw [← Nat.pow_add] at h5
        exact Nat.lt_of_lt_of_le h5 (Nat.pow_le_pow_right (by omega) hle)
      have hsum : x + 2 ^ t * v < 2 ^ 64 := by
        have h5 : 2 ^ t * (v + 1) ≤ 2 ^ t * 2 ^ wd := Nat.mul_le_mul_left _ h3
        rw [← Nat.pow_add] at h5
        have h6 : 2 ^ (t + wd) ≤ 2 ^ 64 := Nat.pow_le_pow_right (by omega) hle
        rw [Nat.mul_add] at h5
        omega
      have hwr : IntKind.u64.wrap ((v : Int) * 2 ^ t) = ((2 ^ t * v : Nat) : Int) := by
        have e : (v : Int) * 2 ^ t = ((2 ^ t * v : Nat) : Int) := by rw [Nat.mul_comm]; norm_cast
        rw [e]
        exact wu64 _ (by omega) (by have : (2 : Nat) ^ 64 = 18446744073709551616 := rfl; omega)
      have hor := or_add x v t hx hsum
      have HZ : Hid (x + 2 ^ t * v = pv (l.take (i + 1)) ∧ t + wd = wid (l.take (i + 1))) := by
        refine ⟨?_, ?_⟩
        · rw [take_next hp, pv_snoc, ← HR.out.1, ← HR.out.2.1]
        · rw [take_next hp, wid_snoc, ← HR.out.2.1]
      have HK := Lib.hid hok'
      have HWR := Lib.hid (hwr.symm ▸ hor)
      clear hp hok' h3 hq hx hlim hsum hwr hor
      go_wp2_with (go_at_call 182; refine (may_ wd v HK.out _).mono ?_; rintro e w5 ⟨rfl, hb⟩; (obtain ⟨hc, hf⟩ := bcell hb); (have HB := Lib.hid hb); clear hb)
      go_roundw
      case rel => exact ⟨i + 1, _, t + wd, by omega, by go_num, congrArg (Value.int IntKind.u64) HWR.out, by go_num, hle, HZ.out.1, HZ.out.2, bl_then (bl_alloc HR.out.2.2 _) HB.out⟩
      case measure => simp [intOf]; omega
    · obtain rfl : i = n := by omega
      go_wp2_with fail
      go_ret2
      have e : l.take i = l := List.take_of_length_le (by rw [← HN.out]; omega)
      have h1 := HR.out.1
      rw [e] at h1
      exact ⟨by rw [← h1]; rfl, HR.out.2.2⟩
end Go.Proofs.YtgnagbbdnlmgeaaGreat.Pk
end
section
set_option maxHeartbeats 2000000
set_option maxRecDepth 100000
namespace Go.Proofs.YtgnagbbdnlmgeaaGreat.Pk
open Go Go.RowKit
open Ob Ba Oc
def by_ (b : List Nat) (i k : Nat) : Nat := b.getD (8 * i + k) 0
def wd8 (b : List Nat) (i : Nat) : Nat := by_ b i 0 + 256 * by_ b i 1 + 65536 * by_ b i 2 + 16777216 * by_ b i 3 + 4294967296 * by_ b i 4 + 1099511627776 * by_ b i 5 + 281474976710656 * by_ b i 6 + 72057594037927936 * by_ b i 7
def wds (b : List Nat) : List Nat := (List.range ((b.length + 7) / 8)).map (wd8 b)
theorem wds_len (b : List Nat) : (wds b).length = (b.length + 7) / 8 := by simp [wds]
theorem by_lt {b : List Nat} (h : ∀ x ∈ b, x < 256) (i k : Nat) : by_ b i k < 256 := by
  unfold by_
  rw [List.getD_eq_getElem?_getD]
  cases hb : b[8 * i + k]? with
  | none => simp
  | some x => exact h x (List.mem_of_getElem? hb)
theorem by_take (b : List Nat) (n i k : Nat) : by_ (b.take n) i k = if 8 * i + k < n then by_ b i k else 0 := by
  unfold by_
  rw [List.getD_eq_getElem?_getD, List.getD_eq_getElem?_getD, List.getElem?_take]
  split <;> simp
theorem by_take2 (b : List Nat) (q n k : Nat) : by_ (b.take (8 * q + n)) q k = if k < n then by_ b q k else 0 := by
  rw [by_take]
  by_cases h : k < n
  · rw [if_pos (by omega), if_pos h]
  · rw [if_neg (by omega), if_neg h]
theorem wd8_lt {b : List Nat} (h : ∀ x ∈ b, x < 256) (i : Nat) : wd8 b i < 18446744073709551616 := by
  have h0 := by_lt h i 0
  have h1 := by_lt h i 1
  have h2 := by_lt h i 2
  have h3 := by_lt h i 3
  have h4 := by_lt h i 4
  have h5 := by_lt h i 5
  have h6 := by_lt h i 6
  have h7 := by_lt h i 7
  unfold wd8
  omega
theorem wd8_old (b : List Nat) (n i m : Nat) (h : 8 * i + 8 ≤ n) (h2 : n ≤ m) : wd8 (b.take m) i = wd8 (b.take n) i := by
  unfold wd8
  simp only [by_take]
  rw [if_pos (by omega), if_pos (by omega), if_pos (by omega), if_pos (by omega), if_pos (by omega), if_pos (by omega), if_pos (by omega), if_pos (by omega), if_pos (by omega), if_pos (by omega), if_pos (by omega), if_pos (by omega), if_pos (by omega), if_pos (by omega), if_pos (by omega), if_pos (by omega)]
theorem wd8_new {b : List Nat} (h : ∀ x ∈ b, x < 256) (q r x : Nat) (hr : r < 8) (hx : b[8 * q + r]? = some x) :
    wd8 (b.take (8 * q + r + 1)) q = wd8 (b.take (8 * q + r)) q + 2 ^ (8 * r) * x ∧ wd8 (b.take (8 * q + r)) q < 2 ^ (8 * r) := by
  have hb : by_ b q r = x := by unfold by_; rw [List.getD_eq_getElem?_getD, hx]; rfl
  have h0 := by_lt h q 0
  have h1 := by_lt h q 1
  have h2 := by_lt h q 2
  have h3 := by_lt h q 3
  have h4 := by_lt h q 4
  have h5 := by_lt h q 5
  have h6 := by_lt h q 6
  have h7 := by_lt h q 7
  unfold wd8
  rw [Nat.add_assoc (8 * q) r 1]
  simp only [by_take2]
  match r, hr with
  | 0, _ => rw [← hb]; simp
  | 1, _ => rw [← hb]; simp; omega
  | 2, _ => rw [← hb]; simp; omega
  | 3, _ => rw [← hb]; simp; omega
  | 4, _ => rw [← hb]; simp; omega
  | 5, _ => rw [← hb]; simp; omega
  | 6, _ => rw [← hb]; simp; omega
  | 7, _ => rw [← hb]; simp; omega
theorem wds_get (b : List Nat) (i : Nat) : (wds b)[i]? = if i < (b.length + 7) / 8 then some (wd8 b i) else none := by
  unfold wds
  rw [List.getElem?_map]
  by_cases h : i < (b.length + 7) / 8
  · rw [List.getElem?_range h, if_pos h]; rfl
  · rw [if_neg h, List.getElem?_eq_none (by simp; omega)]; rfl
theorem wds_first {b : List Nat} (h : ∀ x ∈ b, x < 256) (q x : Nat) (hx : b[8 * q]? = some x) : wds (b.take (8 * q + 1)) = wds (b.take (8 * q)) ++ [x] := by
  obtain ⟨hi, _⟩ := List.getElem?_eq_some_iff.1 hx
  have hn := wd8_new h q 0 x (by omega) hx
  apply List.ext_getElem?
  intro i
  rw [wds_get, List.length_take, Nat.min_eq_left (by omega)]
  by_cases hq : i < q
  · rw [if_pos (by omega), List.getElem?_append_left (by rw [wds_len, List.length_take]; omega), wds_get, List.length_take, Nat.min_eq_left (by omega), if_pos (by omega), wd8_old b (8 * q) i _ (by omega) (by omega)]
  · rw [List.getElem?_append_right (by rw [wds_len, List.length_take]; omega), wds_len, List.length_take, Nat.min_eq_left (by omega)]
    by_cases hqe : i = q
    · subst hqe
      rw [if_pos (by omega), show i - (8 * i + 7) / 8 = 0 from by omega]
      have h1 := hn.1
      have h2 := hn.2
      simp only [Nat.add_zero] at h1 h2
      rw [h1]
      simp only [Nat.mul_zero, Nat.pow_zero, Nat.one_mul] at h2 ⊢
      rw [show wd8 (b.take (8 * i)) i = 0 from by omega]
      simp
    · rw [if_neg (by omega), List.getElem?_eq_none (by simp; omega)]
theorem wds_next {b : List Nat} (h : ∀ x ∈ b, x < 256) (q r x : Nat) (hr : r < 8) (h0 : 0 < r) (hx : b[8 * q + r]? = some x) : wds (b.take (8 * q + r + 1)) = (wds (b.take (8 * q + r))).set q (wd8 (b.take (8 * q + r)) q + 2 ^ (8 * r) * x) := by
  obtain ⟨hi, _⟩ := List.getElem?_eq_some_iff.1 hx
  have hn := wd8_new h q r x hr hx
  apply List.ext_getElem?
  intro i
  rw [List.getElem?_set, wds_get, wds_get, wds_len, List.length_take, List.length_take, Nat.min_eq_left (by omega), Nat.min_eq_left (by omega)]
  by_cases hq : q = i
  · subst hq
    rw [if_pos (by omega), if_pos rfl, if_pos (by omega), hn.1]
  · rw [if_neg hq]
    by_cases hq2 : i < q
    · rw [if_pos (by omega), if_pos (by omega), wd8_old b (8 * q + r) i _ (by omega) (by omega)]
    · rw [if_neg (by omega), if_neg (by omega)]
end Go.Proofs.YtgnagbbdnlmgeaaGreat.Pk
end
