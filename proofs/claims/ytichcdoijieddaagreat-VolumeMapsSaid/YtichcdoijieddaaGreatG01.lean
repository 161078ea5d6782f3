/- Parts of the proof, one behind the other: Mp, Ob, Wl, Ba, Cr, Cc. -/
import Derived.Carry
import Derived.ChangeMaps5
import Derived.Maps.RangeRun
import Derived.Maps.OwnOps
import Derived.Maps.RangeWalk
import Derived.Maps.OwnSet
import Derived.Below
import Derived.Deep.Draws
import Derived.Deep.AppendLies
import Derived.OwnWalk
import Derived.ArgAppend
import Derived.Laws.MakeOwn
import Derived.Laws.Rows
import Derived.IntWalk
import Derived.Lib.Hide
import Derived.WalkKit
import Derived.Laws.BitsLemmas
import Derived.Test.YtichcdoijieddaaGreatProg
import Derived.LoopTactic
import Derived.WalkSpells

/- Map blocks written out: a map's block as a list of keys, values and stamps, and what look-up, store, delete and clear do to it. Plain laws of the model's runs; no program is named. -/
section
set_option linter.unusedVariables false
set_option linter.unusedSimpArgs false
set_option linter.unusedSectionVars false
namespace Go.Proofs.YtichcdoijieddaaGreat.Mp
open Go
open Go.ChangeMaps (setBlock)

/-- A kind of keys: how a key is a value, and that two of them are told apart. -/
structure Kk (α : Type) [DecidableEq α] where mk0 ::
  mk : α → Value
  kd : TypeDesc
  same : ∀ a b, Instr.sameNow kd (mk a) (mk b) = some (decide (a = b))
  bits : ∀ a, Instr.sameBits 10000 (mk a) (mk a) = true
  chk : ∀ (P : Program) (t : TypeId) (em : Bool) (a : α) (w : World), P.underlying t = some kd → (Instr.checkKey em 10000 t (mk a)).run P w = .ok () w

theorem run_underlying {P : Program} {t : TypeId} {d : TypeDesc} (h : P.underlying t = some d) (w : World) : (underlying t).run P w = .ok d w := by
  unfold underlying
  simp [Sem.run_bind, Sem.run, h, program, Result.andThen]

theorem run_pure {α : Type} {P : Program} (a : α) (w : World) : (pure a : Sem α).run P w = .ok a w := rfl

def kInt (k : IntKind) : Kk Int where
  mk a := .int k a
  kd := .int k
  same a b := by
    simp only [Instr.sameNow, if_true]
    exact congrArg some (by by_cases h : a = b <;> simp [h])
  bits a := by simp [Instr.sameBits]
  chk P t em a w h := by
    unfold Instr.checkKey
    simp only [Sem.run_bind, run_underlying h, Result.andThen]
    rfl

theorem bytes_beq (a b : ByteArray) : (a == b) = decide (a = b) := by
  by_cases h : a = b
  · subst h
    rw [decide_eq_true rfl]
    show (a.data == a.data) = true
    simp
  · rw [decide_eq_false h]
    show (a.data == b.data) = false
    rw [beq_eq_false_iff_ne]
    exact fun e => h (by cases a; cases b; simp_all)

def kStr : Kk ByteArray where
  mk a := .string a
  kd := .string
  same a b := by
    simp only [Instr.sameNow, bytes_beq]
  bits a := by simp [Instr.sameBits, bytes_beq]
  chk P t em a w h := by
    unfold Instr.checkKey
    simp only [Sem.run_bind, run_underlying h, Result.andThen]
    rfl

section
variable {α : Type} [DecidableEq α]

abbrev En (α : Type) := α × Value × Nat
def ent (K : Kk α) (x : En α) : MapEntry := ⟨K.mk x.1, x.2.1, x.2.2⟩
def obj (K : Kk α) (es : List (En α)) (clock : Nat) : Obj := .map (es.map (ent K)).toArray clock

theorem find_none (K : Kk α) (k : α) : ∀ (es : List (En α)) (i : Nat), (∀ x ∈ es, x.1 ≠ k) → Instr.findNow K.kd (K.mk k) (es.map (ent K)) i = some none
  | [], _, _ => rfl
  | x :: es, i, h => by
    have hx : ¬ k = x.1 := fun e => h x (by simp) e.symm
    simp only [List.map_cons, Instr.findNow, ent, K.same, hx, decide_false]
    exact find_none K k es (i + 1) (fun y hy => h y (by simp [hy]))

theorem find_some (K : Kk α) (k : α) (v : Value) (b : Nat) (post : List (En α)) : ∀ (pre : List (En α)) (i : Nat), (∀ x ∈ pre, x.1 ≠ k) →
    Instr.findNow K.kd (K.mk k) ((pre ++ (k, v, b) :: post).map (ent K)) i = some (some (i + pre.length, v))
  | [], i, _ => by simp [Instr.findNow, ent, K.same]
  | x :: pre, i, h => by
    have hx : ¬ k = x.1 := fun e => h x (by simp) e.symm
    simp only [List.cons_append, List.map_cons, Instr.findNow, ent, K.same, hx, decide_false]
    have := find_some K k v b post pre (i + 1) (fun y hy => h y (by simp [hy]))
    rw [this]
    simp only [List.length_cons]
    congr 3
    omega

theorem run_find {P : Program} {K : Kk α} {t : TypeId} {k : α} {es : List (En α)} {r : Option (Nat × Value)} (ht : P.underlying t = some K.kd) (h : Instr.findNow K.kd (K.mk k) (es.map (ent K)) 0 = some r) (w : World) :
    (Instr.findKey t (K.mk k) (es.map (ent K))).run P w = .ok r w := by
  unfold Instr.findKey
  simp only [Sem.run_bind, run_underlying ht, Result.andThen, h]
  rfl

variable {P : Program} {t kt et : TypeId} {K : Kk α} {w : World} {M clock : Nat} {es pre post : List (En α)} {k : α} {v v' : Value} {b : Nat}

theorem run_lookup_none (hm : P.underlying t = some (.map kt et)) (hk : P.underlying kt = some K.kd) (hb : w.heap[M]? = some (obj K es clock)) (hn : ∀ x ∈ es, x.1 ≠ k) {z : Value} (hz : (zeroValue et).run P w = .ok z w) :
    (Instr.lookup t (.map (some M)) (K.mk k) false).run P w = .ok z w := by
  unfold Instr.lookup
  simp only [Sem.run_bind, run_underlying hm, Result.andThen, getObj, Sem.run, run_pure, hb, obj, K.chk _ _ _ _ _ hk, run_find hk (find_none K k es 0 hn), hz]
  rfl

theorem run_lookup_some (hm : P.underlying t = some (.map kt et)) (hk : P.underlying kt = some K.kd) (hb : w.heap[M]? = some (obj K (pre ++ (k, v, b) :: post) clock)) (hn : ∀ x ∈ pre, x.1 ≠ k) :
    (Instr.lookup t (.map (some M)) (K.mk k) false).run P w = .ok v w := by
  unfold Instr.lookup
  simp only [Sem.run_bind, run_underlying hm, Result.andThen, getObj, Sem.run, run_pure, hb, obj, K.chk _ _ _ _ _ hk, run_find hk (find_some K k v b post pre 0 hn)]
  rfl

theorem run_setObj {o : Obj} (hb : w.heap[M]? = some (obj K es clock)) : (setObj M o).run P w = .ok () (setBlock w M o) := by
  simp [setObj, Sem.run, hb, setBlock, obj]

theorem run_update_new (hm : P.underlying t = some (.map kt et)) (hk : P.underlying kt = some K.kd) (hb : w.heap[M]? = some (obj K es clock)) (hn : ∀ x ∈ es, x.1 ≠ k) :
    (Instr.mapUpdate t (.map (some M)) (K.mk k) v).run P w = .ok () (setBlock w M (obj K (es ++ [(k, v, clock)]) (clock + 1))) := by
  have hb' := hb
  unfold obj at hb'
  unfold Instr.mapUpdate
  simp only [Sem.run_bind, run_underlying hm, Result.andThen, getObj, Sem.run, run_pure, hb', K.chk _ _ _ _ _ hk, run_find hk (find_none K k es 0 hn), run_setObj hb]
  congr 2
  simp [obj, ent]

theorem run_update_old (hm : P.underlying t = some (.map kt et)) (hk : P.underlying kt = some K.kd) (hb : w.heap[M]? = some (obj K (pre ++ (k, v, b) :: post) clock)) (hn : ∀ x ∈ pre, x.1 ≠ k) :
    (Instr.mapUpdate t (.map (some M)) (K.mk k) v').run P w = .ok () (setBlock w M (obj K (pre ++ (k, v', b) :: post) clock)) := by
  have hb' := hb
  unfold obj at hb'
  have hget : ((pre ++ (k, v, b) :: post).map (ent K)).toArray[0 + pre.length]? = some ⟨K.mk k, v, b⟩ := by simp [ent]
  unfold Instr.mapUpdate
  simp only [Sem.run_bind, run_underlying hm, Result.andThen, getObj, Sem.run, run_pure, hb', K.chk _ _ _ _ _ hk, run_find hk (find_some K k v b post pre 0 hn), hget, Option.map_some, Option.getD_some, Instr.keyThatStays, K.bits, if_true]
  simp only [run_pure, run_setObj hb]
  congr 2
  simp only [obj]
  congr 1
  apply Array.ext'
  simp [List.modify_eq_take_drop, ent]

theorem run_delete_none {ts : Array TypeId} {ty : TypeId} (hts : ts = #[t, kt]) (hm : P.underlying t = some (.map kt et)) (hk : P.underlying kt = some K.kd) (hb : w.heap[M]? = some (obj K es clock)) (hn : ∀ x ∈ es, x.1 ≠ k) :
    (Builtin.delete_ ts ty #[.map (some M), K.mk k]).run P w = .ok (.tuple #[]) (setBlock w M (obj K es clock)) := by
  subst hts
  have hb' := hb
  unfold obj at hb'
  unfold Builtin.delete_
  simp only [List.getElem?_toArray, List.getElem?_cons_zero, List.getElem?_cons_succ, Sem.run_bind, run_underlying hm, Result.andThen, getObj, Sem.run, run_pure, hb', K.chk _ _ _ _ _ hk, run_find hk (find_none K k es 0 hn), run_setObj hb]
  rfl

theorem run_delete_some {ts : Array TypeId} {ty : TypeId} (hts : ts = #[t, kt]) (hm : P.underlying t = some (.map kt et)) (hk : P.underlying kt = some K.kd) (hb : w.heap[M]? = some (obj K (pre ++ (k, v, b) :: post) clock)) (hn : ∀ x ∈ pre, x.1 ≠ k) :
    (Builtin.delete_ ts ty #[.map (some M), K.mk k]).run P w = .ok (.tuple #[]) (setBlock w M (obj K (pre ++ post) clock)) := by
  subst hts
  have hb' := hb
  unfold obj at hb'
  unfold Builtin.delete_
  simp only [List.getElem?_toArray, List.getElem?_cons_zero, List.getElem?_cons_succ, Sem.run_bind, run_underlying hm, Result.andThen, getObj, Sem.run, run_pure, hb', K.chk _ _ _ _ _ hk, run_find hk (find_some K k v b post pre 0 hn), run_setObj hb]
  have e : ((pre ++ (k, v, b) :: post).map (ent K)).toArray.eraseIdxIfInBounds (0 + pre.length) = ((pre ++ post).map (ent K)).toArray := by
    apply Array.ext'
    simp [Array.eraseIdxIfInBounds]
    rw [List.eraseIdx_append_of_length_le (by simp)]
    simp
  rw [e]
  rfl

theorem run_clear {ts : Array TypeId} {ty : TypeId} (hts : ts = #[t]) (hm : P.underlying t = some (.map kt et)) (hb : w.heap[M]? = some (obj K es clock)) :
    (Builtin.clear_ ts ty #[.map (some M)]).run P w = .ok (.tuple #[]) (setBlock w M (obj K [] clock)) := by
  subst hts
  have hb' := hb
  unfold obj at hb'
  unfold Builtin.clear_
  simp only [List.getElem?_toArray, List.getElem?_cons_zero, Sem.run_bind, run_underlying hm, Result.andThen, getObj, Sem.run, run_pure, hb', run_setObj hb]
  rfl

theorem run_len {ts : Array TypeId} {ty : TypeId} (hts : ts = #[t]) (hm : P.underlying t = some (.map kt et)) (hb : w.heap[M]? = some (obj K es clock)) :
    (Builtin.len_ ts ty #[.map (some M)]).run P w = .ok (.int .i64 es.length) w := by
  subst hts
  unfold obj at hb
  unfold Builtin.len_
  simp [Sem.run_bind, run_underlying hm, Result.andThen, getObj, Sem.run, run_pure, hb, goInt]

theorem run_range (hm : P.underlying t = some (.map kt et)) (hb : w.heap[M]? = some (obj K es clock)) :
    (Instr.range t (.map (some M))).run P w = .ok (.pointer (some ⟨w.heap.size, 0, none⟩)) (w.alloc (.mapIter (some M) clock #[] clock)) := by
  unfold obj at hb
  unfold Instr.range
  simp only [Sem.run_bind, run_underlying hm, Result.andThen, getObj, Sem.run, run_pure, hb, newObj]
  rfl

/-- The round's head: nothing is left, or one entry comes. -/
theorem run_next {r : Nat} {seen : Array Nat} (ty : TypeId) (hr : w.heap[r]? = some (.mapIter (some M) clock seen clock)) (hb : w.heap[M]? = some (obj K es clock)) (hold : ∀ x ∈ es, x.2.2 < clock) :
    ((∀ x ∈ es, x.2.2 ∈ seen) ∧ (Instr.next (.pointer (some ⟨r, 0, none⟩)) false ty).run P w = .ok (.tuple #[.bool false]) w) ∨
    ∃ x ∈ es, x.2.2 ∉ seen ∧ ∃ w1 : World, (w1 = w ∨ w1 = w.drew) ∧ (Instr.next (.pointer (some ⟨r, 0, none⟩)) false ty).run P w = .ok (.tuple #[.bool true, K.mk x.1, x.2.1]) (setBlock w1 r (.mapIter (some M) clock (seen.push x.2.2) clock)) := by
  rcases run_next_at (P := P) w ty r M clock clock seen _ clock hr hb (fun x hx => by
      simp only [List.mem_map] at hx
      obtain ⟨y, hy, rfl⟩ := hx
      exact hold y hy) (Nat.le_refl _) with ⟨h0, hrun⟩ | ⟨e, he, w1, hw1, hrun⟩
  · refine .inl ⟨fun x hx => ?_, hrun⟩
    apply Classical.byContradiction
    intro hn
    have : ent K x ∈ (leftOf (es.map (ent K)).toArray seen) := by
      unfold leftOf
      simp [ent]
      exact ⟨⟨x.1, x.2.1, x.2.2, hx, rfl, rfl, rfl⟩, hn⟩
    have hz : leftOf (es.map (ent K)).toArray seen = #[] := Array.eq_empty_of_size_eq_zero h0
    rw [hz] at this
    simp at this
  · refine .inr ?_
    unfold leftOf at he
    simp at he
    obtain ⟨⟨a, c, d, hx, rfl⟩, hn⟩ := he
    exact ⟨(a, c, d), hx, hn, w1, hw1, hrun⟩

theorem run_entry {r : Nat} {seen : Array Nat} {x : En α} (hr : w.heap[r]? = some (.mapIter (some M) clock (seen.push x.2.2) clock)) (hb : w.heap[M]? = some (obj K es clock)) (hx : x ∈ es) (hnd : (es.map (·.2.2)).Nodup) :
    (Instr.entry (.pointer (some ⟨r, 0, none⟩))).run P w = .ok (.tuple #[K.mk x.1, x.2.1]) w :=
  run_entry_at (P := P) w r M clock seen _ clock (ent K x) hr hb (by simp; exact ⟨x.1, x.2.1, x.2.2, hx, rfl⟩) (by simp [Function.comp_def, ent]; exact hnd)

end
end Go.Proofs.YtichcdoijieddaaGreat.Mp
end

/- What a call may turn of memory, and slices that lie in blocks of their own. Plain facts of the model's memory; no program is named. -/
section
set_option linter.unusedVariables false
set_option linter.unusedSimpArgs false
set_option linter.unusedSectionVars false
namespace Go.Proofs.YtichcdoijieddaaGreat.Ob
open Go Go.RowKit
open Go.ChangeMaps (setBlock)

/-- w' is w but for blocks of F and new ones. -/
structure Upd (F : List Nat) (w w' : World) : Prop where
  os : w'.os = w.os
  tape : w'.tape = w.tape
  output : w'.output = w.output
  size : w.heap.size ≤ w'.heap.size
  block : ∀ k, k < w.heap.size → k ∉ F → w'.heap[k]? = w.heap[k]?

theorem Upd.refl (F : List Nat) (w : World) : Upd F w w := ⟨rfl, rfl, rfl, Nat.le_refl _, fun _ _ _ => rfl⟩
theorem Upd.trans {F F1 : List Nat} {w w1 w2 : World} (h : Upd F w w1) (k : Upd F1 w1 w2) (s : ∀ x ∈ F1, x ∈ F ∨ w.heap.size ≤ x) : Upd F w w2 :=
  ⟨k.os.trans h.os, k.tape.trans h.tape, k.output.trans h.output, Nat.le_trans h.size k.size, fun i hi hn =>
    (k.block i (Nat.lt_of_lt_of_le hi h.size) (fun hc => by rcases s i hc with r | r; exact hn r; omega)).trans (h.block i hi hn)⟩
theorem Upd.mono {F F1 : List Nat} {w w1 : World} (h : Upd F w w1) (s : ∀ x ∈ F, x ∈ F1 ∨ w.heap.size ≤ x) : Upd F1 w w1 :=
  ⟨h.os, h.tape, h.output, h.size, fun i hi hn => h.block i hi (fun hc => by rcases s i hc with r | r; exact hn r; omega)⟩
theorem Upd.of_below {F : List Nat} {w w' : World} (h : Below w.heap.size w w') : Upd F w w' := ⟨h.os, h.tape, h.output, h.size, fun k hk _ => h.block k hk⟩
theorem Upd.below {F : List Nat} {w w' : World} (h : Upd F w w') (hF : ∀ k ∈ F, w.heap.size ≤ k) : Below w.heap.size w w' :=
  ⟨h.os, h.tape, h.output, h.size, fun k hk => h.block k hk (fun hc => by have := hF k hc; omega)⟩
theorem Upd.belowB {F : List Nat} {B : Nat} {w w' : World} (h : Upd F w w') (hB : B ≤ w.heap.size) (hF : ∀ k ∈ F, B ≤ k) : Below B w w' :=
  ⟨h.os, h.tape, h.output, h.size, fun k hk => h.block k (by omega) (fun hc => by have := hF k hc; omega)⟩
theorem Upd.of_grown {F : List Nat} {w w' : World} (h : w.grownBy w' none) : Upd F w w' := ⟨h.os, h.tape, h.output, h.size, fun k hk _ => h.block k hk (by simp)⟩
theorem Upd.drew {F : List Nat} {w w1 : World} (h : Upd F w w1) : Upd F w w1.drew := ⟨h.os, h.tape, h.output, h.size, h.block⟩
theorem Upd.drewN {F : List Nat} {w w1 : World} (h : Upd F w w1) (n : Nat) : Upd F w (w1.drewN n) := ⟨h.os, h.tape, h.output, h.size, h.block⟩
theorem Upd.alloc {F : List Nat} {w w1 : World} (h : Upd F w w1) (o : Obj) : Upd F w (w1.alloc o) :=
  ⟨h.os, h.tape, h.output, by have := h.size; simp; omega, fun k hk hn => (Below.heap_alloc w1 o k (by have := h.size; omega)).trans (h.block k hk hn)⟩
theorem Upd.setCell {F : List Nat} {w w1 : World} (h : Upd F w w1) {a : Addr} (ha : a.block ∈ F ∨ w.heap.size ≤ a.block) (v : Value) : Upd F w (w1.setCell a v) :=
  ⟨h.os, h.tape, h.output, by simpa [World.setCell] using h.size, fun k hk hn => (Below.heap_setCell w1 a v k (fun e => by subst e; rcases ha with r | r; exact hn r; omega)).trans (h.block k hk hn)⟩
theorem setBlock_size (w : World) (b : Nat) (o : Obj) : (setBlock w b o).heap.size = w.heap.size := by simp [setBlock]
theorem setBlock_other (w : World) (b : Nat) (o : Obj) (k : Nat) (h : k ≠ b) : (setBlock w b o).heap[k]? = w.heap[k]? := by
  simp only [setBlock, Array.getElem?_setIfInBounds]
  rw [if_neg (fun e => h e.symm)]
theorem setBlock_same {w : World} {b : Nat} {o' : Obj} (h : w.heap[b]? = some o') (o : Obj) : (setBlock w b o).heap[b]? = some o := by
  have := (Array.getElem?_eq_some_iff.1 h).1
  simp only [setBlock, Array.getElem?_setIfInBounds, if_true, this]
theorem Upd.setBlock {F : List Nat} {w w1 : World} (h : Upd F w w1) {b : Nat} (hb : b ∈ F ∨ w.heap.size ≤ b) (o : Obj) : Upd F w (setBlock w1 b o) :=
  ⟨h.os, h.tape, h.output, by rw [setBlock_size]; exact h.size, fun k hk hn => (setBlock_other w1 b o k (fun e => by subst e; rcases hb with r | r; exact hn r; omega)).trans (h.block k hk hn)⟩
theorem Upd.blk {F : List Nat} {w w1 : World} (h : Upd F w w1) {k : Nat} {o : Obj} (hb : w.heap[k]? = some o) (hn : k ∉ F) : w1.heap[k]? = some o :=
  (h.block k (Array.getElem?_eq_some_iff.1 hb).1 hn).trans hb

/-! ### single blocks -/
theorem lt_of {w : World} {g : Nat} {o : Obj} (h : w.heap[g]? = some o) : g < w.heap.size := (Array.getElem?_eq_some_iff.1 h).1
theorem cell_of {w : World} {g : Nat} {t : TypeId} {cs : Array Value} {fr : Nat × Nat} (h : w.heap[g]? = some (.cells cs t fr)) (i : Nat) : w.cell? ⟨g, i, none⟩ = cs[i]? := by
  simp [World.cell?, h]
theorem free_of {w : World} {g : Nat} {t : TypeId} {cs : Array Value} (h : w.heap[g]? = some (.cells cs t (0, 0))) (i : Nat) : w.frozen? ⟨g, i, none⟩ = false := by
  simp [World.frozen?, h]
theorem set_same {w : World} {g : Nat} {t : TypeId} {cs : Array Value} {fr : Nat × Nat} (h : w.heap[g]? = some (.cells cs t fr)) (i : Nat) (u : Value) : (w.setCell ⟨g, i, none⟩ u).heap[g]? = some (.cells (cs.setIfInBounds i u) t fr) := by
  simp [World.setCell, Array.getElem?_modify, h]
theorem set_other {w : World} {g : Nat} {o : Obj} (h : w.heap[g]? = some o) {a : Addr} (ha : g ≠ a.block) (u : Value) : (w.setCell a u).heap[g]? = some o := (Below.heap_setCell w a u g ha).trans h
theorem alloc_old {w : World} {g : Nat} {o : Obj} (h : w.heap[g]? = some o) (o' : Obj) : (w.alloc o').heap[g]? = some o := (Below.heap_alloc w o' g (lt_of h)).trans h
theorem alloc_new (w : World) (o : Obj) : (w.alloc o).heap[w.heap.size]? = some o := heap_alloc_new w o

/-! ### a slice over a row -/
/-- Slice (A, c) holds vs; its row lies in the blocks qs (none, if it is empty). -/
def Sl (w : World) (T : TypeId) (A : Option Addr) (c : Nat) (vs : List Value) (qs : List Nat) : Prop :=
  vs.length ≤ c ∧ ((vs = [] ∧ qs = []) ∨ ∃ q off cs, A = some ⟨q, off, none⟩ ∧ qs = [q] ∧ w.heap[q]? = some (.cells cs T (0, 0)) ∧ off + c ≤ cs.size ∧ ∀ j v, vs[j]? = some v → cs[off + j]? = some v)

theorem Sl.keep {w w' : World} {T : TypeId} {A : Option Addr} {c : Nat} {vs : List Value} {qs : List Nat} (h : Sl w T A c vs qs) (hk : ∀ q ∈ qs, w'.heap[q]? = w.heap[q]?) : Sl w' T A c vs qs := by
  obtain ⟨h0, h1 | ⟨q, off, cs, hA, hq, hb, hs, hc⟩⟩ := h
  · exact ⟨h0, .inl h1⟩
  · exact ⟨h0, .inr ⟨q, off, cs, hA, hq, (hk q (by simp [hq])).trans hb, hs, hc⟩⟩

theorem Sl.at_ {w : World} {T : TypeId} {A : Option Addr} {c : Nat} {vs : List Value} {qs : List Nat} (h : Sl w T A c vs qs) {i : Nat} {v : Value} (hi : vs[i]? = some v) :
    ∃ q off cs, A = some ⟨q, off, none⟩ ∧ qs = [q] ∧ w.heap[q]? = some (.cells cs T (0, 0)) ∧ off + c ≤ cs.size ∧ w.cell? ⟨q, off + i, none⟩ = some v ∧ w.frozen? ⟨q, off + i, none⟩ = false := by
  obtain ⟨h0, ⟨rfl, _⟩ | ⟨q, off, cs, hA, hq, hb, hs, hc⟩⟩ := h
  · simp at hi
  · exact ⟨q, off, cs, hA, hq, hb, hs, by rw [cell_of hb]; exact hc i v hi, free_of hb _⟩

theorem Sl.set_ {w : World} {T : TypeId} {c q off : Nat} {vs : List Value} {qs : List Nat} (h : Sl w T (some ⟨q, off, none⟩) c vs qs) {i : Nat} (hi : i < vs.length) (u : Value) :
    Sl (w.setCell ⟨q, off + i, none⟩ u) T (some ⟨q, off, none⟩) c (vs.set i u) qs := by
  obtain ⟨h0, ⟨rfl, _⟩ | ⟨q', off', cs, hA, hq, hb, hs, hc⟩⟩ := h
  · simp at hi
  · simp only [Option.some.injEq, Addr.mk.injEq, and_true] at hA
    obtain ⟨rfl, rfl⟩ := hA
    refine ⟨by simpa using h0, .inr ⟨q, off, _, rfl, hq, set_same hb _ u, by simpa using hs, fun j v hj => ?_⟩⟩
    rw [Array.getElem?_setIfInBounds]
    rw [List.getElem?_set] at hj
    by_cases e : i = j
    · subst e
      simp only [if_true, hi] at hj ⊢
      cases hj
      rw [if_pos (by omega)]
    · rw [if_neg (by omega)]
      rw [if_neg e] at hj
      exact hc j v hj

theorem Sl.of_own {w : World} {base n : Nat} {T : TypeId} {v : Value} {xs : List Value} (h : w.ownsRow base T 1 v n xs) :
    ∃ A c qs, v = .slice A n c ∧ Sl w T A c xs qs ∧ ∀ q ∈ qs, base ≤ q := by
  obtain ⟨h1, ⟨rfl, rfl⟩ | ⟨g, cap, cur, rfl, hg, hb, hn, _, hs, ht⟩⟩ := h
  · have : xs = [] := List.eq_nil_of_length_eq_zero (by omega)
    exact ⟨none, 0, [], rfl, ⟨by simp [this], .inl ⟨this, rfl⟩⟩, by simp⟩
  · refine ⟨some ⟨g, 0, none⟩, cap, [g], rfl, ⟨by omega, .inr ⟨g, 0, cur, rfl, rfl, hb, by omega, fun j v hj => ?_⟩⟩, by simpa using hg⟩
    rw [← ht, List.getElem?_take] at hj
    split at hj
    · simpa using hj
    · cases hj

end Go.Proofs.YtichcdoijieddaaGreat.Ob
end

/- Maps' operations in a walk: laws at the operation, the world behind them a variable. No program is named. -/
section
set_option linter.unusedVariables false
set_option linter.unusedSimpArgs false
set_option linter.unusedSectionVars false
namespace Go.Proofs.YtichcdoijieddaaGreat.Wl
open Go Go.RowKit
open Go.ChangeMaps (setBlock)
open Go.Proofs.YtichcdoijieddaaGreat.Ob Go.Proofs.YtichcdoijieddaaGreat.Mp

variable {α : Type} [DecidableEq α] {P : Program} {w : World} {ops : Array Oper} {rest : List Oper} {o : Oper} {a : Act} {Q : Exit → Act → World → Prop} {t kt et : TypeId} {M clock : Nat}

/-- Block M alone has turned. -/
structure Only (M : Nat) (ob : Obj) (w W : World) : Prop where
  here : W.heap[M]? = some ob
  far : ∀ i, i ≠ M → W.heap[i]? = w.heap[i]?
  upd : ∀ F : List Nat, M ∈ F → Upd F w W
  size : W.heap.size = w.heap.size

theorem only_set {M : Nat} {o' : Obj} (h : w.heap[M]? = some o') (ob : Obj) : Only M ob w (setBlock w M ob) :=
  ⟨setBlock_same h ob, fun i hi => setBlock_other w M ob i hi, fun F hF => (Upd.refl F w).setBlock (.inl hF) ob, setBlock_size w M ob⟩

theorem Only.blk {M : Nat} {ob : Obj} {W : World} (h : Only M ob w W) {i : Nat} {o' : Obj} (hi : w.heap[i]? = some o') (hne : i ≠ M) : W.heap[i]? = some o' := (h.far i hne).trans hi

theorem wpl_put_new (K : Kk α) (es : List (En α)) (hg : o.guard = none) (m x v : Operand) (t : TypeId) (hop : o.op = Op.mapUpdate t m x v) (hm : P.underlying t = some (.map kt et)) (hk : P.underlying kt = some K.kd)
    (hmv : a.eval m = .map (some M)) (k : α) (hxv : a.eval x = K.mk k) (val : Value) (hvv : a.eval v = val) (hb : w.heap[M]? = some (obj K es clock)) (hn : ∀ x ∈ es, x.1 ≠ k)
    (hK : ∀ W, Only M (obj K (es ++ [(k, val, clock)]) (clock + 1)) w W → wpList P ops Q rest (a.put o.dst undef) W) : wpList P ops Q (o :: rest) a w := by
  refine wpList_plain hg fun K' hK' => ?_
  unfold Oper.wp
  simp [execOp, hop, hmv, hxv, hvv, run_update_new hm hk hb hn (v := val), Result.andThen]
  exact hK' _ _ (hK _ (only_set hb _))

theorem wpl_put_old (K : Kk α) (pre post : List (En α)) (old : Value) (b : Nat) (hg : o.guard = none) (m x v : Operand) (t : TypeId) (hop : o.op = Op.mapUpdate t m x v) (hm : P.underlying t = some (.map kt et)) (hk : P.underlying kt = some K.kd)
    (hmv : a.eval m = .map (some M)) (k : α) (hxv : a.eval x = K.mk k) (val : Value) (hvv : a.eval v = val) (hb : w.heap[M]? = some (obj K (pre ++ (k, old, b) :: post) clock)) (hn : ∀ x ∈ pre, x.1 ≠ k)
    (hK : ∀ W, Only M (obj K (pre ++ (k, val, b) :: post) clock) w W → wpList P ops Q rest (a.put o.dst undef) W) : wpList P ops Q (o :: rest) a w := by
  refine wpList_plain hg fun K' hK' => ?_
  unfold Oper.wp
  simp [execOp, hop, hmv, hxv, hvv, run_update_old hm hk hb hn (v' := val), Result.andThen]
  exact hK' _ _ (hK _ (only_set hb _))

theorem wpl_delete_some (K : Kk α) (pre post : List (En α)) (old : Value) (b : Nat) (hg : o.guard = none) (m x : Operand) (t kt : TypeId) (hop : o.op = Op.call { callee := Callee.builtin Builtin.delete, args := #[m, x], argTypes := #[t, kt] })
    (hm : P.underlying t = some (.map kt et)) (hk : P.underlying kt = some K.kd)
    (hmv : a.eval m = .map (some M)) (k : α) (hxv : a.eval x = K.mk k) (hb : w.heap[M]? = some (obj K (pre ++ (k, old, b) :: post) clock)) (hn : ∀ x ∈ pre, x.1 ≠ k)
    (hK : ∀ W, Only M (obj K (pre ++ post) clock) w W → wpList P ops Q rest (a.put o.dst (.tuple #[])) W) : wpList P ops Q (o :: rest) a w := by
  refine wpList_plain hg fun K' hK' => ?_
  unfold Oper.wp
  simp [execOp, hop, resolve, invoke, builtin, hmv, hxv, run_delete_some (ts := #[t, kt]) (ty := o.type) rfl hm hk hb hn, Result.andThen]
  exact hK' _ _ (hK _ (only_set hb _))

theorem wpl_clear (K : Kk α) (es : List (En α)) (hg : o.guard = none) (m : Operand) (t : TypeId) (hop : o.op = Op.call { callee := Callee.builtin Builtin.clear, args := #[m], argTypes := #[t] })
    (hm : P.underlying t = some (.map kt et)) (hmv : a.eval m = .map (some M)) (hb : w.heap[M]? = some (obj K es clock))
    (hK : ∀ W, Only M (obj K [] clock) w W → wpList P ops Q rest (a.put o.dst (.tuple #[])) W) : wpList P ops Q (o :: rest) a w := by
  refine wpList_plain hg fun K' hK' => ?_
  unfold Oper.wp
  simp [execOp, hop, resolve, invoke, builtin, hmv, run_clear (ts := #[t]) (ty := o.type) rfl hm hb, Result.andThen]
  exact hK' _ _ (hK _ (only_set hb _))

theorem wpl_range (K : Kk α) (es : List (En α)) (hg : o.guard = none) (m : Operand) (t : TypeId) (hop : o.op = Op.range t m) (hm : P.underlying t = some (.map kt et)) (hmv : a.eval m = .map (some M)) (hb : w.heap[M]? = some (obj K es clock))
    (hK : wpList P ops Q rest (a.put o.dst (.pointer (some ⟨w.heap.size, 0, none⟩))) (w.alloc (.mapIter (some M) clock #[] clock))) : wpList P ops Q (o :: rest) a w := by
  refine wpList_plain hg fun K' hK' => ?_
  unfold Oper.wp
  simp [execOp, hop, hmv, run_range hm hb, Result.andThen]
  exact hK' _ _ hK

/-- The round's head: nothing is left; or an entry has come: the iterator's block alone has turned, but for a draw. -/
theorem wpl_next (K : Kk α) (es : List (En α)) (r : Nat) (seen : Array Nat) (hg : o.guard = none) (it : Operand) (hop : o.op = Op.next it false) (hit : a.eval it = .pointer (some ⟨r, 0, none⟩))
    (hr : w.heap[r]? = some (.mapIter (some M) clock seen clock)) (hb : w.heap[M]? = some (obj K es clock)) (hold : ∀ x ∈ es, x.2.2 < clock) (hnd : (es.map (·.2.2)).Nodup)
    (hDone : (∀ x ∈ es, x.2.2 ∈ seen) → wpList P ops Q rest (a.put o.dst (.tuple #[.bool false])) w)
    (hMore : ∀ x, x ∈ es → x.2.2 ∉ seen → ∀ W, Only r (.mapIter (some M) clock (seen.push x.2.2) clock) w W → (Instr.entry (.pointer (some ⟨r, 0, none⟩))).run P W = .ok (.tuple #[K.mk x.1, x.2.1]) W →
      wpList P ops Q rest (a.put o.dst (.tuple #[.bool true, K.mk x.1, x.2.1])) W) : wpList P ops Q (o :: rest) a w := by
  refine wpList_plain hg fun K' hK' => ?_
  unfold Oper.wp
  rcases run_next (P := P) (K := K) o.type hr hb hold with ⟨h0, hrun⟩ | ⟨x, hx, hn, w1, hw1, hrun⟩
  · simp [execOp, hop, hit, hrun, Result.andThen]
    exact hK' _ _ (hDone h0)
  · simp [execOp, hop, hit, hrun, Result.andThen]
    have hne : M ≠ r := by intro e; subst e; rw [hb] at hr; simp [obj] at hr
    have ho : Only r (.mapIter (some M) clock (seen.push x.2.2) clock) w (setBlock w1 r (.mapIter (some M) clock (seen.push x.2.2) clock)) := by
      rcases hw1 with rfl | rfl
      · exact only_set hr _
      · have := only_set (w := w.drew) hr (.mapIter (some M) clock (seen.push x.2.2) clock)
        exact ⟨this.here, this.far, fun F hF => ⟨(this.upd F hF).os, (this.upd F hF).tape, (this.upd F hF).output, (this.upd F hF).size, (this.upd F hF).block⟩, this.size⟩
    exact hK' _ _ (hMore x hx hn _ ho (run_entry ho.here (ho.blk hb hne) hx hnd))

/-- A row of its own, new. -/
structure NewRow (e : TypeId) (q c : Nat) (vs : List Value) (w W : World) : Prop where
  ex : ∃ cs, W.heap[q]? = some (.cells cs e (0, 0)) ∧ c ≤ cs.size ∧ ∀ (j : Nat) v, vs[j]? = some v → cs[0 + j]? = some v
  cap : vs.length ≤ c
  new : w.heap.size ≤ q
  upd : ∀ F : List Nat, Upd F w W

/-- What is appended doesn't fit: a new row. -/
theorem wpl_append_grow (hg : o.guard = none) (s x : Operand) (t : TypeId) (hop : o.op = Op.call { callee := Callee.builtin Builtin.append, args := #[s, x], argTypes := #[t, t] })
    (e : TypeId) (z : Value) (bytes : Nat) (h1 : P.underlying t = some (.slice e)) (hinf : (P.info? e).map (fun i => (i.zero, i.size, i.bytes)) = some (some z, 1, bytes)) (h6 : z.cells.size = 1)
    (ao : Option Addr) (n cap : Nat) (olds : List Value) (hs : a.eval s = .slice ao n cap) (hnone : ao = none → n = 0 ∧ cap = 0) (hlo : olds.length = n) (holds : ∀ b, ao = some b → ∀ j u, olds[j]? = some u → w.cell? (b.add j) = some u)
    (ad : Addr) (m c : Nat) (news : List Value) (hx : a.eval x = .slice (some ad) m c) (hn : news.length = m) (hc : ∀ j u, news[j]? = some u → w.cell? (ad.add j) = some u) (h1c : ∀ u ∈ news, u.oneCell' = true)
    (hfull : cap < n + m) (b1 : n + m ≤ maxLen) (b2 : (n + m) * bytes ≤ 140737488355328) (hpos : 0 < n + m)
    (hK : ∀ q c W, NewRow e q c (olds ++ news) w W → wpList P ops Q rest (a.put o.dst (.slice (some ⟨q, 0, none⟩) (n + m) c)) W) :
    wpList P ops Q (o :: rest) a w := by
  obtain ⟨i, hi, hz, hsz, hby⟩ := info_parts hinf
  refine wpList_append_grows w hg s x t hop e i z 1 bytes h1 hi hz hsz hby h6 (by decide) ao n cap olds hs hnone (by simpa using hlo) holds ad m c news hx (by simpa using hn) hc h1c hfull b1 b2 ?_
  intro v' w' hown hgr
  obtain ⟨hl, ⟨rfl, h0⟩ | ⟨g, cap', cur, rfl, hge, hb, hnc, _, hsize, ht⟩⟩ := hown
  · omega
  · refine hK g cap' w' ⟨⟨cur, hb, by omega, fun j v hj => ?_⟩, by simp [hlo, hn]; exact hnc, hge, fun F => Upd.of_grown hgr⟩
    rw [← ht, List.getElem?_take] at hj
    split at hj
    · simpa using hj
    · cases hj

theorem made_one (z : Value) (m : Nat) : madeCells #[z] m = Array.replicate m z := by
  unfold madeCells
  apply Array.ext (by simp)
  intro i h1 h2
  simp [Nat.mod_one]

/-- 'make([]T, n)', T of one cell. -/
theorem wpl_make (hg : o.guard = none) (l : Operand) (t e : TypeId) (hop : o.op = Op.makeSlice t l l) (z : Value) (bytes : Nat) (ht : P.underlying t = some (.slice e)) (hinf : (P.info? e).map (fun i => (i.zero, i.size, i.bytes)) = some (some z, 1, bytes)) (hz : z.cells = #[z])
    (m : Nat) (k : IntKind) (c : Int) (hl : a.eval l = .int k c) (hc : c = m) (hb : bytes * m ≤ 281474976710656) (hm : m ≤ 9223372036854775807)
    (hK : wpList P ops Q rest (a.put o.dst (.slice (some ⟨w.heap.size, 0, none⟩) m m)) (w.alloc (.cells (Array.replicate m z) e (0, 0)))) : wpList P ops Q (o :: rest) a w := by
  subst hc
  obtain ⟨i, hi, hzi, hsz, hby⟩ := info_parts hinf
  have hb' : (i.bytes : Int) * (m : Int) ≤ 281474976710656 := by
    rw [hby]
    have h : ((bytes * m : Nat) : Int) ≤ 281474976710656 := by omega
    rwa [Int.natCast_mul] at h
  have hr := run_make (P := P) w t e i z ht hi hzi k k m m (by omega) (Int.le_refl _) hb' (by omega)
  rw [hz, hsz, Nat.mul_one, Int.toNat_natCast, made_one] at hr
  refine wpList_plain hg fun K' hK' => ?_
  unfold Oper.wp
  simp [execOp, hop, hl, hr, Result.andThen]
  exact hK' _ _ hK

theorem only_freeze {g : Nat} {C : Array Value} {e : TypeId} (h : w.heap[g]? = some (.cells C e (0, 0))) (k : Nat) : Only g (.cells C e (k, k + 1)) w (w.freeze ⟨g, k, none⟩ 1) := by
  have hf : ∀ i, (w.freeze ⟨g, k, none⟩ 1).heap[i]? = if g = i then (w.heap[i]?).map (fun o => match o with | .cells c elem (lo, hi) => .cells c elem (if lo == hi then (k, k + 1) else (min lo k, max hi (k + 1))) | o => o) else w.heap[i]? := by
    intro i
    unfold World.freeze
    rw [if_neg (by decide)]
    simp only [Array.getElem?_modify]
    rfl
  have hs : (w.freeze ⟨g, k, none⟩ 1).heap.size = w.heap.size := by
    unfold World.freeze
    rw [if_neg (by decide)]
    simp
  refine ⟨?_, fun i hi => ?_, fun F hF => ⟨?_, ?_, ?_, by rw [hs]; exact Nat.le_refl _, fun i _ hi => ?_⟩, hs⟩
  · rw [hf, if_pos rfl, h]
    rfl
  · rw [hf, if_neg (fun e => hi e.symm)]
  · unfold World.freeze; rw [if_neg (by decide)]
  · unfold World.freeze; rw [if_neg (by decide)]
  · unfold World.freeze; rw [if_neg (by decide)]
  · rw [hf, if_neg (fun (e' : g = i) => hi (e' ▸ hF))]

/-- '[]byte("..")' of a constant: the row is marked behind its end, and the slice goes on. -/
theorem wpl_conv (hg : o.guard = none) (x : Operand) (t e : TypeId) (hop : o.op = Op.convert t t x) (ht : P.underlying t = some (.slice e)) (he : P.underlying e = some (.int .u8)) (g n c : Nat) (C : Array Value)
    (hx : a.eval x = .slice (some ⟨g, 0, none⟩) n c) (hb : w.heap[g]? = some (.cells C e (0, 0)))
    (hK : ∀ W, Only g (.cells C e (C.size, C.size + 1)) w W → wpList P ops Q rest (a.put o.dst (.slice (some ⟨g, 0, none⟩) n c)) W) : wpList P ops Q (o :: rest) a w := by
  have hsh : w.shape? g = some (e, C.size) := by unfold World.shape?; rw [hb]
  have hrun : (convert t t (.slice (some ⟨g, 0, none⟩) n c)).run P w = .ok (.slice (some ⟨g, 0, none⟩) n c) (w.freeze ⟨g, C.size, none⟩ 1) := by
    simp [convert, run_underlying ht, run_underlying he, markStringish, hsh]
  refine wpList_plain hg fun K' hK' => ?_
  unfold Oper.wp
  simp [execOp, hop, hx, hrun, Result.andThen]
  exact hK' _ _ (hK _ (only_freeze hb _))

end Go.Proofs.YtichcdoijieddaaGreat.Wl
end

/- Small laws of memory that all walks use. No program is named. -/
section
set_option linter.unusedVariables false
set_option linter.unusedSimpArgs false
namespace Go.Proofs.YtichcdoijieddaaGreat.Ba
open Go Go.RowKit
open Go.Proofs.YtichcdoijieddaaGreat.Ob

/-! ### a world that keeps what was there -/
theorem bl_alloc {w w1 : World} (h : Below w.heap.size w w1) (o : Obj) : Below w.heap.size w (w1.alloc o) := h.alloc h.size o
theorem bl_set {w w1 : World} (h : Below w.heap.size w w1) {b o : Nat} (hb : w.heap.size ≤ b) (v : Value) : Below w.heap.size w (w1.setCell ⟨b, o, none⟩ v) := h.setCell hb v
theorem bl_drew {w w1 : World} (h : Below w.heap.size w w1) : Below w.heap.size w w1.drew := ⟨h.os, h.tape, h.output, h.size, h.block⟩
theorem bl_drewN {w w1 : World} (h : Below w.heap.size w w1) (n : Nat) : Below w.heap.size w (w1.drewN n) := ⟨h.os, h.tape, h.output, h.size, h.block⟩
theorem bl_then {w w1 w2 : World} (h : Below w.heap.size w w1) (k : Below w1.heap.size w1 w2) : Below w.heap.size w w2 := h.trans (k.mono h.size)
theorem bl_grown {w w1 w2 : World} {row : Option Nat} (h : Below w.heap.size w w1) (k : w1.grownBy w2 row) (hr : ∀ b, row = some b → w.heap.size ≤ b) : Below w.heap.size w w2 := h.grown k h.size hr
theorem bcell {W w1 : World} (hb : Below W.heap.size W w1) : (∀ b o, b < W.heap.size → w1.cell? ⟨b, o, none⟩ = W.cell? ⟨b, o, none⟩) ∧ (∀ b o, b < W.heap.size → w1.frozen? ⟨b, o, none⟩ = W.frozen? ⟨b, o, none⟩) :=
  ⟨fun b o h => hb.cell (p := ⟨b, o, none⟩) h, fun b o h => hb.frozen (p := ⟨b, o, none⟩) h⟩
theorem cell_blk {w w' : World} {q : Nat} (h : w'.heap[q]? = w.heap[q]?) (o : Nat) : w'.cell? ⟨q, o, none⟩ = w.cell? ⟨q, o, none⟩ := by simp [World.cell?, h]
theorem add_block (a : Addr) (j : Nat) : (a.add j).block = a.block := by
  unfold Addr.add
  split <;> rfl
theorem add_two (a : Addr) (i j : Nat) : (a.add i).add j = a.add (i + j) := by
  unfold Addr.add
  by_cases hi : i = 0 <;> by_cases hj : j = 0 <;> simp [hi, hj, Nat.add_assoc]

/-! ### results that lie in memory -/
theorem res_c {P : Program} {fn : Func} {p : Tmp} {ty : TypeId} (h : fn.results = #[.cell p ty]) (tmps : Array Value) (w : World) (g : Nat) (t : TypeId) (cs : Array Value) (fr : Nat × Nat) (d : TypeDesc)
    (hp : tmps.getD p undef = .pointer (some ⟨g, 0, none⟩)) (hg : w.heap[g]? = some (.cells cs t fr))
    (hu : P.underlying ty = some d) (hd : (match d with | .struct _ | .array _ _ => true | _ => false) = true) (hi : (P.info? ty).map (·.size) = some cs.size) :
    (results fn tmps).run P w = .ok (.agg cs) w := by
  have hp' : tmps[p]?.getD undef = .pointer (some ⟨g, 0, none⟩) := by simpa using hp
  simp [results, h, hp', asAddr, run_loadVar_row w g t ty cs fr d hg hu hd hi]
theorem res_ct {P : Program} {fn : Func} {p u : Tmp} {ty : TypeId} (h : fn.results = #[.cell p ty, .tmp u]) (tmps : Array Value) (w : World) (g : Nat) (t : TypeId) (cs : Array Value) (fr : Nat × Nat) (d : TypeDesc)
    (hp : tmps.getD p undef = .pointer (some ⟨g, 0, none⟩)) (hg : w.heap[g]? = some (.cells cs t fr))
    (hu : P.underlying ty = some d) (hd : (match d with | .struct _ | .array _ _ => true | _ => false) = true) (hi : (P.info? ty).map (·.size) = some cs.size) :
    (results fn tmps).run P w = .ok (.tuple #[.agg cs, tmps.getD u undef]) w := by
  have hp' : tmps[p]?.getD undef = .pointer (some ⟨g, 0, none⟩) := by simpa using hp
  simp [results, h, hp', asAddr, run_loadVar_row w g t ty cs fr d hg hu hd hi]

/-! ### numbers in a row -/
def ivs (k : IntKind) (l : List Int) : List Value := l.map (Value.int k)
theorem ivs_length (k : IntKind) (l : List Int) : (ivs k l).length = l.length := by simp [ivs]
theorem ivs_get {k : IntKind} {l : List Int} {i : Nat} {x : Int} (h : l[i]? = some x) : (ivs k l)[i]? = some (.int k x) := by simp [ivs, h]
theorem ivs_append (k : IntKind) (a b : List Int) : ivs k (a ++ b) = ivs k a ++ ivs k b := by simp [ivs]

/-- the slice (A, ..) reads as these numbers -/
def Rk (k : IntKind) (w : World) (A : Option Addr) (l : List Int) : Prop := ∀ (i : Nat) x, l[i]? = some x → ∃ a, A = some a ∧ a.block < w.heap.size ∧ w.cell? (a.add i) = some (.int k x)

theorem Rk.below {k : IntKind} {w w' : World} {A : Option Addr} {l : List Int} (h : Rk k w A l) (hb : Below w.heap.size w w') : Rk k w' A l := by
  intro i x hi
  obtain ⟨a, rfl, h1, h2⟩ := h i x hi
  exact ⟨a, rfl, Nat.lt_of_lt_of_le h1 hb.size, by rw [hb.cell (p := a.add i) (by rw [add_block]; exact h1)]; exact h2⟩
theorem Rk.keep {k : IntKind} {w w' : World} {A : Option Addr} {l : List Int} (h : Rk k w A l) (hk : ∀ a, A = some a → w'.heap[a.block]? = w.heap[a.block]?) (hs : w.heap.size ≤ w'.heap.size) : Rk k w' A l := by
  intro i x hi
  obtain ⟨a, rfl, h1, h2⟩ := h i x hi
  refine ⟨a, rfl, Nat.lt_of_lt_of_le h1 hs, ?_⟩
  rw [World.cell?_of_block (w := w) (a := a.add i) (by rw [add_block]; exact hk a rfl)]
  exact h2
theorem Rk.nil (k : IntKind) (w : World) (A : Option Addr) : Rk k w A [] := by intro i x hi; simp at hi
theorem Rk.at_ {k : IntKind} {w : World} {a : Addr} {l : List Int} (h : Rk k w (some a) l) {i : Nat} {x : Int} (hi : l[i]? = some x) : w.cell? (a.add i) = some (.int k x) := by
  obtain ⟨b, e, _, h2⟩ := h i x hi
  cases e
  exact h2
theorem Rk.drop {k : IntKind} {w : World} {a : Addr} {l : List Int} (h : Rk k w (some a) l) (n : Nat) : Rk k w (some (a.add n)) (l.drop n) := by
  intro i x hi
  rw [List.getElem?_drop] at hi
  obtain ⟨b, e, h1, h2⟩ := h _ x hi
  cases e
  exact ⟨_, rfl, by rw [add_block]; exact h1, by rw [add_two]; exact h2⟩
theorem Rk.take {k : IntKind} {w : World} {A : Option Addr} {l : List Int} (h : Rk k w A l) (n : Nat) : Rk k w A (l.take n) := by
  intro i x hi
  rw [List.getElem?_take] at hi
  split at hi
  · exact h i x hi
  · cases hi

theorem sl_rk {k : IntKind} {w : World} {T : TypeId} {A : Option Addr} {c : Nat} {l : List Int} {qs : List Nat} (h : Sl w T A c (ivs k l) qs) : Rk k w A l := by
  intro i x hi
  obtain ⟨q, off, cs, rfl, -, hb, -, hc, -⟩ := h.at_ (i := i) (v := .int k x) (ivs_get hi)
  exact ⟨_, rfl, lt_of hb, by rw [Addr.add_lit]; exact hc⟩

/-- cells of a block known whole -/
theorem blk_rk {k : IntKind} {w : World} {q T : Nat} {cs : Array Value} {fr : Nat × Nat} {l : List Int} (h : w.heap[q]? = some (.cells cs T fr)) (hc : ∀ (i : Nat) x, l[i]? = some x → cs[i]? = some (.int k x)) : Rk k w (some ⟨q, 0, none⟩) l := by
  intro i x hi
  exact ⟨_, rfl, lt_of h, by rw [Addr.add_lit, cell_of h, Nat.zero_add]; exact hc i x hi⟩

/-! ### rows of the call's own -/
theorem own_lo {W : World} {B T s n : Nat} {v : Value} {xs : List Value} (h : W.ownsRow B T s v n xs) : ∀ k, v.ownBlock = some k → B ≤ k := by
  obtain ⟨_, ⟨rfl, _⟩ | ⟨g, cap, cur, rfl, hg, _⟩⟩ := h
  · intro k hk; simp [Value.ownBlock] at hk
  · intro k hk; simp [Value.ownBlock] at hk; omega
theorem own_kp {W W' : World} {B T s n : Nat} {v : Value} {xs : List Value} (h : W.ownsRow B T s v n xs) (hk : ∀ k, B ≤ k → k < W.heap.size → W'.heap[k]? = W.heap[k]?) : W'.ownsRow B T s v n xs := by
  obtain ⟨h1, h2 | ⟨g, cap, cur, hv, hg, hb, r⟩⟩ := h
  · exact ⟨h1, .inl h2⟩
  · exact ⟨h1, .inr ⟨g, cap, cur, hv, hg, (hk g hg (lt_of hb)).trans hb, r⟩⟩
theorem own_bl {W W' : World} {B T s n : Nat} {v : Value} {xs : List Value} (h : W.ownsRow B T s v n xs) (hb : Below W.heap.size W W') : W'.ownsRow B T s v n xs := own_kp h (fun k _ hk => hb.block k hk)
theorem own_base {w : World} {B B' T s n : Nat} {v : Value} {xs : List Value} (h : w.ownsRow B' T s v n xs) (hB : B ≤ B') : w.ownsRow B T s v n xs := by
  obtain ⟨h1, h2 | ⟨g, cap, cur, hv, hg, r⟩⟩ := h
  · exact ⟨h1, .inl h2⟩
  · exact ⟨h1, .inr ⟨g, cap, cur, hv, by omega, r⟩⟩
theorem own_slice {w : World} {B T s n : Nat} {v : Value} {xs : List Value} (h : w.ownsRow B T s v n xs) : ∃ A c, v = .slice A n c := by
  obtain ⟨_, ⟨rfl, rfl⟩ | ⟨g, cap, cur, rfl, _⟩⟩ := h
  · exact ⟨_, _, rfl⟩
  · exact ⟨_, _, rfl⟩
theorem own_rk {k : IntKind} {w : World} {B T n : Nat} {A : Option Addr} {c : Nat} {l : List Int} (h : w.ownsRow B T 1 (.slice A n c) n (ivs k l)) : Rk k w A l ∧ l.length = n ∧ n ≤ c := by
  have hl : l.length = n := by
    have := h.1
    rw [ivs_length] at this
    omega
  obtain ⟨A', c', qs, hv, hsl, -⟩ := Sl.of_own h
  simp only [Value.slice.injEq, true_and] at hv
  obtain ⟨rfl, rfl⟩ := hv
  exact ⟨sl_rk hsl, hl, by have := hsl.1; rw [ivs_length] at this; omega⟩
/-- a cell of one's own row -/
theorem own_set {W : World} {B T n q c : Nat} {xs : List Value} (h : W.ownsRow B T 1 (.slice (some ⟨q, 0, none⟩) n c) n xs) {i : Nat} (hi : i < n) (u : Value) : (W.setCell ⟨q, i, none⟩ u).ownsRow B T 1 (.slice (some ⟨q, 0, none⟩) n c) n (xs.set i u) := by
  obtain ⟨h1, ⟨h2, _⟩ | ⟨g, cap, cur, hv, hg, hb, hn, hm, hs, ht⟩⟩ := h
  · cases h2
  · simp only [Value.slice.injEq, Option.some.injEq, Addr.mk.injEq, and_true, true_and] at hv
    obtain ⟨rfl, rfl⟩ := hv
    refine ⟨by rw [List.length_set]; exact h1, .inr ⟨q, c, cur.setIfInBounds i u, rfl, hg, set_same hb i u, hn, hm, by simpa using hs, ?_⟩⟩
    rw [← ht]
    simp [List.take_set]
theorem own_nil (w : World) (B : Nat) (T : TypeId) (g : Nat) (hg : B ≤ g) (hb : w.heap[g]? = some (.cells #[] T (0, 0))) (s : Nat) : w.ownsRow B T s (.slice (some ⟨g, 0, none⟩) 0 0) 0 [] :=
  ⟨by simp, .inr ⟨g, 0, #[], rfl, hg, hb, Nat.le_refl _, by unfold maxLen; omega, by simp, by simp⟩⟩
theorem own_nil0 (w : World) (B : Nat) (T s : Nat) : w.ownsRow B T s (.slice none 0 0) 0 [] := ⟨by simp, .inl ⟨rfl, rfl⟩⟩
/-- a new row, whole -/
theorem own_new {k : IntKind} {W : World} {B T q n : Nat} {l : List Int} (h : W.heap[q]? = some (.cells (ivs k l).toArray T (0, 0))) (hq : B ≤ q) (hn : l.length = n) (hm : n ≤ maxLen) : W.ownsRow B T 1 (.slice (some ⟨q, 0, none⟩) n n) n (ivs k l) :=
  ⟨by simp [ivs, hn], .inr ⟨q, n, _, rfl, hq, h, Nat.le_refl _, hm, by simp [ivs, hn], by rw [Nat.mul_one, ← hn]; exact List.take_of_length_le (by simp [ivs])⟩⟩
theorem ivs_oneCell (k : IntKind) (l : List Int) : ∀ u ∈ ivs k l, u.oneCell' = true := by
  intro u hu
  simp only [ivs, List.mem_map] at hu
  obtain ⟨z, _, rfl⟩ := hu
  rfl
theorem one_at (w : World) (v : Value) (T : TypeId) : ∀ (j : Nat) u, [v][j]? = some u → (w.alloc (.cells #[v] T)).cell? ((⟨w.heap.size, 0, none⟩ : Addr).add j) = some u := by
  intro j u hj
  match j, hj with
  | 0, hj =>
    simp at hj
    subst hj
    simp [Addr.add]

theorem put3 {W : World} {k T : Nat} {x0 x1 x2 : Value} (h : W.heap[k]? = some (.cells #[x0, x1, x2] T (0, 0))) (y0 y1 y2 : Value) :
    (((W.setCell ⟨k, 0, none⟩ y0).setCell ⟨k, 1, none⟩ y1).setCell ⟨k, 2, none⟩ y2).heap[k]? = some (.cells #[y0, y1, y2] T (0, 0)) := by
  rw [set_same (set_same (set_same h 0 y0) 1 y1) 2 y2]; rfl
theorem bl_put3 {w W : World} {k : Nat} (h : Below w.heap.size w W) (hk : w.heap.size ≤ k) (y0 y1 y2 : Value) : Below w.heap.size w (((W.setCell ⟨k, 0, none⟩ y0).setCell ⟨k, 1, none⟩ y1).setCell ⟨k, 2, none⟩ y2) := bl_set (bl_set (bl_set h hk _) hk _) hk _
theorem blk_bl {W W' : World} {k : Nat} {o : Obj} (h : W.heap[k]? = some o) (hb : Below W.heap.size W W') : W'.heap[k]? = some o := (hb.block k (lt_of h)).trans h

/-! ### numbers -/
theorem w64 (n : Int) (h0 : -9223372036854775808 ≤ n) (h1 : n ≤ 9223372036854775807) : wrap64 n = n := by unfold wrap64; omega
theorem wu64 (n : Int) (h0 : 0 ≤ n) (h1 : n < 18446744073709551616) : IntKind.u64.wrap n = n := by
  simp [IntKind.wrap, IntKind.bits, IntKind.signed]; omega
theorem take_next {α : Type} {l : List α} {i : Nat} {x : α} (h : l[i]? = some x) : l.take (i + 1) = l.take i ++ [x] := by
  obtain ⟨hi, hx⟩ := List.getElem?_eq_some_iff.1 h
  rw [List.take_succ_eq_append_getElem hi, hx]
theorem some_at {α : Type} {l : List α} {i : Nat} (h : i < l.length) : ∃ x, l[i]? = some x := ⟨_, List.getElem?_eq_getElem h⟩
theorem ret_int {k : IntKind} {a b : Int} (h : a = b) : Ending.returned (.int k a) = .returned (.int k b) := by rw [h]

end Go.Proofs.YtichcdoijieddaaGreat.Ba
end

/- The sum of 32 bits as a function on numbers; it is one to one in each byte and in what was there before. No program is named. -/
section
set_option linter.unusedVariables false
set_option linter.unusedSimpArgs false
namespace Go.Proofs.YtichcdoijieddaaGreat.Cr
open Go

def P32 : Nat := 3988292384
def bst (r : Nat) : Nat := if r % 2 = 1 then (r / 2) ^^^ P32 else r / 2
def rbit (r b : Nat) : Nat := if b = r % 2 then r / 2 else (r / 2) ^^^ P32
def itb : Nat → Nat → Nat
  | 0, r => r
  | n + 1, r => itb n (bst r)
def itr : Nat → Nat → Nat → Nat
  | 0, r, _ => r
  | n + 1, r, x => itr n (rbit r (x % 2)) (x / 2)
def stp (s x : Nat) : Nat := itb 8 (s ^^^ x)
def sumB (s : Nat) (l : List Nat) : Nat := l.foldl stp s

theorem xor_half (a b : Nat) : (a ^^^ b) / 2 = a / 2 ^^^ b / 2 := by
  apply Nat.eq_of_testBit_eq
  intro i
  simp [Nat.testBit_div_two, Nat.testBit_xor]
theorem xor_par (a b : Nat) : (a ^^^ b) % 2 = (a + b) % 2 := by
  have h := Nat.testBit_xor a b 0
  simp only [Nat.testBit_zero] at h
  have h1 : (a ^^^ b) % 2 < 2 := Nat.mod_lt _ (by decide)
  have h2 : a % 2 < 2 := Nat.mod_lt _ (by decide)
  have h3 : b % 2 < 2 := Nat.mod_lt _ (by decide)
  by_cases e1 : a % 2 = 1
  · by_cases e2 : b % 2 = 1
    · rw [decide_eq_true e1, decide_eq_true e2, Bool.xor_self, decide_eq_false_iff_not] at h
      omega
    · rw [decide_eq_true e1, decide_eq_false e2, Bool.xor_false, decide_eq_true_iff] at h
      omega
  · by_cases e2 : b % 2 = 1
    · rw [decide_eq_false e1, decide_eq_true e2, Bool.false_xor, decide_eq_true_iff] at h
      omega
    · rw [decide_eq_false e1, decide_eq_false e2, Bool.xor_self, decide_eq_false_iff_not] at h
      omega
theorem bst_xor (r x : Nat) : bst (r ^^^ x) = rbit r (x % 2) ^^^ (x / 2) := by
  unfold bst rbit
  rw [xor_par, xor_half]
  by_cases h : x % 2 = r % 2
  · rw [if_neg (by omega), if_pos h]
  · rw [if_pos (by omega), if_neg h, Nat.xor_assoc, Nat.xor_assoc, Nat.xor_comm (x / 2)]
theorem itb_xor : ∀ (n r x : Nat), itb n (r ^^^ x) = itr n r x ^^^ (x / 2 ^ n)
  | 0, r, x => by simp [itb, itr]
  | n + 1, r, x => by
    simp only [itb, itr]
    rw [bst_xor, itb_xor n, Nat.div_div_eq_div_mul, Nat.pow_succ, Nat.mul_comm 2]
theorem stp_eq (s x : Nat) (hx : x < 256) : stp s x = itr 8 s x := by
  unfold stp
  rw [itb_xor, show x / 2 ^ 8 = 0 from Nat.div_eq_of_lt (by omega), Nat.xor_zero]

theorem bst_lt (r : Nat) (h : r < 4294967296) : bst r < 4294967296 := by
  unfold bst
  split
  · exact Nat.xor_lt_two_pow (n := 32) (by omega) (by decide)
  · omega
theorem bst_top (r : Nat) (h : r < 4294967296) : (bst r).testBit 31 = decide (r % 2 = 1) := by
  have hz : (r / 2).testBit 31 = false := Nat.testBit_lt_two_pow (by omega)
  unfold bst
  split
  · rename_i h1
    rw [Nat.testBit_xor, hz, h1]
    decide
  · rename_i h1
    rw [hz]
    simp [h1]
theorem xor_cancel {a b c : Nat} (h : a ^^^ c = b ^^^ c) : a = b := by
  have := congrArg (· ^^^ c) h
  simpa [Nat.xor_assoc, Nat.xor_self] using this
theorem bst_inj {r r' : Nat} (h : r < 4294967296) (h' : r' < 4294967296) (e : bst r = bst r') : r = r' := by
  have ht := bst_top r h
  rw [e, bst_top r' h'] at ht
  have hp : r % 2 = r' % 2 := by
    have h1 : r % 2 < 2 := Nat.mod_lt _ (by decide)
    have h2 : r' % 2 < 2 := Nat.mod_lt _ (by decide)
    by_cases c1 : r % 2 = 1 <;> by_cases c2 : r' % 2 = 1 <;> simp [c1, c2] at ht <;> omega
  unfold bst at e
  have hq : r / 2 = r' / 2 := by
    by_cases c1 : r % 2 = 1
    · rw [if_pos c1, if_pos (by omega)] at e
      exact xor_cancel e
    · rw [if_neg c1, if_neg (by omega)] at e
      exact e
  omega
theorem itb_lt : ∀ (n r : Nat), r < 4294967296 → itb n r < 4294967296
  | 0, _, h => h
  | n + 1, r, h => itb_lt n _ (bst_lt r h)
theorem itb_inj : ∀ (n r r' : Nat), r < 4294967296 → r' < 4294967296 → itb n r = itb n r' → r = r'
  | 0, _, _, _, _, e => e
  | n + 1, r, r', h, h', e => bst_inj h h' (itb_inj n _ _ (bst_lt r h) (bst_lt r' h') e)
theorem xor_lt32 {a b : Nat} (h : a < 4294967296) (h' : b < 4294967296) : a ^^^ b < 4294967296 := Nat.xor_lt_two_pow (n := 32) h h'
theorem stp_lt (s x : Nat) (h : s < 4294967296) (h' : x < 256) : stp s x < 4294967296 := itb_lt 8 _ (xor_lt32 h (by omega))
theorem stp_inj {s s' x x' : Nat} (h : s < 4294967296) (h' : s' < 4294967296) (hx : x < 256) (hx' : x' < 256) (e : stp s x = stp s' x') : s ^^^ x = s' ^^^ x' :=
  itb_inj 8 _ _ (xor_lt32 h (by omega)) (xor_lt32 h' (by omega)) e
theorem sumB_lt : ∀ (l : List Nat) (s : Nat), s < 4294967296 → (∀ x ∈ l, x < 256) → sumB s l < 4294967296
  | [], _, h, _ => h
  | x :: l, s, h, hl => sumB_lt l _ (stp_lt s x h (hl x (by simp))) (fun y hy => hl y (by simp [hy]))
theorem sumB_inj : ∀ (l : List Nat) (s s' : Nat), s < 4294967296 → s' < 4294967296 → (∀ x ∈ l, x < 256) → sumB s l = sumB s' l → s = s'
  | [], _, _, _, _, _, e => e
  | x :: l, s, s', h, h', hl, e => by
    have hx := hl x (by simp)
    have := sumB_inj l _ _ (stp_lt s x h hx) (stp_lt s' x h' hx) (fun y hy => hl y (by simp [hy])) e
    exact xor_cancel (stp_inj h h' hx hx this)
/-- Lists that differ in just one byte have not one sum. -/
theorem sumB_one (pre post : List Nat) (x x' s : Nat) (h : s < 4294967296) (hp : ∀ y ∈ pre, y < 256) (hq : ∀ y ∈ post, y < 256) (hx : x < 256) (hx' : x' < 256)
    (e : sumB s (pre ++ x :: post) = sumB s (pre ++ x' :: post)) : x = x' := by
  unfold sumB at e
  rw [List.foldl_append, List.foldl_append] at e
  have hs := sumB_lt pre s h hp
  unfold sumB at hs
  have := sumB_inj post _ _ (stp_lt _ x hs hx) (stp_lt _ x' hs hx') hq e
  have := stp_inj hs hs hx hx' this
  rw [Nat.xor_comm _ x, Nat.xor_comm _ x'] at this
  exact xor_cancel this

/-! ### on integers -/
theorem bits_xor32 (a b : Nat) (ha : a < 4294967296) (hb : b < 4294967296) : bits .xor .u32 a b = ((a ^^^ b : Nat) : Int) := by
  have ha' : a % 4294967296 = a := Nat.mod_eq_of_lt ha
  have hb' : b % 4294967296 = b := Nat.mod_eq_of_lt hb
  have hl := xor_lt32 ha hb
  have hk : IntKind.u32.bits = 32 := rfl
  simp only [bits, hk, BitVec.ofInt_natCast, BitVec.toNat_xor, BitVec.toNat_ofNat]
  rw [show (2 : Nat) ^ 32 = 4294967296 from rfl, ha', hb', IntKind.wrap_u32]
  omega
theorem bits_and1 (a : Nat) (ha : a < 4294967296) : bits .and .u32 a 1 = ((a % 2 : Nat) : Int) := by
  have := bits_mask .u32 32 (by decide) (fun n h0 h1 => by rw [IntKind.wrap_u32]; omega) 1 (by decide) a (by omega) (by omega)
  simpa using this
theorem not32 (x : Nat) (h : x < 4294967296) : 4294967295 ^^^ x = 4294967295 - x := by
  apply Nat.eq_of_testBit_eq
  intro i
  have h1 := Nat.testBit_two_pow_sub_succ (n := 32) (x := x) (by omega) i
  have h2 := Nat.testBit_two_pow_sub_succ (n := 32) (x := 0) (by omega) i
  rw [Nat.testBit_xor]
  rw [show (4294967295 : Nat) - x = 2 ^ 32 - (x + 1) from by omega, h1]
  rw [show (4294967295 : Nat) = 2 ^ 32 - (0 + 1) from by omega, h2]
  by_cases hi : i < 32
  · simp [hi]
  · have : x.testBit i = false := Nat.testBit_lt_two_pow (Nat.lt_of_lt_of_le h (by
      have : 2 ^ 32 ≤ 2 ^ i := Nat.pow_le_pow_right (by decide) (by omega)
      omega))
    simp [hi, this]

end Go.Proofs.YtichcdoijieddaaGreat.Cr
end

/- The second chapter's steps: one byte more, in both sums. -/
section
set_option linter.unusedVariables false
set_option linter.unusedSimpArgs false
set_option maxHeartbeats 1000000
set_option maxRecDepth 100000
namespace Go.Proofs.YtichcdoijieddaaGreat.Cc
open Go Go.RowKit
open Go.Proofs.YtichcdoijieddaaGreat.Ob Go.Proofs.YtichcdoijieddaaGreat.Ba Go.Proofs.YtichcdoijieddaaGreat.Cr

theorem step32_ (s x : Nat) (hs : s < 4294967296) (hx : x < 256) (w : World) :
    Calls Tryz.prog 139 #[.int .u32 s, .int .u8 x] w fun e w' => e = .returned (.int .u32 (stp s x)) ∧ w = w' := by
  have hwx : IntKind.u32.wrap (x : Int) = x := by rw [IntKind.wrap_u32]; omega
  have hx0 : Go.bits .xor .u32 (s : Int) (x : Int) = ((s ^^^ x : Nat) : Int) := bits_xor32 s x hs (by omega)
  have hr0 : s ^^^ x < 4294967296 := xor_lt32 hs (by omega)
  go_enter Tryz.func139, Tryz.ntmps139
  go_wp2_with fail
  have HS : Hid (itb 8 (s ^^^ x) = stp s x) := rfl
  clear hwx hx0
  generalize s ^^^ x = r0 at *
  go_loop [9, 0] (fun c9 c0 => ∃ (i r : Nat), i ≤ 8 ∧ c9 = .int .i64 i ∧ c0 = .int .u32 r ∧ r < 4294967296 ∧ Hid (itb (8 - i) r = stp s x)) (fun c9 _ => 8 - (intOf c9).toNat)
  case atStart => exact ⟨0, r0, by omega, rfl, rfl, hr0, HS⟩
  case round =>
    obtain ⟨i, r, hi, rfl, rfl, hr, HR⟩ := hrel
    by_cases hlt : i < 8
    · have hn : itb (8 - (i + 1)) (bst r) = stp s x := by
        have := HR.out
        rw [show 8 - i = (8 - (i + 1)) + 1 from by omega, itb] at this
        exact this
      have HN := Lib.hid hn
      have hl := bst_lt r hr
      clear hn
      by_cases hp : r % 2 = 1
      · have e1 : Go.bits .and .u32 (r : Int) 1 = 1 := by rw [bits_and1 r hr, hp]; rfl
        have e3 : Go.bits .xor .u32 ((r : Int) / 2) 3988292384 = ((bst r : Nat) : Int) := by
          have := bits_xor32 (r / 2) P32 (by omega) (by decide)
          unfold bst
          rw [if_pos hp]
          exact this
        clear hp
        generalize bst r = z at *
        go_wp2
        go_round
        case rel => exact ⟨i + 1, z, by omega, by go_num, rfl, hl, HN⟩
        case measure => simp [intOf]; omega
      · have e1 : Go.bits .and .u32 (r : Int) 1 = 0 := by rw [bits_and1 r hr, show r % 2 = 0 from by omega]; rfl
        have e3 : (r : Int) / 2 = ((bst r : Nat) : Int) := by
          unfold bst
          rw [if_neg hp]
          rfl
        clear hp
        generalize bst r = z at *
        go_wp2
        go_round
        case rel => exact ⟨i + 1, z, by omega, by go_num, rfl, hl, HN⟩
        case measure => simp [intOf]; omega
    · obtain rfl : i = 8 := by omega
      go_wp2
      go_ret
      have := HR.out
      simp only [Nat.sub_self, itb] at this
      exact ⟨by rw [← this]; rfl, rfl⟩

end Go.Proofs.YtichcdoijieddaaGreat.Cc
end
