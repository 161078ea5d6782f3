/- Map blocks written out: a map's block as a list of keys, values and stamps, and what look-up, store, delete and clear do to it. Plain laws of the model's runs; no program is named. -/
import Derived.Carry
import Derived.ChangeMaps5
import Derived.Maps.RangeRun
import Derived.Maps.OwnOps
import Derived.Maps.RangeWalk
import Derived.Maps.OwnSet
set_option linter.unusedVariables false
set_option linter.unusedSimpArgs false
set_option linter.unusedSectionVars false
namespace Go.Proofs.Ytlokklfkiechdaa.Mp
open Go
open Go.ChangeMaps (setBlock)

/-- A kind of keys: how a key is a value, and that two of them are told apart. -/
structure Kk (α : Type) [DecidableEq α] where mk0 ::
  mk : α → Value
  kd : TypeDesc
  same : ∀ a b, Instr.sameNow kd (mk a) (mk b) = some (decide (a = b))
  bits : ∀ a, Instr.sameBits 10000 (mk a) (mk a) = true
  chk : ∀ (P : Program) (t : TypeId) (em : Bool) (a : α) (w : World), P.underlying t = some kd → (Instr.checkKey em 10000 t (mk a)).run P w = .ok () w

theorem run_underlying {P : Program} {t : TypeId} {d : TypeDesc} (h : P.underlying t = some d) (w : World) : (underlying t).run P w = .ok d w := by
  unfold underlying
  simp [Sem.run_bind, Sem.run, h, program, Result.andThen]

theorem run_pure {α : Type} {P : Program} (a : α) (w : World) : (pure a : Sem α).run P w = .ok a w := rfl

def kInt (k : IntKind) : Kk Int where
  mk a := .int k a
  kd := .int k
  same a b := by
    simp only [Instr.sameNow, if_true]
    exact congrArg some (by by_cases h : a = b <;> simp [h])
  bits a := by simp [Instr.sameBits]
  chk P t em a w h := by
    unfold Instr.checkKey
    simp only [Sem.run_bind, run_underlying h, Result.andThen]
    rfl

theorem bytes_beq (a b : ByteArray) : (a == b) = decide (a = b) := by
  by_cases h : a = b
  · subst h
    rw [decide_eq_true rfl]
    show (a.data == a.data) = true
    simp
  · rw [decide_eq_false h]
    show (a.data == b.data) = false
    rw [beq_eq_false_iff_ne]
    exact fun e => h (by cases a; cases b; simp_all)

def kStr : Kk ByteArray where
  mk a := .string a
  kd := .string
  same a b := by
    simp only [Instr.sameNow, bytes_beq]
  bits a := by simp [Instr.sameBits, bytes_beq]
  chk P t em a w h := by
    unfold Instr.checkKey
    simp only [Sem.run_bind, run_underlying h, Result.andThen]
    rfl

section
variable {α : Type} [DecidableEq α]

abbrev En (α : Type) := α × Value × Nat
def ent (K : Kk α) (x : En α) : MapEntry := ⟨K.mk x.1, x.2.1, x.2.2⟩
def obj (K : Kk α) (es : List (En α)) (clock : Nat) : Obj := .map (es.map (ent K)).toArray clock

theorem find_none (K : Kk α) (k : α) : ∀ (es : List (En α)) (i : Nat), (∀ x ∈ es, x.1 ≠ k) → Instr.findNow K.kd (K.mk k) (es.map (ent K)) i = some none
  | [], _, _ => rfl
  | x :: es, i, h => by
    have hx : ¬ k = x.1 := fun e => h x (by simp) e.symm
    simp only [List.map_cons, Instr.findNow, ent, K.same, hx, decide_false]
    exact find_none K k es (i + 1) (fun y hy => h y (by simp [hy]))

theorem find_some (K : Kk α) (k : α) (v : Value) (b : Nat) (post : List (En α)) : ∀ (pre : List (En α)) (i : Nat), (∀ x ∈ pre, x.1 ≠ k) →
    Instr.findNow K.kd (K.mk k) ((pre ++ (k, v, b) :: post).map (ent K)) i = some (some (i + pre.length, v))
  | [], i, _ => by simp [Instr.findNow, ent, K.same]
  | x :: pre, i, h => by
    have hx : ¬ k = x.1 := fun e => h x (by simp) e.symm
    simp only [List.cons_append, List.map_cons, Instr.findNow, ent, K.same, hx, decide_false]
    have := find_some K k v b post pre (i + 1) (fun y hy => h y (by simp [hy]))
    rw [this]
    simp only [List.length_cons]
    congr 3
    omega

theorem run_find {P : Program} {K : Kk α} {t : TypeId} {k : α} {es : List (En α)} {r : Option (Nat × Value)} (ht : P.underlying t = some K.kd) (h : Instr.findNow K.kd (K.mk k) (es.map (ent K)) 0 = some r) (w : World) :
    (Instr.findKey t (K.mk k) (es.map (ent K))).run P w = .ok r w := by
  unfold Instr.findKey
  simp only [Sem.run_bind, run_underlying ht, Result.andThen, h]
  rfl

variable {P : Program} {t kt et : TypeId} {K : Kk α} {w : World} {M clock : Nat} {es pre post : List (En α)} {k : α} {v v' : Value} {b : Nat}

theorem run_lookup_none (hm : P.underlying t = some (.map kt et)) (hk : P.underlying kt = some K.kd) (hb : w.heap[M]? = some (obj K es clock)) (hn : ∀ x ∈ es, x.1 ≠ k) {z : Value} (hz : (zeroValue et).run P w = .ok z w) :
    (Instr.lookup t (.map (some M)) (K.mk k) false).run P w = .ok z w := by
  unfold Instr.lookup
  simp only [Sem.run_bind, run_underlying hm, Result.andThen, getObj, Sem.run, run_pure, hb, obj, K.chk _ _ _ _ _ hk, run_find hk (find_none K k es 0 hn), hz]
  rfl

theorem run_lookup_some (hm : P.underlying t = some (.map kt et)) (hk : P.underlying kt = some K.kd) (hb : w.heap[M]? = some (obj K (pre ++ (k, v, b) :: post) clock)) (hn : ∀ x ∈ pre, x.1 ≠ k) :
    (Instr.lookup t (.map (some M)) (K.mk k) false).run P w = .ok v w := by
  unfold Instr.lookup
  simp only [Sem.run_bind, run_underlying hm, Result.andThen, getObj, Sem.run, run_pure, hb, obj, K.chk _ _ _ _ _ hk, run_find hk (find_some K k v b post pre 0 hn)]
  rfl

theorem run_setObj {o : Obj} (hb : w.heap[M]? = some (obj K es clock)) : (setObj M o).run P w = .ok () (setBlock w M o) := by
  simp [setObj, Sem.run, hb, setBlock, obj]

theorem run_update_new (hm : P.underlying t = some (.map kt et)) (hk : P.underlying kt = some K.kd) (hb : w.heap[M]? = some (obj K es clock)) (hn : ∀ x ∈ es, x.1 ≠ k) :
    (Instr.mapUpdate t (.map (some M)) (K.mk k) v).run P w = .ok () (setBlock w M (obj K (es ++ [(k, v, clock)]) (clock + 1))) := by
  have hb' := hb
  unfold obj at hb'
  unfold Instr.mapUpdate
  simp only [Sem.run_bind, run_underlying hm, Result.andThen, getObj, Sem.run, run_pure, hb', K.chk _ _ _ _ _ hk, run_find hk (find_none K k es 0 hn), run_setObj hb]
  congr 2
  simp [obj, ent]

theorem run_update_old (hm : P.underlying t = some (.map kt et)) (hk : P.underlying kt = some K.kd) (hb : w.heap[M]? = some (obj K (pre ++ (k, v, b) :: post) clock)) (hn : ∀ x ∈ pre, x.1 ≠ k) :
    (Instr.mapUpdate t (.map (some M)) (K.mk k) v').run P w = .ok () (setBlock w M (obj K (pre ++ (k, v', b) :: post) clock)) := by
  have hb' := hb
  unfold obj at hb'
  have hget : ((pre ++ (k, v, b) :: post).map (ent K)).toArray[0 + pre.length]? = some ⟨K.mk k, v, b⟩ := by simp [ent]
  unfold Instr.mapUpdate
  simp only [Sem.run_bind, run_underlying hm, Result.andThen, getObj, Sem.run, run_pure, hb', K.chk _ _ _ _ _ hk, run_find hk (find_some K k v b post pre 0 hn), hget, Option.map_some, Option.getD_some, Instr.keyThatStays, K.bits, if_true]
  simp only [run_pure, run_setObj hb]
  congr 2
  simp only [obj]
  congr 1
  apply Array.ext'
  simp [List.modify_eq_take_drop, ent]

theorem run_delete_none {ts : Array TypeId} {ty : TypeId} (hts : ts = #[t, kt]) (hm : P.underlying t = some (.map kt et)) (hk : P.underlying kt = some K.kd) (hb : w.heap[M]? = some (obj K es clock)) (hn : ∀ x ∈ es, x.1 ≠ k) :
    (Builtin.delete_ ts ty #[.map (some M), K.mk k]).run P w = .ok (.tuple #[]) (setBlock w M (obj K es clock)) := by
  subst hts
  have hb' := hb
  unfold obj at hb'
  unfold Builtin.delete_
  simp only [List.getElem?_toArray, List.getElem?_cons_zero, List.getElem?_cons_succ, Sem.run_bind, run_underlying hm, Result.andThen, getObj, Sem.run, run_pure, hb', K.chk _ _ _ _ _ hk, run_find hk (find_none K k es 0 hn), run_setObj hb]
  rfl

theorem run_delete_some {ts : Array TypeId} {ty : TypeId} (hts : ts = #[t, kt]) (hm : P.underlying t = some (.map kt et)) (hk : P.underlying kt = some K.kd) (hb : w.heap[M]? = some (obj K (pre ++ (k, v, b) :: post) clock)) (hn : ∀ x ∈ pre, x.1 ≠ k) :
    (Builtin.delete_ ts ty #[.map (some M), K.mk k]).run P w = .ok (.tuple #[]) (setBlock w M (obj K (pre ++ post) clock)) := by
  subst hts
  have hb' := hb
  unfold obj at hb'
  unfold Builtin.delete_
  simp only [List.getElem?_toArray, List.getElem?_cons_zero, List.getElem?_cons_succ, Sem.run_bind, run_underlying hm, Result.andThen, getObj, Sem.run, run_pure, hb', K.chk _ _ _ _ _ hk, run_find hk (find_some K k v b post pre 0 hn), run_setObj hb]
  have e : ((pre ++ (k, v, b) :: post).map (ent K)).toArray.eraseIdxIfInBounds (0 + pre.length) = ((pre ++ post).map (ent K)).toArray := by
    apply Array.ext'
    simp [Array.eraseIdxIfInBounds]
    rw [List.eraseIdx_append_of_length_le (by simp)]
    simp
  rw [e]
  rfl

theorem run_clear {ts : Array TypeId} {ty : TypeId} (hts : ts = #[t]) (hm : P.underlying t = some (.map kt et)) (hb : w.heap[M]? = some (obj K es clock)) :
    (Builtin.clear_ ts ty #[.map (some M)]).run P w = .ok (.tuple #[]) (setBlock w M (obj K [] clock)) := by
  subst hts
  have hb' := hb
  unfold obj at hb'
  unfold Builtin.clear_
  simp only [List.getElem?_toArray, List.getElem?_cons_zero, Sem.run_bind, run_underlying hm, Result.andThen, getObj, Sem.run, run_pure, hb', run_setObj hb]
  rfl

theorem run_len {ts : Array TypeId} {ty : TypeId} (hts : ts = #[t]) (hm : P.underlying t = some (.map kt et)) (hb : w.heap[M]? = some (obj K es clock)) :
    (Builtin.len_ ts ty #[.map (some M)]).run P w = .ok (.int .i64 es.length) w := by
  subst hts
  unfold obj at hb
  unfold Builtin.len_
  simp [Sem.run_bind, run_underlying hm, Result.andThen, getObj, Sem.run, run_pure, hb, goInt]

theorem run_range (hm : P.underlying t = some (.map kt et)) (hb : w.heap[M]? = some (obj K es clock)) :
    (Instr.range t (.map (some M))).run P w = .ok (.pointer (some ⟨w.heap.size, 0, none⟩)) (w.alloc (.mapIter (some M) clock #[] clock)) := by
  unfold obj at hb
  unfold Instr.range
  simp only [Sem.run_bind, run_underlying hm, Result.andThen, getObj, Sem.run, run_pure, hb, newObj]
  rfl

/-- The round's head: nothing is left, or one entry comes. -/
theorem run_next {r : Nat} {seen : Array Nat} (ty : TypeId) (hr : w.heap[r]? = some (.mapIter (some M) clock seen clock)) (hb : w.heap[M]? = some (obj K es clock)) (hold : ∀ x ∈ es, x.2.2 < clock) :
    ((∀ x ∈ es, x.2.2 ∈ seen) ∧ (Instr.next (.pointer (some ⟨r, 0, none⟩)) false ty).run P w = .ok (.tuple #[.bool false]) w) ∨
    ∃ x ∈ es, x.2.2 ∉ seen ∧ ∃ w1 : World, (w1 = w ∨ w1 = w.drew) ∧ (Instr.next (.pointer (some ⟨r, 0, none⟩)) false ty).run P w = .ok (.tuple #[.bool true, K.mk x.1, x.2.1]) (setBlock w1 r (.mapIter (some M) clock (seen.push x.2.2) clock)) := by
  rcases run_next_at (P := P) w ty r M clock clock seen _ clock hr hb (fun x hx => by
      simp only [List.mem_map] at hx
      obtain ⟨y, hy, rfl⟩ := hx
      exact hold y hy) (Nat.le_refl _) with ⟨h0, hrun⟩ | ⟨e, he, w1, hw1, hrun⟩
  · refine .inl ⟨fun x hx => ?_, hrun⟩
    apply Classical.byContradiction
    intro hn
    have : ent K x ∈ (leftOf (es.map (ent K)).toArray seen) := by
      unfold leftOf
      simp [ent]
      exact ⟨⟨x.1, x.2.1, x.2.2, hx, rfl, rfl, rfl⟩, hn⟩
    have hz : leftOf (es.map (ent K)).toArray seen = #[] := Array.eq_empty_of_size_eq_zero h0
    rw [hz] at this
    simp at this
  · refine .inr ?_
    unfold leftOf at he
    simp at he
    obtain ⟨⟨a, c, d, hx, rfl⟩, hn⟩ := he
    exact ⟨(a, c, d), hx, hn, w1, hw1, hrun⟩

theorem run_entry {r : Nat} {seen : Array Nat} {x : En α} (hr : w.heap[r]? = some (.mapIter (some M) clock (seen.push x.2.2) clock)) (hb : w.heap[M]? = some (obj K es clock)) (hx : x ∈ es) (hnd : (es.map (·.2.2)).Nodup) :
    (Instr.entry (.pointer (some ⟨r, 0, none⟩))).run P w = .ok (.tuple #[K.mk x.1, x.2.1]) w :=
  run_entry_at (P := P) w r M clock seen _ clock (ent K x) hr hb (by simp; exact ⟨x.1, x.2.1, x.2.2, hx, rfl⟩) (by simp [Function.comp_def, ent]; exact hnd)

end
end Go.Proofs.Ytlokklfkiechdaa.Mp
