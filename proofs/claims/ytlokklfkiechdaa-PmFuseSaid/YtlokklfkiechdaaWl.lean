/- Maps' operations in a walk: laws at the operation, the world behind them a variable. No program is named. -/
import Derived.Test.YtlokklfkiechdaaMp
import Derived.Test.YtlokklfkiechdaaOb
import Derived.OwnWalk
import Derived.ArgAppend
import Derived.Laws.MakeOwn
set_option linter.unusedVariables false
set_option linter.unusedSimpArgs false
set_option linter.unusedSectionVars false
namespace Go.Proofs.Ytlokklfkiechdaa.Wl
open Go Go.RowKit
open Go.ChangeMaps (setBlock)
open Go.Proofs.Ytlokklfkiechdaa.Ob Go.Proofs.Ytlokklfkiechdaa.Mp

variable {α : Type} [DecidableEq α] {P : Program} {w : World} {ops : Array Oper} {rest : List Oper} {o : Oper} {a : Act} {Q : Exit → Act → World → Prop} {t kt et : TypeId} {M clock : Nat}

/-- Block M alone has turned. -/
structure Only (M : Nat) (ob : Obj) (w W : World) : Prop where
  here : W.heap[M]? = some ob
  far : ∀ i, i ≠ M → W.heap[i]? = w.heap[i]?
  upd : ∀ F : List Nat, M ∈ F → Upd F w W
  size : W.heap.size = w.heap.size

theorem only_set {M : Nat} {o' : Obj} (h : w.heap[M]? = some o') (ob : Obj) : Only M ob w (setBlock w M ob) :=
  ⟨setBlock_same h ob, fun i hi => setBlock_other w M ob i hi, fun F hF => (Upd.refl F w).setBlock (.inl hF) ob, setBlock_size w M ob⟩

theorem Only.blk {M : Nat} {ob : Obj} {W : World} (h : Only M ob w W) {i : Nat} {o' : Obj} (hi : w.heap[i]? = some o') (hne : i ≠ M) : W.heap[i]? = some o' := (h.far i hne).trans hi

theorem wpl_put_new (K : Kk α) (es : List (En α)) (hg : o.guard = none) (m x v : Operand) (t : TypeId) (hop : o.op = Op.mapUpdate t m x v) (hm : P.underlying t = some (.map kt et)) (hk : P.underlying kt = some K.kd)
    (hmv : a.eval m = .map (some M)) (k : α) (hxv : a.eval x = K.mk k) (val : Value) (hvv : a.eval v = val) (hb : w.heap[M]? = some (obj K es clock)) (hn : ∀ x ∈ es, x.1 ≠ k)
    (hK : ∀ W, Only M (obj K (es ++ [(k, val, clock)]) (clock + 1)) w W → wpList P ops Q rest (a.put o.dst undef) W) : wpList P ops Q (o :: rest) a w := by
  refine wpList_plain hg fun K' hK' => ?_
  unfold Oper.wp
  simp [execOp, hop, hmv, hxv, hvv, run_update_new hm hk hb hn (v := val), Result.andThen]
  exact hK' _ _ (hK _ (only_set hb _))

theorem wpl_put_old (K : Kk α) (pre post : List (En α)) (old : Value) (b : Nat) (hg : o.guard = none) (m x v : Operand) (t : TypeId) (hop : o.op = Op.mapUpdate t m x v) (hm : P.underlying t = some (.map kt et)) (hk : P.underlying kt = some K.kd)
    (hmv : a.eval m = .map (some M)) (k : α) (hxv : a.eval x = K.mk k) (val : Value) (hvv : a.eval v = val) (hb : w.heap[M]? = some (obj K (pre ++ (k, old, b) :: post) clock)) (hn : ∀ x ∈ pre, x.1 ≠ k)
    (hK : ∀ W, Only M (obj K (pre ++ (k, val, b) :: post) clock) w W → wpList P ops Q rest (a.put o.dst undef) W) : wpList P ops Q (o :: rest) a w := by
  refine wpList_plain hg fun K' hK' => ?_
  unfold Oper.wp
  simp [execOp, hop, hmv, hxv, hvv, run_update_old hm hk hb hn (v' := val), Result.andThen]
  exact hK' _ _ (hK _ (only_set hb _))

theorem wpl_delete_some (K : Kk α) (pre post : List (En α)) (old : Value) (b : Nat) (hg : o.guard = none) (m x : Operand) (t kt : TypeId) (hop : o.op = Op.call { callee := Callee.builtin Builtin.delete, args := #[m, x], argTypes := #[t, kt] })
    (hm : P.underlying t = some (.map kt et)) (hk : P.underlying kt = some K.kd)
    (hmv : a.eval m = .map (some M)) (k : α) (hxv : a.eval x = K.mk k) (hb : w.heap[M]? = some (obj K (pre ++ (k, old, b) :: post) clock)) (hn : ∀ x ∈ pre, x.1 ≠ k)
    (hK : ∀ W, Only M (obj K (pre ++ post) clock) w W → wpList P ops Q rest (a.put o.dst (.tuple #[])) W) : wpList P ops Q (o :: rest) a w := by
  refine wpList_plain hg fun K' hK' => ?_
  unfold Oper.wp
  simp [execOp, hop, resolve, invoke, builtin, hmv, hxv, run_delete_some (ts := #[t, kt]) (ty := o.type) rfl hm hk hb hn, Result.andThen]
  exact hK' _ _ (hK _ (only_set hb _))

theorem wpl_clear (K : Kk α) (es : List (En α)) (hg : o.guard = none) (m : Operand) (t : TypeId) (hop : o.op = Op.call { callee := Callee.builtin Builtin.clear, args := #[m], argTypes := #[t] })
    (hm : P.underlying t = some (.map kt et)) (hmv : a.eval m = .map (some M)) (hb : w.heap[M]? = some (obj K es clock))
    (hK : ∀ W, Only M (obj K [] clock) w W → wpList P ops Q rest (a.put o.dst (.tuple #[])) W) : wpList P ops Q (o :: rest) a w := by
  refine wpList_plain hg fun K' hK' => ?_
  unfold Oper.wp
  simp [execOp, hop, resolve, invoke, builtin, hmv, run_clear (ts := #[t]) (ty := o.type) rfl hm hb, Result.andThen]
  exact hK' _ _ (hK _ (only_set hb _))

theorem wpl_range (K : Kk α) (es : List (En α)) (hg : o.guard = none) (m : Operand) (t : TypeId) (hop : o.op = Op.range t m) (hm : P.underlying t = some (.map kt et)) (hmv : a.eval m = .map (some M)) (hb : w.heap[M]? = some (obj K es clock))
    (hK : wpList P ops Q rest (a.put o.dst (.pointer (some ⟨w.heap.size, 0, none⟩))) (w.alloc (.mapIter (some M) clock #[] clock))) : wpList P ops Q (o :: rest) a w := by
  refine wpList_plain hg fun K' hK' => ?_
  unfold Oper.wp
  simp [execOp, hop, hmv, run_range hm hb, Result.andThen]
  exact hK' _ _ hK

/-- The round's head: nothing is left; or an entry has come: the iterator's block alone has turned, but for a draw. -/
theorem wpl_next (K : Kk α) (es : List (En α)) (r : Nat) (seen : Array Nat) (hg : o.guard = none) (it : Operand) (hop : o.op = Op.next it false) (hit : a.eval it = .pointer (some ⟨r, 0, none⟩))
    (hr : w.heap[r]? = some (.mapIter (some M) clock seen clock)) (hb : w.heap[M]? = some (obj K es clock)) (hold : ∀ x ∈ es, x.2.2 < clock) (hnd : (es.map (·.2.2)).Nodup)
    (hDone : (∀ x ∈ es, x.2.2 ∈ seen) → wpList P ops Q rest (a.put o.dst (.tuple #[.bool false])) w)
    (hMore : ∀ x, x ∈ es → x.2.2 ∉ seen → ∀ W, Only r (.mapIter (some M) clock (seen.push x.2.2) clock) w W → (Instr.entry (.pointer (some ⟨r, 0, none⟩))).run P W = .ok (.tuple #[K.mk x.1, x.2.1]) W →
      wpList P ops Q rest (a.put o.dst (.tuple #[.bool true, K.mk x.1, x.2.1])) W) : wpList P ops Q (o :: rest) a w := by
  refine wpList_plain hg fun K' hK' => ?_
  unfold Oper.wp
  rcases run_next (P := P) (K := K) o.type hr hb hold with ⟨h0, hrun⟩ | ⟨x, hx, hn, w1, hw1, hrun⟩
  · simp [execOp, hop, hit, hrun, Result.andThen]
    exact hK' _ _ (hDone h0)
  · simp [execOp, hop, hit, hrun, Result.andThen]
    have hne : M ≠ r := by intro e; subst e; rw [hb] at hr; simp [obj] at hr
    have ho : Only r (.mapIter (some M) clock (seen.push x.2.2) clock) w (setBlock w1 r (.mapIter (some M) clock (seen.push x.2.2) clock)) := by
      rcases hw1 with rfl | rfl
      · exact only_set hr _
      · have := only_set (w := w.drew) hr (.mapIter (some M) clock (seen.push x.2.2) clock)
        exact ⟨this.here, this.far, fun F hF => ⟨(this.upd F hF).os, (this.upd F hF).tape, (this.upd F hF).output, (this.upd F hF).size, (this.upd F hF).block⟩, this.size⟩
    exact hK' _ _ (hMore x hx hn _ ho (run_entry ho.here (ho.blk hb hne) hx hnd))

/-- A row of its own, new. -/
structure NewRow (e : TypeId) (q c : Nat) (vs : List Value) (w W : World) : Prop where
  ex : ∃ cs, W.heap[q]? = some (.cells cs e (0, 0)) ∧ c ≤ cs.size ∧ ∀ (j : Nat) v, vs[j]? = some v → cs[0 + j]? = some v
  cap : vs.length ≤ c
  new : w.heap.size ≤ q
  upd : ∀ F : List Nat, Upd F w W

/-- What is appended doesn't fit: a new row. -/
theorem wpl_append_grow (hg : o.guard = none) (s x : Operand) (t : TypeId) (hop : o.op = Op.call { callee := Callee.builtin Builtin.append, args := #[s, x], argTypes := #[t, t] })
    (e : TypeId) (z : Value) (bytes : Nat) (h1 : P.underlying t = some (.slice e)) (hinf : (P.info? e).map (fun i => (i.zero, i.size, i.bytes)) = some (some z, 1, bytes)) (h6 : z.cells.size = 1)
    (ao : Option Addr) (n cap : Nat) (olds : List Value) (hs : a.eval s = .slice ao n cap) (hnone : ao = none → n = 0 ∧ cap = 0) (hlo : olds.length = n) (holds : ∀ b, ao = some b → ∀ j u, olds[j]? = some u → w.cell? (b.add j) = some u)
    (ad : Addr) (m c : Nat) (news : List Value) (hx : a.eval x = .slice (some ad) m c) (hn : news.length = m) (hc : ∀ j u, news[j]? = some u → w.cell? (ad.add j) = some u) (h1c : ∀ u ∈ news, u.oneCell' = true)
    (hfull : cap < n + m) (b1 : n + m ≤ maxLen) (b2 : (n + m) * bytes ≤ 140737488355328) (hpos : 0 < n + m)
    (hK : ∀ q c W, NewRow e q c (olds ++ news) w W → wpList P ops Q rest (a.put o.dst (.slice (some ⟨q, 0, none⟩) (n + m) c)) W) :
    wpList P ops Q (o :: rest) a w := by
  obtain ⟨i, hi, hz, hsz, hby⟩ := info_parts hinf
  refine wpList_append_grows w hg s x t hop e i z 1 bytes h1 hi hz hsz hby h6 (by decide) ao n cap olds hs hnone (by simpa using hlo) holds ad m c news hx (by simpa using hn) hc h1c hfull b1 b2 ?_
  intro v' w' hown hgr
  obtain ⟨hl, ⟨rfl, h0⟩ | ⟨g, cap', cur, rfl, hge, hb, hnc, _, hsize, ht⟩⟩ := hown
  · omega
  · refine hK g cap' w' ⟨⟨cur, hb, by omega, fun j v hj => ?_⟩, by simp [hlo, hn]; exact hnc, hge, fun F => Upd.of_grown hgr⟩
    rw [← ht, List.getElem?_take] at hj
    split at hj
    · simpa using hj
    · cases hj

theorem made_one (z : Value) (m : Nat) : madeCells #[z] m = Array.replicate m z := by
  unfold madeCells
  apply Array.ext (by simp)
  intro i h1 h2
  simp [Nat.mod_one]

/-- 'make([]T, n)', T of one cell. -/
theorem wpl_make (hg : o.guard = none) (l : Operand) (t e : TypeId) (hop : o.op = Op.makeSlice t l l) (z : Value) (bytes : Nat) (ht : P.underlying t = some (.slice e)) (hinf : (P.info? e).map (fun i => (i.zero, i.size, i.bytes)) = some (some z, 1, bytes)) (hz : z.cells = #[z])
    (m : Nat) (k : IntKind) (c : Int) (hl : a.eval l = .int k c) (hc : c = m) (hb : bytes * m ≤ 281474976710656) (hm : m ≤ 9223372036854775807)
    (hK : wpList P ops Q rest (a.put o.dst (.slice (some ⟨w.heap.size, 0, none⟩) m m)) (w.alloc (.cells (Array.replicate m z) e (0, 0)))) : wpList P ops Q (o :: rest) a w := by
  subst hc
  obtain ⟨i, hi, hzi, hsz, hby⟩ := info_parts hinf
  have hb' : (i.bytes : Int) * (m : Int) ≤ 281474976710656 := by
    rw [hby]
    have h : ((bytes * m : Nat) : Int) ≤ 281474976710656 := by omega
    rwa [Int.natCast_mul] at h
  have hr := run_make (P := P) w t e i z ht hi hzi k k m m (by omega) (Int.le_refl _) hb' (by omega)
  rw [hz, hsz, Nat.mul_one, Int.toNat_natCast, made_one] at hr
  refine wpList_plain hg fun K' hK' => ?_
  unfold Oper.wp
  simp [execOp, hop, hl, hr, Result.andThen]
  exact hK' _ _ hK

theorem only_freeze {g : Nat} {C : Array Value} {e : TypeId} (h : w.heap[g]? = some (.cells C e (0, 0))) (k : Nat) : Only g (.cells C e (k, k + 1)) w (w.freeze ⟨g, k, none⟩ 1) := by
  have hf : ∀ i, (w.freeze ⟨g, k, none⟩ 1).heap[i]? = if g = i then (w.heap[i]?).map (fun o => match o with | .cells c elem (lo, hi) => .cells c elem (if lo == hi then (k, k + 1) else (min lo k, max hi (k + 1))) | o => o) else w.heap[i]? := by
    intro i
    unfold World.freeze
    rw [if_neg (by decide)]
    simp only [Array.getElem?_modify]
    rfl
  have hs : (w.freeze ⟨g, k, none⟩ 1).heap.size = w.heap.size := by
    unfold World.freeze
    rw [if_neg (by decide)]
    simp
  refine ⟨?_, fun i hi => ?_, fun F hF => ⟨?_, ?_, ?_, by rw [hs]; exact Nat.le_refl _, fun i _ hi => ?_⟩, hs⟩
  · rw [hf, if_pos rfl, h]
    rfl
  · rw [hf, if_neg (fun e => hi e.symm)]
  · unfold World.freeze; rw [if_neg (by decide)]
  · unfold World.freeze; rw [if_neg (by decide)]
  · unfold World.freeze; rw [if_neg (by decide)]
  · rw [hf, if_neg (fun (e' : g = i) => hi (e' ▸ hF))]

/-- '[]byte("..")' of a constant: the row is marked behind its end, and the slice goes on. -/
theorem wpl_conv (hg : o.guard = none) (x : Operand) (t e : TypeId) (hop : o.op = Op.convert t t x) (ht : P.underlying t = some (.slice e)) (he : P.underlying e = some (.int .u8)) (g n c : Nat) (C : Array Value)
    (hx : a.eval x = .slice (some ⟨g, 0, none⟩) n c) (hb : w.heap[g]? = some (.cells C e (0, 0)))
    (hK : ∀ W, Only g (.cells C e (C.size, C.size + 1)) w W → wpList P ops Q rest (a.put o.dst (.slice (some ⟨g, 0, none⟩) n c)) W) : wpList P ops Q (o :: rest) a w := by
  have hsh : w.shape? g = some (e, C.size) := by unfold World.shape?; rw [hb]
  have hrun : (convert t t (.slice (some ⟨g, 0, none⟩) n c)).run P w = .ok (.slice (some ⟨g, 0, none⟩) n c) (w.freeze ⟨g, C.size, none⟩ 1) := by
    simp [convert, run_underlying ht, run_underlying he, markStringish, hsh]
  refine wpList_plain hg fun K' hK' => ?_
  unfold Oper.wp
  simp [execOp, hop, hx, hrun, Result.andThen]
  exact hK' _ _ (hK _ (only_freeze hb _))

end Go.Proofs.Ytlokklfkiechdaa.Wl
