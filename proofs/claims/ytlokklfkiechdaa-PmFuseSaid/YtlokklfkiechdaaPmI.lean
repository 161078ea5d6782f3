/- A device's fence: its loop's round. -/
import Derived.Test.YtlokklfkiechdaaPmH
set_option linter.unusedVariables false
set_option linter.unusedSimpArgs false
set_option maxHeartbeats 400000
namespace Go.Proofs.Ytlokklfkiechdaa.Pm
open Go Go.RowKit
open Go.ChangeMaps (setBlock)
open Go.Proofs.Ytlokklfkiechdaa.Ob Go.Proofs.Ytlokklfkiechdaa.Mp Go.Proofs.Ytlokklfkiechdaa.Dv Go.Proofs.Ytlokklfkiechdaa.Wl

theorem left_eq {w : World} {M r clock : Nat} {α : Type} [DecidableEq α] {K : Kk α} {es : List (En α)} {seen : Array Nat} {a c : Nat} (hr : w.heap[r]? = some (.mapIter (some M) a seen c)) (hb : w.heap[M]? = some (obj K es clock)) :
    w.rangeLeft M r = (es.filter fun x => decide (x.2.2 ∉ seen)).length := by
  unfold obj at hb
  simp only [World.rangeLeft, hr, hb, leftOf]
  simp only [List.filter_toArray', List.size_toArray, List.filter_map, List.length_map, ent, Function.comp_def]
  congr 1
  apply List.filter_congr
  intro x _
  simp

theorem left_lt {α : Type} {es es' : List (En α)} {seen : Array Nat} {pre post : List (En α)} {x : En α} (he : es = pre ++ x :: post) (hx : x.2.2 ∉ seen) (mid : List (En α)) (hmid : ∀ y ∈ mid, y.2.2 = x.2.2) (he' : es' = pre ++ (mid ++ post)) :
    (es'.filter fun y => decide (y.2.2 ∉ seen.push x.2.2)).length < (es.filter fun y => decide (y.2.2 ∉ seen)).length := by
  subst he he'
  have h0 : mid.filter (fun y => decide (y.2.2 ∉ seen.push x.2.2)) = [] := by
    rw [List.filter_eq_nil_iff]
    intro y hy
    simp [hmid y hy]
  have hle : ∀ l : List (En α), (l.filter fun y => decide (y.2.2 ∉ seen.push x.2.2)).length ≤ (l.filter fun y => decide (y.2.2 ∉ seen)).length := by
    intro l
    induction l with
    | nil => simp
    | cons y l ih =>
      simp only [List.filter_cons]
      by_cases h1 : y.2.2 ∉ seen.push x.2.2
      · have h2 : y.2.2 ∉ seen := by
          simp at h1
          exact h1.1
        rw [if_pos (by simpa using h1), if_pos (by simpa using h2)]
        simp only [List.length_cons]
        omega
      · rw [if_neg (by simpa using h1)]
        split
        · simp only [List.length_cons]; omega
        · exact ih
  simp only [List.filter_append, List.filter_cons, h0, List.nil_append, List.length_append, hx, not_false_eq_true, decide_true, if_true, List.length_cons]
  have := hle pre
  have := hle post
  omega

/-- A lasting word has turned. -/
theorem dev_las {w : World} {b : Nat} {d : Dev} {g : Lay} (h : DevIs w b d g) {q off n : Nat} (hA : g.A = some ⟨q, off, none⟩) (hq : g.Ls = [q]) (hn : n < d.las.length) (v : Int) (hw : Dev.Wf { d with las := d.las.set n v }) :
    DevIs (w.setCell ⟨q, off + n, none⟩ (.int .u64 v)) b { d with las := d.las.set n v } g ∧ q ∈ g.foot b := by
  have hnd := h.nd
  have hqf : q ∈ g.foot b := by simp [Lay.foot, hq]
  simp only [Lay.foot, hq, List.singleton_append, List.nodup_cons, List.mem_cons, not_or] at hnd
  obtain ⟨⟨b1, b2, b3⟩, ⟨m1, m2⟩, l1, e1⟩ := hnd
  have hk : ∀ k, k ≠ q → (w.setCell ⟨q, off + n, none⟩ (.int .u64 v)).heap[k]? = w.heap[k]? := fun k hk => Below.heap_setCell w _ _ k hk
  refine ⟨⟨?_, ?_, (hk _ m1).trans h.map, fun x hx => (h.ents x hx).keep (hk _ (fun e => l1 (e ▸ (mem_ents hx).1))) (hk _ (fun e => l1 (e ▸ (mem_ents hx).2))), h.opn, h.nd, h.bnd, h.old, hw⟩, hqf⟩
  · rw [hk b b2, h.blk]
    simp [cellsOf]
  · have hl := h.las
    rw [hA] at hl ⊢
    have := hl.set_ (i := n) (by rw [u64s_length]; exact hn) (.int .u64 v)
    simpa [u64s, List.map_set] using this

/-- A word is pending no more. -/
theorem dev_del {w W : World} {b : Nat} {d d' : Dev} {g : Lay} (h : DevIs w b d g) {pre post : List Ent} {x : Ent} (he : g.es = pre ++ x :: post) (hm : W.heap[g.M]? = some (obj (kInt .i64) ((pre ++ post).map Ent.en) g.clock)) (hu : Upd [g.M, x.p, x.q] w W)
    (hc : cellsOf d' g = cellsOf d g) (hl : d'.las = d.las) (ho : d'.opn = (pre ++ post).map fun x => (x.key, x.pen)) (hw : d'.Wf) :
    DevIs W b d' { g with es := pre ++ post } ∧ ∀ k ∈ ({ g with es := pre ++ post } : Lay).foot b, k ∈ g.foot b := by
  have hnd := h.nd
  have hlt := h.lt
  obtain ⟨A, c, Ls, M, clock, es⟩ := g
  simp only at he hm hu
  subst he
  have hsub : List.Sublist (Lay.foot ⟨A, c, Ls, M, clock, pre ++ post⟩ b) (Lay.foot ⟨A, c, Ls, M, clock, pre ++ x :: post⟩ b) := by
    simp only [Lay.foot, Lay.ents, List.flatMap_append, List.flatMap_cons]
    apply List.Sublist.cons_cons
    apply List.Sublist.cons_cons
    apply List.Sublist.append (List.Sublist.refl _)
    apply List.Sublist.append (List.Sublist.refl _)
    exact List.sublist_append_right _ _
  have hnd2 := hnd
  have hfoot : Lay.foot ⟨A, c, Ls, M, clock, pre ++ x :: post⟩ b = b :: M :: (Ls ++ (pre.flatMap (fun x => [x.p, x.q]) ++ (x.p :: x.q :: post.flatMap fun x => [x.p, x.q]))) := by
    simp [Lay.foot, Lay.ents]
  rw [hfoot] at hnd2 hlt
  have hpre : ∀ y ∈ pre, y.p ∈ pre.flatMap (fun x => [x.p, x.q]) ∧ y.q ∈ pre.flatMap (fun x => [x.p, x.q]) := fun y hy => by simp only [List.mem_flatMap]; exact ⟨⟨y, hy, by simp⟩, ⟨y, hy, by simp⟩⟩
  have hpost : ∀ y ∈ post, y.p ∈ post.flatMap (fun x => [x.p, x.q]) ∧ y.q ∈ post.flatMap (fun x => [x.p, x.q]) := fun y hy => by simp only [List.mem_flatMap]; exact ⟨⟨y, hy, by simp⟩, ⟨y, hy, by simp⟩⟩
  generalize pre.flatMap (fun x => [x.p, x.q]) = G at *
  generalize post.flatMap (fun x => [x.p, x.q]) = H at *
  simp only [List.nodup_cons, List.nodup_append, List.mem_cons, List.mem_append, not_or] at hnd2
  obtain ⟨⟨b1, b2, b3, b4, b5, b6⟩, ⟨m1, m2, m3, m4, m5⟩, l1, ⟨g1, ⟨⟨x1, x2⟩, x3, h1⟩, g2⟩, l2⟩ := hnd2
  have keep : ∀ k, k < w.heap.size → k ≠ M → k ≠ x.p → k ≠ x.q → W.heap[k]? = w.heap[k]? := fun k hk n0 n1 n2 => hu.block k hk (by simp [n0, n1, n2])
  have hmem : ∀ y ∈ pre ++ post, y ∈ pre ++ x :: post := by
    intro y hy
    simp only [List.mem_append, List.mem_cons] at hy ⊢
    rcases hy with r | r
    · exact .inl r
    · exact .inr (.inr r)
  refine ⟨⟨?_, ?_, hm, fun y hy => ?_, ho, hsub.nodup hnd, ?_, fun y hy => h.old y (hmem y hy), hw⟩, fun k hk => hsub.subset hk⟩
  · rw [keep b (hlt b (by simp)) b1 b4 b5, h.blk]
    exact congrArg (fun c => some (Obj.cells c _ _)) hc.symm
  · rw [hl]
    refine h.las.keep fun q hq => keep q (hlt q (by simp [hq])) (fun e => m1 (e ▸ hq)) ?_ ?_
    · exact fun e => l2 q hq x.p (by simp) e
    · exact fun e => l2 q hq x.q (by simp) e
  · simp only [List.mem_append] at hy
    rcases hy with hy | hy
    · have hin := hpre y hy
      refine (h.ents y (by simp [hy])).keep (keep _ (hlt _ (by simp [hin.1])) ?_ ?_ ?_) (keep _ (hlt _ (by simp [hin.2])) ?_ ?_ ?_)
      · exact fun e => m2 (e ▸ hin.1)
      · exact fun e => g2 _ hin.1 x.p (by simp) e
      · exact fun e => g2 _ hin.1 x.q (by simp) e
      · exact fun e => m2 (e ▸ hin.2)
      · exact fun e => g2 _ hin.2 x.p (by simp) e
      · exact fun e => g2 _ hin.2 x.q (by simp) e
    · have hin := hpost y hy
      refine (h.ents y (by simp [hy])).keep (keep _ (hlt _ (by simp [hin.1])) ?_ ?_ ?_) (keep _ (hlt _ (by simp [hin.2])) ?_ ?_ ?_)
      · exact fun e => m5 (e ▸ hin.1)
      · exact fun e => x2 (e ▸ hin.1)
      · exact fun e => x3 (e ▸ hin.1)
      · exact fun e => m5 (e ▸ hin.2)
      · exact fun e => x2 (e ▸ hin.2)
      · exact fun e => x3 (e ▸ hin.2)
  · have := h.bnd
    simp only [List.map_append, List.map_cons] at this ⊢
    exact (List.Sublist.append (List.Sublist.refl _) (List.sublist_cons_self _ _)).nodup this

/-! ### what may be, entry by entry -/
theorem wf_las {d : Dev} (h : d.Wf) (n : Nat) (v : Int) : Dev.Wf { d with las := d.las.set n v } :=
  ⟨by simpa using h.len, h.keys, h.lo, by simpa using h.hi, h.ne, h.fl, h.few, h.st, h.lim, h.fuse⟩

theorem wf_sub {d d' : Dev} (h : d.Wf) {pre mid post : List Ent} {x : Ent} (ho : d.opn = (pre ++ x :: post).map fun x => (x.key, x.pen)) (ho' : d'.opn = (pre ++ (mid ++ post)).map fun x => (x.key, x.pen))
    (hm : mid = [] ∨ ∃ x', mid = [x'] ∧ x'.key = x.key ∧ x'.pen.l ≠ [] ∧ x'.pen.fl ≤ x'.pen.l.length ∧ x'.pen.l.length ≤ x.pen.l.length)
    (hl : d'.las.length = d.las.length) (hs : d'.steps = d.steps) (hst : d'.stores = d.stores) (hfu : d'.fuse = d.fuse) : d'.Wf := by
  have hkeys := h.keys
  have hin : ∀ z ∈ d'.opn, z ∈ d.opn ∨ ∃ x', mid = [x'] ∧ z = (x'.key, x'.pen) := by
    intro z hz
    rw [ho'] at hz
    rw [ho]
    simp only [List.map_append, List.map_cons, List.mem_append, List.mem_cons] at hz ⊢
    rcases hz with hz | hz | hz
    · exact .inl (.inl hz)
    · rcases hm with rfl | ⟨x', rfl, _⟩
      · simp at hz
      · simp at hz
        exact .inr ⟨x', rfl, hz⟩
    · exact .inl (.inr (.inr hz))
  have hxm : (x.key, x.pen) ∈ d.opn := by rw [ho]; simp
  refine ⟨by rw [hl]; exact h.len, ?_, fun z hz => ?_, fun z hz => ?_, fun z hz => ?_, fun z hz => ?_, fun z hz => ?_, by rw [hs, hst]; exact h.st, by rw [hs]; exact h.lim, by rw [hfu]; exact h.fuse⟩
  · rw [ho'] 
    rw [ho] at hkeys
    simp only [List.map_append, List.map_cons, List.map_map, Function.comp_def] at hkeys ⊢
    rcases hm with rfl | ⟨x', rfl, e, _⟩
    · simp only [List.map_nil, List.nil_append]
      exact (List.Sublist.append (List.Sublist.refl _) (List.sublist_cons_self _ _)).nodup hkeys
    · simp only [List.map_cons, List.map_nil, List.cons_append, List.nil_append, e]
      exact hkeys
  all_goals
    rcases hin z hz with r | ⟨x', rfl, rfl⟩
  · exact h.lo z r
  · rcases hm with c | ⟨x'', c, e, _⟩
    · simp at c
    · simp at c; subst c; simp only [e]; exact h.lo _ hxm
  · rw [hl]; exact h.hi z r
  · rcases hm with c | ⟨x'', c, e, _⟩
    · simp at c
    · simp at c; subst c; simp only [e, hl]; exact h.hi _ hxm
  · exact h.ne z r
  · rcases hm with c | ⟨x'', c, e, e2, _⟩
    · simp at c
    · simp at c; subst c; exact e2
  · exact h.fl z r
  · rcases hm with c | ⟨x'', c, e, e2, e3, _⟩
    · simp at c
    · simp at c; subst c; exact e3
  · rw [hst]; exact h.few z r
  · rcases hm with c | ⟨x'', c, e, e2, e3, e4⟩
    · simp at c
    · simp at c; subst c
      have := h.few _ hxm
      simp only at this ⊢
      omega

end Go.Proofs.Ytlokklfkiechdaa.Pm
