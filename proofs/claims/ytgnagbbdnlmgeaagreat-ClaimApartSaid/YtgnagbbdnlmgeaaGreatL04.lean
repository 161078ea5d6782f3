/- Parts of the proof, one behind the other: PmI, PmJ, PmK, PmL, PmR, Bn. -/
import Derived.Test.YtgnagbbdnlmgeaaGreatL03
import Derived.RegionTactic
import Derived.ChangeAlike
import Derived.Maps.RangeWalk
import Derived.Carry
import Derived.Test.YtgnagbbdnlmgeaaGreatL02
set_option linter.unusedVariables false
set_option linter.unusedSimpArgs false
set_option linter.unusedSectionVars false
section
set_option maxHeartbeats 400000
namespace Go.Proofs.YtgnagbbdnlmgeaaGreat.Pm
open Go Go.RowKit
open Go.ChangeMaps (setBlock)
open Ob Mp Dv Wl
theorem left_eq {w : World} {M r clock : Nat} {α : Type} [DecidableEq α] {K : Kk α} {es : List (En α)} {seen : Array Nat} {a c : Nat} (hr : w.heap[r]? = some (.mapIter (some M) a seen c)) (hb : w.heap[M]? = some (obj K es clock)) :
    w.rangeLeft M r = (es.filter fun x => decide (x.2.2 ∉ seen)).length := by
  unfold obj at hb
  simp only [World.rangeLeft, hr, hb, leftOf]
  simp only [List.filter_toArray', List.size_toArray, List.filter_map, List.length_map, ent, Function.comp_def]
  congr 1
  apply List.filter_congr
  intro x _
  simp
theorem left_lt {α : Type} {es es' : List (En α)} {seen : Array Nat} {pre post : List (En α)} {x : En α} (he : es = pre ++ x :: post) (hx : x.2.2 ∉ seen) (mid : List (En α)) (hmid : ∀ y ∈ mid, y.2.2 = x.2.2) (he' : es' = pre ++ (mid ++ post)) :
    (es'.filter fun y => decide (y.2.2 ∉ seen.push x.2.2)).length < (es.filter fun y => decide (y.2.2 ∉ seen)).length := by
  subst he he'
  have h0 : mid.filter (fun y => decide (y.2.2 ∉ seen.push x.2.2)) = [] := by
    rw [List.filter_eq_nil_iff]
    intro y hy
    simp [hmid y hy]
  have hle : ∀ l : List (En α), (l.filter fun y => decide (y.2.2 ∉ seen.push x.2.2)).length ≤ (l.filter fun y => decide (y.2.2 ∉ seen)).length := by
    intro l
    induction l with
    | nil => simp
    | cons y l ih =>
      simp only [List.filter_cons]
      by_cases h1 : y.2.2 ∉ seen.push x.2.2
      · have h2 : y.2.2 ∉ seen := by
          simp at h1
          exact h1.1
        rw [if_pos (by simpa using h1), if_pos (by simpa using h2)]
        simp only [List.length_cons]
        omega
      · rw [if_neg (by simpa using h1)]
        split
        · simp only [List.length_cons]; omega
        · exact ih
  simp only [List.filter_append, List.filter_cons, h0, List.nil_append, List.length_append, hx, not_false_eq_true, decide_true, if_true, List.length_cons]
  have := hle pre
  have := hle post
  omega
theorem dev_las {w : World} {b : Nat} {d : Dev} {g : Lay} (h : DevIs w b d g) {q off n : Nat} (hA : g.A = some ⟨q, off, none⟩) (hq : g.Ls = [q]) (hn : n < d.las.length) (v : Int) (hw : Dev.Wf { d with las := d.las.set n v }) :
    DevIs (w.setCell ⟨q, off + n, none⟩ (.int .u64 v)) b { d with las := d.las.set n v } g ∧ q ∈ g.foot b := by
  have hnd := h.nd
  have hqf : q ∈ g.foot b := by simp [Lay.foot, hq]
  simp only [Lay.foot, hq, List.singleton_append, List.nodup_cons, List.mem_cons, not_or] at hnd
  obtain ⟨⟨b1, b2, b3⟩, ⟨m1, m2⟩, l1, e1⟩ := hnd
  have hk : ∀ k, k ≠ q → (w.setCell ⟨q, off + n, none⟩ (.int .u64 v)).heap[k]? = w.heap[k]? := fun k hk => Below.heap_setCell w _ _ k hk
  refine ⟨⟨?_, ?_, (hk _ m1).trans h.map, fun x hx => (h.ents x hx).keep (hk _ (fun e => l1 (e ▸ (mem_ents hx).1))) (hk _ (fun e => l1 (e ▸ (mem_ents hx).2))), h.opn, h.nd, h.bnd, h.old, hw⟩, hqf⟩
  · rw [hk b b2, h.blk]
    simp [cellsOf]
  · have hl := h.las
    rw [hA] at hl ⊢
    have := hl.set_ (i := n) (by rw [u64s_length]; exact hn) (.int .u64 v)
    simpa [u64s, List.map_set] using this
theorem dev_del {w W : World} {b : Nat} {d d' : Dev} {g : Lay} (h : DevIs w b d g) {pre post : List Ent} {x : Ent} (he : g.es = pre ++ x :: post) (hm : W.heap[g.M]? = some (obj (kInt .i64) ((pre ++ post).map Ent.en) g.clock)) (hu : Upd [g.M, x.p, x.q] w W)
    (hc : cellsOf d' g = cellsOf d g) (hl : d'.las = d.las) (ho : d'.opn = (pre ++ post).map fun x => (x.key, x.pen)) (hw : d'.Wf) :
    DevIs W b d' { g with es := pre ++ post } ∧ ∀ k ∈ ({ g with es := pre ++ post } : Lay).foot b, k ∈ g.foot b := by
  have hnd := h.nd
  have hlt := h.lt
  obtain ⟨A, c, Ls, M, clock, es⟩ := g
  simp only at he hm hu
  subst he
  have hsub : List.Sublist (Lay.foot ⟨A, c, Ls, M, clock, pre ++ post⟩ b) (Lay.foot ⟨A, c, Ls, M, clock, pre ++ x :: post⟩ b) := by
    simp only [Lay.foot, Lay.ents, List.flatMap_append, List.flatMap_cons]
    apply List.Sublist.cons_cons
    apply List.Sublist.cons_cons
    apply List.Sublist.append (List.Sublist.refl _)
    apply List.Sublist.append (List.Sublist.refl _)
    exact List.sublist_append_right _ _
  have hnd2 := hnd
  have hfoot : Lay.foot ⟨A, c, Ls, M, clock, pre ++ x :: post⟩ b = b :: M :: (Ls ++ (pre.flatMap (fun x => [x.p, x.q]) ++ (x.p :: x.q :: post.flatMap fun x => [x.p, x.q]))) := by
    simp [Lay.foot, Lay.ents]
  rw [hfoot] at hnd2 hlt
  have hpre : ∀ y ∈ pre, y.p ∈ pre.flatMap (fun x => [x.p, x.q]) ∧ y.q ∈ pre.flatMap (fun x => [x.p, x.q]) := fun y hy => by simp only [List.mem_flatMap]; exact ⟨⟨y, hy, by simp⟩, ⟨y, hy, by simp⟩⟩
  have hpost : ∀ y ∈ post, y.p ∈ post.flatMap (fun x => [x.p, x.q]) ∧ y.q ∈ post.flatMap (fun x => [x.p, x.q]) := fun y hy => by simp only [List.mem_flatMap]; exact ⟨⟨y, hy, by simp⟩, ⟨y, hy, by simp⟩⟩
  generalize pre.flatMap (fun x => [x.p, x.q]) = G at *
  generalize post.flatMap (fun x => [x.p, x.q]) = H at *
  simp only [List.nodup_cons, List.nodup_append, List.mem_cons, List.mem_append, not_or] at hnd2
  obtain ⟨⟨b1, b2, b3, b4, b5, b6⟩, ⟨m1, m2, m3, m4, m5⟩, l1, ⟨g1, ⟨⟨x1, x2⟩, x3, h1⟩, g2⟩, l2⟩ := hnd2
  have keep : ∀ k, k < w.heap.size → k ≠ M → k ≠ x.p → k ≠ x.q → W.heap[k]? = w.heap[k]? := fun k hk n0 n1 n2 => hu.block k hk (by simp [n0, n1, n2])
  have hmem : ∀ y ∈ pre ++ post, y ∈ pre ++ x :: post := by
    intro y hy
    simp only [List.mem_append, List.mem_cons] at hy ⊢
    rcases hy with r | r
    · exact .inl r
    · exact .inr (.inr r)
  refine ⟨⟨?_, ?_, hm, fun y hy => ?_, ho, hsub.nodup hnd, ?_, fun y hy => h.old y (hmem y hy), hw⟩, fun k hk => hsub.subset hk⟩
  · rw [keep b (hlt b (by simp)) b1 b4 b5, h.blk]
    exact congrArg (fun c => some (Obj.cells c _ _)) hc.symm
  · rw [hl]
    refine h.las.keep fun q hq => keep q (hlt q (by simp [hq])) (fun e => m1 (e ▸ hq)) ?_ ?_
    · exact fun e => l2 q hq x.p (by simp) e
    · exact fun e => l2 q hq x.q (by simp) e
  · simp only [List.mem_append] at hy
    rcases hy with hy | hy
    · have hin := hpre y hy
      refine (h.ents y (by simp [hy])).keep (keep _ (hlt _ (by simp [hin.1])) ?_ ?_ ?_) (keep _ (hlt _ (by simp [hin.2])) ?_ ?_ ?_)
      · exact fun e => m2 (e ▸ hin.1)
      · exact fun e => g2 _ hin.1 x.p (by simp) e
      · exact fun e => g2 _ hin.1 x.q (by simp) e
      · exact fun e => m2 (e ▸ hin.2)
      · exact fun e => g2 _ hin.2 x.p (by simp) e
      · exact fun e => g2 _ hin.2 x.q (by simp) e
    · have hin := hpost y hy
      refine (h.ents y (by simp [hy])).keep (keep _ (hlt _ (by simp [hin.1])) ?_ ?_ ?_) (keep _ (hlt _ (by simp [hin.2])) ?_ ?_ ?_)
      · exact fun e => m5 (e ▸ hin.1)
      · exact fun e => x2 (e ▸ hin.1)
      · exact fun e => x3 (e ▸ hin.1)
      · exact fun e => m5 (e ▸ hin.2)
      · exact fun e => x2 (e ▸ hin.2)
      · exact fun e => x3 (e ▸ hin.2)
  · have := h.bnd
    simp only [List.map_append, List.map_cons] at this ⊢
    exact (List.Sublist.append (List.Sublist.refl _) (List.sublist_cons_self _ _)).nodup this
theorem wf_las {d : Dev} (h : d.Wf) (n : Nat) (v : Int) : Dev.Wf { d with las := d.las.set n v } :=
  ⟨by simpa using h.len, h.keys, h.lo, by simpa using h.hi, h.ne, h.fl, h.few, h.st, h.lim, h.fuse⟩
theorem wf_sub {d d' : Dev} (h : d.Wf) {pre mid post : List Ent} {x : Ent} (ho : d.opn = (pre ++ x :: post).map fun x => (x.key, x.pen)) (ho' : d'.opn = (pre ++ (mid ++ post)).map fun x => (x.key, x.pen))
    (hm : mid = [] ∨ ∃ x', mid = [x'] ∧ x'.key = x.key ∧ x'.pen.l ≠ [] ∧ x'.pen.fl ≤ x'.pen.l.length ∧ x'.pen.l.length ≤ x.pen.l.length)
    (hl : d'.las.length = d.las.length) (hs : d'.steps = d.steps) (hst : d'.stores = d.stores) (hfu : d'.fuse = d.fuse) : d'.Wf := by
  have hkeys := h.keys
  have hin : ∀ z ∈ d'.opn, z ∈ d.opn ∨ ∃ x', mid = [x'] ∧ z = (x'.key, x'.pen) := by
    intro z hz
    rw [ho'] at hz
    rw [ho]
    simp only [List.map_append, List.map_cons, List.mem_append, List.mem_cons] at hz ⊢
    rcases hz with hz | hz | hz
    · exact .inl (.inl hz)
    · rcases hm with rfl | ⟨x', rfl, _⟩
      · simp at hz
      · simp at hz
        exact .inr ⟨x', rfl, hz⟩
    · exact .inl (.inr (.inr hz))
  have hxm : (x.key, x.pen) ∈ d.opn := by rw [ho]; simp
  refine ⟨by rw [hl]; exact h.len, ?_, fun z hz => ?_, fun z hz => ?_, fun z hz => ?_, fun z hz => ?_, fun z hz => ?_, by rw [hs, hst]; exact h.st, by rw [hs]; exact h.lim, by rw [hfu]; exact h.fuse⟩
  · rw [ho'] 
    rw [ho] at hkeys
    simp only [List.map_append, List.map_cons, List.map_map, Function.comp_def] at hkeys ⊢
    rcases hm with rfl | ⟨x', rfl, e, _⟩
    · simp only [List.map_nil, List.nil_append]
      exact (List.Sublist.append (List.Sublist.refl _) (List.sublist_cons_self _ _)).nodup hkeys
    · simp only [List.map_cons, List.map_nil, List.cons_append, List.nil_append, e]
      exact hkeys
  all_goals
    rcases hin z hz with r | ⟨x', rfl, rfl⟩
  · exact h.lo z r
  · rcases hm with c | ⟨x'', c, e, _⟩
    · simp at c
    · simp at c; subst c; simp only [e]; exact h.lo _ hxm
  · rw [hl]; exact h.hi z r
  · rcases hm with c | ⟨x'', c, e, _⟩
    · simp at c
    · simp at c; subst c; simp only [e, hl]; exact h.hi _ hxm
  · exact h.ne z r
  · rcases hm with c | ⟨x'', c, e, e2, _⟩
    · simp at c
    · simp at c; subst c; exact e2
  · exact h.fl z r
  · rcases hm with c | ⟨x'', c, e, e2, e3, _⟩
    · simp at c
    · simp at c; subst c; exact e3
  · rw [hst]; exact h.few z r
  · rcases hm with c | ⟨x'', c, e, e2, e3, e4⟩
    · simp at c
    · simp at c; subst c
      have := h.few _ hxm
      simp only at this ⊢
      omega
end Go.Proofs.YtgnagbbdnlmgeaaGreat.Pm
end
section
set_option maxHeartbeats 400000
namespace Go.Proofs.YtgnagbbdnlmgeaaGreat.Pm
open Go Go.RowKit
open Go.ChangeMaps (setBlock)
open Ob Mp Dv Wl
structure FeRel (w : World) (b : Nat) (d : Dev) (g : Lay) (r : Nat) (wr : World) (dk : Dev) (gk : Lay) (seen : Array Nat) : Prop where
  dev : DevIs wr b dk gk
  foot : ∀ x ∈ gk.foot b, x ∈ g.foot b
  upd : Upd (g.foot b) w wr
  it : wr.heap[r]? = some (.mapIter (some gk.M) gk.clock seen gk.clock)
  new : w.heap.size ≤ r
  opn : finOpn gk.es seen = d.opn.filterMap fencePen
  las : finLas gk.es seen dk.las = d.las.mapIdx (fenceWord d.opn)
  cnt : dk.steps = d.steps + 1 ∧ dk.stores = d.stores ∧ dk.fuse = (d.stepped false).fuse
  M : gk.M = g.M
theorem ne_foot {w : World} {b : Nat} {d : Dev} {g : Lay} (h : DevIs w b d g) {x : Ent} (hx : x ∈ g.es) : b ≠ x.p ∧ b ≠ x.q ∧ g.M ≠ x.p ∧ g.M ≠ x.q ∧ b ≠ g.M := by
  have hnd := h.nd
  have hm := mem_ents hx
  simp only [Lay.foot, List.nodup_cons, List.mem_cons, List.mem_append, not_or] at hnd
  obtain ⟨⟨h1, h2, h3⟩, ⟨h4, h5⟩, _⟩ := hnd
  exact ⟨fun e => h3 (e ▸ hm.1), fun e => h3 (e ▸ hm.2), fun e => h5 (e ▸ hm.1), fun e => h5 (e ▸ hm.2), h1⟩
theorem FeRel.far {w wr : World} {b : Nat} {d dk : Dev} {g gk : Lay} {r : Nat} {seen : Array Nat} (h : FeRel w b d g r wr dk gk seen) (h0 : DevIs w b d g) : ∀ k ∈ gk.foot b, k ≠ r := by
  intro k hk e
  have := h0.lt k (h.foot k hk)
  have := h.new
  omega
theorem fe_keep {w wr W : World} {b : Nat} {d dk : Dev} {g gk : Lay} {r : Nat} {seen : Array Nat} (h : FeRel w b d g r wr dk gk seen) (h0 : DevIs w b d g) {pre post : List Ent} {y : Ent}
    (hW : Only r (.mapIter (some gk.M) gk.clock (seen.push y.born) gk.clock) wr W) (he : gk.es = pre ++ y :: post) (hns : y.born ∉ seen) (hfl : y.pen.fl = 0) :
    FeRel w b d g r W dk gk (seen.push y.born) ∧ W.rangeLeft g.M r < wr.rangeLeft g.M r := by
  have hf := h.far h0
  have hd : DevIs W b dk gk := h.dev.keep (fun k hk => hW.far k (hf k hk))
  have hk := h.dev.wf.keys
  rw [h.dev.opn, List.map_map] at hk
  have hb := h.dev.bnd
  rw [he] at hk hb
  have hmid : ([y].map fun x => (x.key, x.pen)) = (fencePen (y.key, y.pen)).toList := by simp [fencePen, hfl]
  have hlo := h.dev.wf.lo (y.key, y.pen) (by rw [h.dev.opn, he]; simp)
  obtain ⟨e1, e2⟩ := fin_step hns hk hb [y] (.inr ⟨y, rfl, rfl⟩) hmid dk.las dk.las (by simp [hfl]) hlo
  simp only [List.cons_append, List.nil_append] at e1 e2
  refine ⟨⟨hd, h.foot, ?_, hW.here, h.new, by rw [he, e1, ← he]; exact h.opn, by rw [he, e2, ← he]; exact h.las, h.cnt, h.M⟩, ?_⟩
  · exact h.upd.trans (hW.upd [r] (by simp)) (by simp [h.new])
  · have hm1 := h.dev.map
    have hm2 := hd.map
    have hi1 := h.it
    have hi2 := hW.here
    rw [h.M] at hm1 hm2 hi1 hi2
    rw [left_eq hi1 hm1, left_eq hi2 hm2, he]
    exact left_lt (pre := pre.map Ent.en) (post := post.map Ent.en) (x := y.en) (by simp) hns [y.en] (by simp) (by simp)
theorem fe_turn {w wr W W3 : World} {b : Nat} {d dk : Dev} {g gk : Lay} {r : Nat} {seen : Array Nat} (h : FeRel w b d g r wr dk gk seen) (h0 : DevIs w b d g) {pre post : List Ent} {y : Ent}
    (hW : Only r (.mapIter (some gk.M) gk.clock (seen.push y.born) gk.clock) wr W) (he : gk.es = pre ++ y :: post) (hns : y.born ∉ seen) (hfl : y.pen.fl ≠ 0)
    {qL offL n : Nat} (hA : gk.A = some ⟨qL, offL, none⟩) (hq : gk.Ls = [qL]) (hn : n < dk.las.length) (hkey : y.key = n)
    (mid : List Ent) (hmid : (mid = [] ∧ y.pen.l.length ≤ y.pen.fl ∧ W3.heap[gk.M]? = some (obj (kInt .i64) ((pre ++ post).map Ent.en) gk.clock) ∧ Upd [gk.M, y.p, y.q] (W.setCell ⟨qL, offL + n, none⟩ (.int .u64 (y.pen.l.getD (y.pen.fl - 1) 0))) W3) ∨
      (∃ y', mid = [y'] ∧ y' = { y with off := y.off + y.pen.fl, cap := y.cap - y.pen.fl, pen := ⟨y.pen.l.drop y.pen.fl, 0⟩ } ∧ y.pen.fl < y.pen.l.length ∧ Upd [y.p, y.q] (W.setCell ⟨qL, offL + n, none⟩ (.int .u64 (y.pen.l.getD (y.pen.fl - 1) 0))) W3 ∧ EntAt W3 y'))
    (hit : W3.heap[r]? = some (.mapIter (some gk.M) gk.clock (seen.push y.born) gk.clock)) :
    ∃ dk' gk', FeRel w b d g r W3 dk' gk' (seen.push y.born) ∧ W3.rangeLeft g.M r < wr.rangeLeft g.M r := by
  have hf := h.far h0
  have hd : DevIs W b dk gk := h.dev.keep (fun k hk => hW.far k (hf k hk))
  have hk := h.dev.wf.keys
  rw [h.dev.opn, List.map_map] at hk
  have hb := h.dev.bnd
  rw [he] at hk hb
  have hlo := h.dev.wf.lo (y.key, y.pen) (by rw [h.dev.opn, he]; simp)
  obtain ⟨hd2, hqf⟩ := dev_las hd hA hq hn (y.pen.l.getD (y.pen.fl - 1) 0) (wf_las hd.wf n _)
  have hym : y ∈ gk.es := by rw [he]; simp
  have hmid' : (mid.map fun x => (x.key, x.pen)) = (fencePen (y.key, y.pen)).toList := by
    rcases hmid with ⟨rfl, hle, _⟩ | ⟨y', rfl, rfl, hlt, _⟩
    · simp [fencePen, hfl, hle]
    · have : ¬ y.pen.l.length ≤ y.pen.fl := by omega
      simp [fencePen, hfl, this]
  have hmb : mid = [] ∨ ∃ x', mid = [x'] ∧ x'.born = y.born := by
    rcases hmid with ⟨rfl, _⟩ | ⟨y', rfl, rfl, _⟩
    · exact .inl rfl
    · exact .inr ⟨_, rfl, rfl⟩
  obtain ⟨e1, e2⟩ := fin_step hns hk hb mid hmb hmid' dk.las (dk.las.set n (y.pen.l.getD (y.pen.fl - 1) 0)) (by simp [hfl, hkey]) hlo
  have hu0 : Upd (g.foot b) w (W.setCell ⟨qL, offL + n, none⟩ (.int .u64 (y.pen.l.getD (y.pen.fl - 1) 0))) :=
    (h.upd.trans (hW.upd [r] (by simp)) (by simp [h.new])).setCell (.inl (h.foot _ hqf)) _
  have hM : gk.M ∈ g.foot b := h.foot _ (by simp [Lay.foot])
  have hp : y.p ∈ g.foot b := h.foot _ (by simp [Lay.foot, (mem_ents hym).1])
  have hq' : y.q ∈ g.foot b := h.foot _ (by simp [Lay.foot, (mem_ents hym).2])
  have hleft : ∀ es', (es' = pre ++ (mid ++ post)) → W3.heap[gk.M]? = some (obj (kInt .i64) (es'.map Ent.en) gk.clock) → W3.rangeLeft g.M r < wr.rangeLeft g.M r := by
    intro es' hes hm2
    have hm1 := h.dev.map
    have hi1 := h.it
    rw [h.M] at hm1 hm2 hi1 hit
    rw [left_eq hi1 hm1, left_eq hit hm2, he, hes]
    refine left_lt (pre := pre.map Ent.en) (post := post.map Ent.en) (x := y.en) (by simp) hns (mid.map Ent.en) ?_ (by simp)
    rcases hmb with rfl | ⟨x', rfl, e⟩
    · simp
    · intro z hz; simp at hz; subst hz; exact e
  rcases hmid with ⟨rfl, hle, hm3, hu3⟩ | ⟨y', rfl, hy', hlt, hu3, hent⟩
  · obtain ⟨r1, r2⟩ := dev_del (d' := { dk with las := dk.las.set n (y.pen.l.getD (y.pen.fl - 1) 0), opn := (pre ++ post).map fun x => (x.key, x.pen) }) hd2 he hm3 hu3 rfl rfl rfl
      (wf_sub hd2.wf (pre := pre) (post := post) (x := y) (mid := []) (by rw [← he]; exact hd2.opn) (by simp) (.inl rfl) rfl rfl rfl rfl)
    refine ⟨_, _, ⟨r1, fun k hk => h.foot k (r2 k hk), ?_, hit, h.new, ?_, ?_, h.cnt, h.M⟩, hleft _ (by simp) r1.map⟩
    · refine hu0.trans hu3 fun x hx => .inl ?_
      simp only [List.mem_cons, List.not_mem_nil, or_false] at hx
      rcases hx with rfl | rfl | rfl
      · exact hM
      · exact hp
      · exact hq'
    · simp only [List.nil_append] at e1
      rw [e1, ← he]; exact h.opn
    · simp only [List.nil_append] at e2
      rw [e2, ← he]; exact h.las
  · subst hy'
    obtain ⟨r1, r2⟩ := dev_ent (d' := { dk with las := dk.las.set n (y.pen.l.getD (y.pen.fl - 1) 0), opn := (pre ++ { y with off := y.off + y.pen.fl, cap := y.cap - y.pen.fl, pen := ⟨y.pen.l.drop y.pen.fl, 0⟩ } :: post).map fun x => (x.key, x.pen) }) hd2 he hu3 hent rfl rfl rfl (.inl rfl) rfl rfl rfl
      (wf_sub hd2.wf (pre := pre) (post := post) (x := y) (mid := [{ y with off := y.off + y.pen.fl, cap := y.cap - y.pen.fl, pen := ⟨y.pen.l.drop y.pen.fl, 0⟩ }]) (by rw [← he]; exact hd2.opn) (by simp) (.inr ⟨_, rfl, rfl, by simp [hlt], by simp, by simp⟩) rfl rfl rfl rfl)
    refine ⟨_, _, ⟨r1, fun k hk => ?_, ?_, hit, h.new, ?_, ?_, h.cnt, h.M⟩, hleft _ (by simp) r1.map⟩
    · apply h.foot
      simp only [Lay.foot, Lay.ents, he, List.mem_cons, List.mem_append, List.flatMap_append, List.flatMap_cons] at hk ⊢
      exact hk
    · refine hu0.trans hu3 fun x hx => .inl ?_
      simp only [List.mem_cons, List.not_mem_nil, or_false] at hx
      rcases hx with rfl | rfl
      · exact hp
      · exact hq'
    · simp only [List.cons_append, List.nil_append] at e1
      simp only
      rw [e1, ← he]; exact h.opn
    · simp only [List.cons_append, List.nil_append] at e2
      simp only
      rw [e2, ← he]; exact h.las
set_option maxRecDepth 100000 in
theorem fence_go {w : World} {b : Nat} {d : Dev} {g : Lay} (h : DevIs w b d g) (hd : d.down = false) (hlim : d.steps < 1099511627776) :
    Calls Tryz.prog 165 #[.pointer (some ⟨b, 0, none⟩)] w fun e w' => e = .returned (.bool true) ∧ DevTo w w' b g d.fenced := by
  have hs := step_go h hd hlim false
  have H := Lib.hid h
  have HS := Lib.hid hs
  have HF := Lib.hid hd
  clear h hs hd
  go_enter Tryz.func165, Tryz.ntmps165
  go_wp2_with (first | (go_at_call 184; refine HS.out.mono ?_; rintro e w1 ⟨rfl, hu1, hd1⟩; (have HU1 := Lib.hid hu1); (have HD1 := Lib.hid hd1); (obtain ⟨c0, c1, c2, c3, c4, c5⟩ := dev_cells hd1); (have hblt := lt_of hd1.blk); clear hu1 hd1 c0 c1 c2 c4 c5) |
    (at_range; refine wpl_range (kInt .i64) (g.es.map Ent.en) rfl _ _ rfl Tryz.underlying144 rfl HD1.out.map ?_))
  go_frame
  go_loopw [13] (fun c wr => ∃ dk gk seen, FeRel w b d g w1.heap.size wr dk gk seen) (fun _ wr => wr.rangeLeft g.M w1.heap.size)
  case atStart =>
    obtain ⟨e1, e2⟩ := fin_start (d := d) H.out.opn
    refine ⟨d.stepped false, g, #[], HD1.out.keep (fun k hk => Below.heap_alloc _ _ _ (HD1.out.lt k hk)), fun _ hx => hx, (HU1.out.mono fun x hx => ?_).alloc _, alloc_new _ _, HU1.out.size, e1, e2, ⟨rfl, by simp [Dev.stepped], rfl⟩, rfl⟩
    simp at hx; subst hx; simp [Lay.foot]
  case round =>
    obtain ⟨dk, gk, seen, hr⟩ := hrel
    have HR := Lib.hid hr
    obtain ⟨c0, c1, c2, c3, c4, c5⟩ := dev_cells hr.dev
    have f0 := dev_free hr.dev
    clear hr c0 c1 c4 c5 c3
    go_wp2_with (first | (at_next; refine wpl_next (kInt .i64) (gk.es.map Ent.en) w1.heap.size seen rfl _ rfl rfl HR.out.it HR.out.dev.map (by simp only [List.mem_map]; rintro _ ⟨x, hx, rfl⟩; exact HR.out.dev.old x hx) (by rw [List.map_map]; exact HR.out.dev.bnd) ?_ ?_))
    · intro hall
      have HA := Lib.hid hall
      clear hall f0
      go_wp2_with fail
      go_ret
      have hall' : ∀ x ∈ gk.es, x.born ∈ seen := HA.out
      obtain ⟨e1, e2⟩ := fin_end (l := dk.las) hall'
      refine ⟨rfl, gk, ?_, fun k hk => .inl (HR.out.foot k hk), HR.out.upd⟩
      have : d.fenced = dk := by
        unfold Dev.fenced
        rw [if_neg (by simp [HF.out]), ← HR.out.opn, ← HR.out.las, e1, e2, ← HR.out.dev.opn]
        obtain ⟨q1, q2, q3⟩ := HR.out.cnt
        cases dk
        simp only at q1 q2 q3
        simp [Dev.stepped, q1, q2, q3]
      rw [this]
      exact HR.out.dev
    · intro y hy hns W hW hen
      obtain ⟨pre, post, he⟩ := List.append_of_mem hy
      have hWd : DevIs W b dk gk := HR.out.dev.keep (fun k hk => hW.far k (fun e => by have := H.out.lt k (HR.out.foot k hk); have := HR.out.new; omega))
      obtain ⟨p0, p1, q0, q1, po, ps, pc⟩ := ent_facts (hWd.ents y hy)
      have hpl := pen_len hWd hy
      by_cases hfl : y.pen.fl = 0
      · rw [hfl] at p1
        have HHW := Lib.hid hW
        have HN := Lib.hid hns
        have HE := Lib.hid he
        have HD := Lib.hid hWd
        have HZ := Lib.hid hfl
        clear hW hns he hWd hy po ps q0 q1 f0 p0 hfl
        have hen' : (Instr.entry (.pointer (some ⟨w1.heap.size, 0, none⟩))).run Tryz.prog W = .ok (.tuple #[.int .i64 y.key, .pointer (some ⟨y.p, 0, none⟩)]) W := hen
        clear hen
        go_wp2_with fail
        obtain ⟨r1, r2⟩ := fe_keep HR.out H.out HHW.out HE.out HN.out HZ.out
        have R1 := Lib.hid r1
        have R2 := Lib.hid r2
        clear r1 r2
        go_roundw
        case rel => exact ⟨_, _, _, R1.out⟩
        case measure => exact R2.out
      · have hyo : (y.key, y.pen) ∈ dk.opn := by rw [HR.out.dev.opn]; exact List.mem_map.2 ⟨y, hy, rfl⟩
        have hk0 := HR.out.dev.wf.lo _ hyo
        have hk1 := HR.out.dev.wf.hi _ hyo
        have hfle := HR.out.dev.wf.fl _ hyo
        simp only at hk0 hk1 hfle
        obtain ⟨n, hn⟩ : ∃ n : Nat, y.key = n := ⟨y.key.toNat, by omega⟩
        have hnl : n < dk.las.length := by omega
        obtain ⟨qL, offL, csL, hA, hLs, hbL, hcL, hcellL, hfrL⟩ := hWd.las.at_ (i := n) (v := .int .u64 (dk.las.getD n 0)) (by simp [u64s, hnl])
        obtain ⟨c0, c1, c2, c3, c4, c5⟩ := dev_cells hWd
        clear c0 c1 c3 c4 c5
        rw [hA] at c2
        have hrow := po (y.pen.fl - 1) (.int .u64 (y.pen.l.getD (y.pen.fl - 1) 0)) (by rw [u64s, List.getElem?_map, List.getElem?_eq_getElem (by omega), List.getD_eq_getElem?_getD, List.getElem?_eq_getElem (by omega)]; rfl)
        have hlen := HR.out.dev.wf.len
        have HHW := Lib.hid hW
        have HN := Lib.hid hns
        have HE := Lib.hid he
        have HD := Lib.hid hWd
        have HZ := Lib.hid hfl
        have HK := Lib.hid hn
        have HAL := Lib.hid (And.intro hA (And.intro hLs hnl))
        have hen' : (Instr.entry (.pointer (some ⟨w1.heap.size, 0, none⟩))).run Tryz.prog W = .ok (.tuple #[.int .i64 n, .pointer (some ⟨y.p, 0, none⟩)]) W := by rw [← hn]; exact hen
        have hfl1 : 1 ≤ y.pen.fl := by omega
        have hflz : ((y.pen.fl : Int) == 0) = false := beq_eq_false_iff_ne.2 (by omega)
        clear hW hns he hWd hy hyo po ps f0 hk0 hk1 hA hLs hbL hcL hn hfl hen
        generalize hg1 : y.pen.l.getD (y.pen.fl - 1) 0 = v at *
        generalize hg2 : y.pen.fl = fl at *
        generalize hg3 : y.pen.l.length = len at *
        have HG := Lib.hid (And.intro hg1 (And.intro hg2 hg3))
        clear hg1 hg2 hg3
        have hne : y.p ≠ qL := by
          intro e
          have h1 := (HD.out.ents y (by rw [HE.out]; simp)).1
          have h2 := HD.out.las.at_ (i := n) (v := .int .u64 (dk.las.getD n 0)) (by simp [u64s, HAL.out.2.2])
          obtain ⟨q', o', cs', hA', _, hb', _⟩ := h2
          rw [HAL.out.1] at hA'
          simp only [Option.some.injEq, Addr.mk.injEq, and_true] at hA'
          rw [← hA'.1, ← e, h1] at hb'
          simp at hb'
        have hrq : w1.heap.size ≠ qL := fun e => HR.out.far H.out qL (by simp [Lay.foot, HAL.out.2.1]) e.symm
        have hrp : w1.heap.size ≠ y.p := fun e => HR.out.far H.out y.p (by simp [Lay.foot, (mem_ents (show y ∈ gk.es by rw [HE.out]; simp)).1]) e.symm
        have P0 : (W.setCell ⟨qL, offL + n, none⟩ (.int .u64 v)).cell? ⟨y.p, 0, none⟩ = some (.slice (some ⟨y.q, y.off, none⟩) len y.cap) := (World.cell?_setCell_other _ _ _ _ (by intro e; simp only [Addr.mk.injEq] at e; exact hne e.1.symm)).trans p0
        have P1 : (W.setCell ⟨qL, offL + n, none⟩ (.int .u64 v)).cell? ⟨y.p, 1, none⟩ = some (.int .i64 fl) := (World.cell?_setCell_other _ _ _ _ (by intro e; simp only [Addr.mk.injEq] at e; exact hne e.1.symm)).trans p1
        have F0 : (W.setCell ⟨qL, offL + n, none⟩ (.int .u64 v)).frozen? ⟨y.p, 0, none⟩ = false := by rw [World.frozen?_setCell]; exact q0
        have F1 : (W.setCell ⟨qL, offL + n, none⟩ (.int .u64 v)).frozen? ⟨y.p, 1, none⟩ = false := by rw [World.frozen?_setCell]; exact q1
        have D2 : DevIs (W.setCell ⟨qL, offL + n, none⟩ (.int .u64 v)) b { dk with las := dk.las.set n v } gk := (dev_las HD.out HAL.out.1 HAL.out.2.1 HAL.out.2.2 v (wf_las HD.out.wf n v)).1
        obtain ⟨d0, d1, d2, C3, d4, d5⟩ := dev_cells D2
        have HP := Lib.hid (And.intro P0 (And.intro P1 (And.intro F0 (And.intro F1 C3))))
        have HD2 := Lib.hid D2
        clear P0 P1 F0 F1 d0 d1 d2 C3 d4 d5 D2
        go_wp2_with fail
        go_region
        clear p0 p1 q0 q1 c2 hrow hen' hflz hcellL hfrL
        obtain ⟨P0, P1, F0, F1, C3⟩ := HP.out
        generalize hW2 : W.setCell ⟨qL, offL + n, none⟩ (.int .u64 v) = W2 at *
        have HW2 := Lib.hid hW2
        clear hW2
        by_cases hlt : fl < len
        · have hcp : ¬ y.cap = fl := by omega
          go_wp2_with fail
          go_region
          go_wp2_with fail
          obtain ⟨hg1, hg2, hg3⟩ := HG.out
          have hD2 := HD2.out.ents y (by rw [HE.out]; simp)
          obtain ⟨k1, cs, k2, k3, k4, k5⟩ := hD2
          have hWW := HW2.out
          subst hg1
          have hT := fe_turn (W3 := ((W2.setCell ⟨y.p, 0, none⟩ (.slice (some ⟨y.q, y.off + fl, none⟩) (len - fl) (y.cap - fl))).setCell ⟨y.p, 1, none⟩ (.int .i64 0)).drew.drew) HR.out H.out HHW.out HE.out HN.out (by rw [hg2]; exact HZ.out) HAL.out.1 HAL.out.2.1 HAL.out.2.2 HK.out [_]
            (.inr ⟨_, rfl, rfl, by omega, by
              rw [hg2, hWW]
              exact (((Upd.refl _ _).setCell (by simp) _).setCell (by simp) _).drew.drew, by
              refine ⟨?_, cs, ?_, ?_, ?_, ?_⟩
              · have e1 : (y.pen.l.drop y.pen.fl).length = len - fl := by simp; omega
                simp only [e1]
                rw [hg2]
                exact set_b (set_b k1 0 _ rfl) 1 _ rfl
              · exact set_other (set_other k2 (fun e => ne_pq HD.out (by rw [HE.out]; simp) e.symm) _) (fun e => ne_pq HD.out (by rw [HE.out]; simp) e.symm) _
              · simp only; omega
              · simp only [List.length_drop]; omega
              · intro j u hj
                simp only [List.getElem?_drop] at hj
                simp only
                rw [Nat.add_assoc]
                exact k5 _ u hj⟩)
            (by
              have : W2.heap[w1.heap.size]? = some (.mapIter (some gk.M) gk.clock (seen.push y.born) gk.clock) := by
                rw [← hWW]
                exact set_other HHW.out.here hrq _
              exact set_other (set_other this hrp _) hrp _)
          obtain ⟨dk', gk', r1, r2⟩ := hT
          exact ⟨⟨dk', gk', _, r1⟩, r2⟩
        · obtain rfl : fl = len := by omega
          have hgo : ∀ (S : Value) (W3 : World), W3 = ((W2.setCell ⟨y.p, 0, none⟩ S).setCell ⟨y.p, 1, none⟩ (.int .i64 0)).drew.drew →
              (W3.cell? ⟨b, 3, none⟩ = some (.map (some gk.M)) ∧ W3.cell? ⟨y.p, 0, none⟩ = some S ∧ W3.heap[gk.M]? = some (obj (kInt .i64) (gk.es.map Ent.en) gk.clock) ∧
               ∀ W4, Only gk.M (obj (kInt .i64) ((pre ++ post).map Ent.en) gk.clock) W3 W4 → ∃ dk' gk', FeRel w b d g w1.heap.size W4 dk' gk' (seen.push y.born) ∧ W4.rangeLeft g.M w1.heap.size < wr.rangeLeft g.M w1.heap.size) := by
            rintro S W3 rfl
            obtain ⟨hg1, hg2, hg3⟩ := HG.out
            have hWW := HW2.out
            obtain ⟨nb1, nb2, nb3, nb4, nb5⟩ := ne_foot HD.out (x := y) (by rw [HE.out]; simp)
            obtain ⟨k1, cs, k2, k3, k4, k5⟩ := HD2.out.ents y (by rw [HE.out]; simp)
            have km := HD2.out.map
            have kb := HD2.out.blk
            have hm3 := set_other (set_other km (a := ⟨y.p, 0, none⟩) nb3 S) (a := ⟨y.p, 1, none⟩) nb3 (.int .i64 0)
            refine ⟨?_, ?_, hm3, fun W4 hW4 => ?_⟩
            · have := set_other (set_other kb (a := ⟨y.p, 0, none⟩) nb1 S) (a := ⟨y.p, 1, none⟩) nb1 (.int .i64 0)
              exact (cell_of this 3)
            · have := set_same (set_same k1 0 S) 1 (.int .i64 0)
              exact (cell_of this 0)
            · refine fe_turn (W3 := W4) HR.out H.out HHW.out HE.out HN.out (by rw [hg2]; exact HZ.out) HAL.out.1 HAL.out.2.1 HAL.out.2.2 HK.out []
                (.inl ⟨rfl, by omega, hW4.here, ?_⟩) ?_
              · rw [hg2, hg1, hWW]
                exact ((((Upd.refl _ _).setCell (by simp) _).setCell (by simp) _).drew.drew).trans (hW4.upd [gk.M] (by simp)) (by simp)
              · have : W2.heap[w1.heap.size]? = some (.mapIter (some gk.M) gk.clock (seen.push y.born) gk.clock) := by
                  rw [← hWW]
                  exact set_other HHW.out.here hrq _
                refine hW4.blk (set_other (set_other this hrp _) hrp _) (fun e => ?_)
                exact HR.out.far H.out gk.M (by simp [Lay.foot]) e.symm
          have HGO := Lib.hid hgo
          clear hgo hrq hrp
          by_cases hcp : y.cap = fl
          · go_wp2_with fail
            go_region
            obtain ⟨M0, M1, M2, M3⟩ := HGO.out (.slice (some ⟨y.q, y.off, none⟩) 0 0) _ rfl
            have HM := Lib.hid (And.intro M2 M3)
            clear M2 M3 P0 P1 F0 F1 C3
            generalize ((W2.setCell ⟨y.p, 0, none⟩ (.slice (some ⟨y.q, y.off, none⟩) 0 0)).setCell ⟨y.p, 1, none⟩ (.int .i64 0)).drew.drew = W3 at *
            go_wp2_with (at_delete; refine wpl_delete_some (kInt .i64) (pre.map Ent.en) (post.map Ent.en) (.pointer (some ⟨y.p, 0, none⟩)) y.born rfl _ _ _ _ rfl Tryz.underlying144 Tryz.underlying3 rfl (n : Int) rfl (by have := HM.out.1; rw [HE.out, List.map_append, List.map_cons, show y.en = ((n : Int), Value.pointer (some ⟨y.p, 0, none⟩), y.born) from by rw [← HK.out]; rfl] at this; exact this) (by have := HR.out.dev.wf.keys; rw [HR.out.dev.opn, HE.out, List.map_map, List.map_append, List.map_cons] at this; have := (List.nodup_append.1 this).2.2; simp only [List.mem_map]; rintro _ ⟨z, hz, rfl⟩; rw [← HK.out]; exact this _ (List.mem_map.2 ⟨z, hz, rfl⟩) _ (by simp)) ?_; intro W4 hW4; (have HW4 := Lib.hid hW4); clear hW4)
            obtain ⟨dk', gk', r1, r2⟩ := HM.out.2 W4 (by rw [List.map_append]; exact HW4.out)
            go_frame
            go_roundw
            case rel => exact ⟨dk', gk', _, r1⟩
            case measure => exact r2
          · go_wp2_with fail
            go_region
            obtain ⟨M0, M1, M2, M3⟩ := HGO.out (.slice (some ⟨y.q, y.off + fl, none⟩) 0 (y.cap - fl)) _ rfl
            have HM := Lib.hid (And.intro M2 M3)
            clear M2 M3 P0 P1 F0 F1 C3
            generalize ((W2.setCell ⟨y.p, 0, none⟩ (.slice (some ⟨y.q, y.off + fl, none⟩) 0 (y.cap - fl))).setCell ⟨y.p, 1, none⟩ (.int .i64 0)).drew.drew = W3 at *
            go_wp2_with (at_delete; refine wpl_delete_some (kInt .i64) (pre.map Ent.en) (post.map Ent.en) (.pointer (some ⟨y.p, 0, none⟩)) y.born rfl _ _ _ _ rfl Tryz.underlying144 Tryz.underlying3 rfl (n : Int) rfl (by have := HM.out.1; rw [HE.out, List.map_append, List.map_cons, show y.en = ((n : Int), Value.pointer (some ⟨y.p, 0, none⟩), y.born) from by rw [← HK.out]; rfl] at this; exact this) (by have := HR.out.dev.wf.keys; rw [HR.out.dev.opn, HE.out, List.map_map, List.map_append, List.map_cons] at this; have := (List.nodup_append.1 this).2.2; simp only [List.mem_map]; rintro _ ⟨z, hz, rfl⟩; rw [← HK.out]; exact this _ (List.mem_map.2 ⟨z, hz, rfl⟩) _ (by simp)) ?_; intro W4 hW4; (have HW4 := Lib.hid hW4); clear hW4)
            obtain ⟨dk', gk', r1, r2⟩ := HM.out.2 W4 (by rw [List.map_append]; exact HW4.out)
            go_frame
            go_roundw
            case rel => exact ⟨dk', gk', _, r1⟩
            case measure => exact r2
theorem fence_any {w : World} {b : Nat} {d : Dev} {g : Lay} (h : DevIs w b d g) (hlim : d.steps < 1099511627776) :
    Calls Tryz.prog 165 #[.pointer (some ⟨b, 0, none⟩)] w fun e w' => e = .returned (.bool !d.down) ∧ DevTo w w' b g d.fenced := by
  cases hd : d.down with
  | false => exact fence_go h hd hlim
  | true =>
    have hs := step_down h hd false
    have hf : d.fenced = d := by unfold Dev.fenced; rw [if_pos hd]
    rw [hf]
    have H := Lib.hid h
    have HS := Lib.hid hs
    clear h hs hd hf
    go_enter Tryz.func165, Tryz.ntmps165
    go_wp2_with (go_at_call 184; refine HS.out.mono ?_; rintro e w1 ⟨rfl, rfl⟩)
    go_ret
    exact ⟨rfl, g, H.out, fun k hk => .inl hk, Upd.refl _ _⟩
end Go.Proofs.YtgnagbbdnlmgeaaGreat.Pm
end
section
set_option maxHeartbeats 400000
namespace Go.Proofs.YtgnagbbdnlmgeaaGreat.Pm
open Go Go.RowKit
open Go.ChangeMaps (setBlock)
open Ob Mp Dv Wl
theorem owns_base {w : World} {base base' : Nat} {e : TypeId} {size n : Nat} {v : Value} {xs : List Value} (h : w.ownsRow base e size v n xs) (hb : base' ≤ base) : w.ownsRow base' e size v n xs := by
  obtain ⟨h1, h2 | ⟨g, cap, cur, hv, hg, r⟩⟩ := h
  · exact ⟨h1, .inl h2⟩
  · exact ⟨h1, .inr ⟨g, cap, cur, hv, by omega, r⟩⟩
theorem owns_one (w : World) (T : TypeId) (v : Value) : (w.alloc (.cells #[v] T)).ownsRow w.heap.size T 1 (.slice (some ⟨w.heap.size, 0, none⟩) 1 1) 1 [v] :=
  ⟨rfl, .inr ⟨w.heap.size, 1, #[v], rfl, Nat.le_refl _, alloc_new _ _, Nat.le_refl _, by unfold maxLen; omega, rfl, rfl⟩⟩
theorem may_any {w : World} {b : Nat} {d : Dev} {g : Lay} (h : DevIs w b d g) (k : Int) :
    Calls Tryz.prog 164 #[.pointer (some ⟨b, 0, none⟩), .int .i64 k] w fun e w' => ∃ v, e = .returned v ∧ w'.ownsRow w.heap.size 94 1 v (d.may k).length (u64s (d.may k)) ∧ Below w.heap.size w w' := by
  obtain ⟨c0, c1, c2, c3, c4, c5⟩ := dev_cells h
  clear c0 c1 c4 c5
  have hc := in_any h k
  have hblt := lt_of h.blk
  cases hi : d.inn k with
  | false =>
    have e : d.may k = [] := by simp [Dev.may, hi]
    rw [e]
    rw [hi] at hc
    have HC := Lib.hid hc
    clear hc h hi e c2 c3
    go_enter Tryz.func164, Tryz.ntmps164
    go_wp2_with (go_at_call 173; refine HC.out.mono ?_; rintro e w' ⟨rfl, rfl⟩)
    go_ret
    exact ⟨_, rfl, ⟨rfl, .inl ⟨rfl, rfl⟩⟩, Below.refl _ _⟩
  | true =>
    obtain ⟨n, rfl, hn⟩ := inn_true hi
    have hv : (u64s d.las)[n]? = some (.int .u64 (d.las.getD n 0)) := by simp [u64s, hn]
    obtain ⟨q, off, cs, hA, -, hb, -, hcell, -⟩ := h.las.at_ hv
    have hlen := h.wf.len
    rw [hA] at c2
    rw [hi] at hc
    have HC := Lib.hid hc
    rcases find_split g.es (n : Int) with hno | ⟨pre, x, post, he, hxk, hp⟩
    · have e : d.may n = [d.las.getD n 0] := by simp [Dev.may, hi, find_of_none h.opn hno]
      rw [e]
      have hl := look_none h hno
      have hl' := look_none (h.keep (w' := w.alloc (.cells #[.int .u64 (d.las.getD n 0)] 94)) (fun k hk => Below.heap_alloc _ _ _ (h.lt k hk))) hno
      clear hc h hi e hA hv hb hno
      generalize d.las.getD n 0 = v at *
      go_enter Tryz.func164, Tryz.ntmps164
      go_wp2_with (go_at_call 173; refine HC.out.mono ?_; rintro e w' ⟨rfl, rfl⟩)
      go_ret
      exact ⟨_, rfl, owns_one _ _ _, (Below.refl _ _).alloc (Nat.le_refl _) _⟩
    · have hlk := find_of_some h.opn he (by rw [hxk]; exact hp)
      rw [hxk] at hlk
      have e : d.may n = d.las.getD n 0 :: x.pen.l := by simp [Dev.may, hi, hlk]
      have hxm : x ∈ g.es := by rw [he]; simp
      have hne : x.pen.l ≠ [] := h.wf.ne (x.key, x.pen) (by rw [h.opn]; exact List.mem_map.2 ⟨x, hxm, rfl⟩)
      have hpos : 0 < x.pen.l.length := List.length_pos_iff.2 hne
      have hpl := pen_len h hxm
      rw [e]
      have h' := h.keep (w' := w.alloc (.cells #[.int .u64 (d.las.getD n 0)] 94)) (fun k hk => Below.heap_alloc _ _ _ (h.lt k hk))
      have hl' := look_some h' he (by rw [hxk]; exact hp)
      rw [hxk] at hl'
      obtain ⟨p0, p1, f0, f1, po, ps, pc⟩ := ent_facts (h'.ents x hxm)
      have PO := Lib.hid po
      clear hc h h' hi e hA hv hb hp he hlk p1 f0 f1 ps po hne
      generalize d.las.getD n 0 = v at *
      go_enter Tryz.func164, Tryz.ntmps164
      go_wp2_with (first | (go_at_call 173; refine HC.out.mono ?_; rintro e w' ⟨rfl, rfl⟩) |
        (at_builtin; (obtain ⟨i0, i1, i2, i3, i4⟩ := info_parts info_u64); refine wpList_append_grows _ rfl _ _ 22 rfl 94 i0 (.int .u64 0) 1 8 Tryz.underlying22 i1 i2 i3 i4 rfl (by decide) (some ⟨w.heap.size, 0, none⟩) 1 1 [.int .u64 v] rfl (by simp) rfl (by intro b hb; simp only [Option.some.injEq] at hb; subst hb; exact one_cell _ _) ⟨x.q, x.off, none⟩ x.pen.l.length x.cap (u64s x.pen.l) rfl (by simp [u64s]) (by intro j u hj; rw [Addr.add_lit]; exact PO.out j u hj) (by intro u hu; simp only [u64s, List.mem_map] at hu; obtain ⟨z, _, rfl⟩ := hu; rfl) (by omega) (by unfold maxLen; omega) (by omega) ?_; intro v' w2 hown hg; (have HO := Lib.hid hown); (have HG := Lib.hid hg); clear hown hg))
      go_ret
      refine ⟨_, rfl, ?_, ((Below.refl _ _).alloc (Nat.le_refl _) _).trans ((Below.refl _ _).grown HG.out (by simp) (by simp))⟩
      have := owns_base HO.out (base' := w.heap.size) (by simp)
      rw [show x.pen.l.length + 1 = 1 + x.pen.l.length from by omega]
      exact this
def newDev (n : Int) : Dev := ⟨0, 0, List.replicate (min (max 0 n) 4194304).toNat 0, [], none⟩
theorem newDev_wf (n : Int) : (newDev n).Wf := by
  refine ⟨?_, by simp [newDev], by simp [newDev], by simp [newDev], by simp [newDev], by simp [newDev], by simp [newDev], by simp [newDev], by simp [newDev], by simp [newDev]⟩
  simp only [newDev, List.length_replicate]
  omega
theorem new_dev {w W : World} {n : Int} {m : Nat} (hm : (min (max 0 n) 4194304).toNat = m) {o1 o2 o3 : Obj} (h1 : o1 = .cells ((Array.replicate m (.int .u64 0))) 94 (0, 0)) (h2 : o2 = .map #[] 0)
    (h3 : o3 = .cells #[.int .i64 0, .int .i64 0, .slice (some ⟨w.heap.size, 0, none⟩) m m, .map (some (w.heap.size + 1)), .bool false, .int .i64 0] 146 (0, 0)) (hW : W = ((w.alloc o1).alloc o2).alloc o3) :
    ∃ g, DevIs W (w.heap.size + 2) (newDev n) g ∧ (∀ k ∈ g.foot (w.heap.size + 2), w.heap.size ≤ k) ∧ Below w.heap.size w W := by
  subst h1 h2 h3 hW
  have hlen : (newDev n).las.length = m := by simp [newDev, hm]
  have hlas : u64s (newDev n).las = List.replicate m (.int .u64 0) := by simp [newDev, u64s, hm]
  have b1 : (w.alloc (.cells ((Array.replicate m (.int .u64 0))) 94 (0, 0))).heap[w.heap.size]? = some (.cells ((Array.replicate m (.int .u64 0))) 94 (0, 0)) := alloc_new _ _
  have b2 := alloc_new (w.alloc (.cells ((Array.replicate m (.int .u64 0))) 94 (0, 0))) (.map #[] 0)
  have b3 := alloc_new ((w.alloc (.cells ((Array.replicate m (.int .u64 0))) 94 (0, 0))).alloc (.map #[] 0)) (.cells #[.int .i64 0, .int .i64 0, .slice (some ⟨w.heap.size, 0, none⟩) m m, .map (some (w.heap.size + 1)), .bool false, .int .i64 0] 146 (0, 0))
  simp only [World.size_alloc] at b2 b3
  refine ⟨⟨some ⟨w.heap.size, 0, none⟩, m, [w.heap.size], w.heap.size + 1, 0, []⟩, ⟨?_, ?_, ?_, by simp, rfl, ?_, by simp, by simp, newDev_wf n⟩, ?_, ?_⟩
  · rw [b3]
    simp [cellsOf, hlen]
    simp [newDev]
  · rw [hlas]
    refine ⟨by simp, .inr ⟨w.heap.size, 0, _, rfl, rfl, alloc_old (alloc_old b1 _) _, by simp, fun j v hj => ?_⟩⟩
    rw [List.getElem?_replicate] at hj
    split at hj
    · cases hj
      rename_i hjm
      simp [hjm]
    · cases hj
  · exact alloc_old b2 _
  · simp [Lay.foot, Lay.ents]
  · intro k hk
    simp [Lay.foot, Lay.ents] at hk
    omega
  · exact (((Below.refl _ _).alloc (Nat.le_refl _) _).alloc (by simp) _).alloc (by simp; omega) _
def DevNew (w w' : World) (v : Value) (d : Dev) : Prop := ∃ b g, v = .pointer (some ⟨b, 0, none⟩) ∧ DevIs w' b d g ∧ (∀ k ∈ g.foot b, w.heap.size ≤ k) ∧ Below w.heap.size w w'
set_option maxRecDepth 100000 in
theorem new_at (n c : Int) (m : Nat) (w : World) (hc : c = min (max 0 n) 4194304) (hm : c = m) :
    Calls Tryz.prog 163 #[.int .i64 n] w fun e w' => ∃ v, e = .returned v ∧ DevNew w w' v (newDev n) := by
  have hm9 : m ≤ 4194304 := by omega
  have HM : Hid ((min (max 0 n) 4194304).toNat = m) := by show (min (max 0 n) 4194304).toNat = m; omega
  have hh : (n ≤ 0 ∧ m = 0) ∨ (0 < n ∧ n < 4194304 ∧ m = n.toNat) ∨ (4194304 ≤ n ∧ m = 4194304) := by omega
  clear hc hm
  have hmm := @run_makeMap Tryz.prog
  rcases hh with ⟨h1, h2⟩ | ⟨h1, h3, h2⟩ | ⟨h1, h2⟩
  all_goals
    have HE := Lib.hid h2
    clear h2
    go_enter Tryz.func163, Tryz.ntmps163
    go_wp2_with (at_make; refine wpl_make rfl _ 22 94 rfl (.int .u64 0) 8 Tryz.underlying22 info_u64 rfl m .i64 _ rfl (by have := HE.out; omega) (by omega) (by omega) ?_)
    all_goals
      go_ret
      obtain ⟨g, d1, d2, d3⟩ := new_dev HM.out rfl rfl rfl rfl
      exact ⟨_, rfl, _, g, rfl, d1, d2, d3⟩
theorem new_any (n : Int) (w : World) :
    Calls Tryz.prog 163 #[.int .i64 n] w fun e w' => ∃ v, e = .returned v ∧ DevNew w w' v (newDev n) :=
  new_at n _ (min (max 0 n) 4194304).toNat w rfl (by omega)
end Go.Proofs.YtgnagbbdnlmgeaaGreat.Pm
end
section
set_option maxHeartbeats 400000
namespace Go.Proofs.YtgnagbbdnlmgeaaGreat.Pm
open Go Go.RowKit
open Go.ChangeMaps (setBlock)
open Ob Mp Dv Wl
structure Mine (w W : World) (b : Nat) (d : Dev) (g : Lay) : Prop where
  dev : DevIs W b d g
  own : ∀ k ∈ g.foot b, w.heap.size ≤ k
  below : Below w.heap.size w W
theorem Mine.to {w W W' : World} {b : Nat} {d d' : Dev} {g : Lay} (h : Mine w W b d g) (k : DevTo W W' b g d') : ∃ g', Mine w W' b d' g' := by
  obtain ⟨g', h1, h2, h3⟩ := k
  have hs := h.below.size
  refine ⟨g', h1, fun x hx => ?_, h.below.trans (h3.belowB hs h.own)⟩
  rcases h2 x hx with r | r
  · exact h.own x r
  · omega
theorem Mine.below_ {w W W' : World} {b : Nat} {d : Dev} {g : Lay} (h : Mine w W b d g) (k : Below W.heap.size W W') : Mine w W' b d g :=
  ⟨h.dev.below k, h.own, h.below.trans (k.mono h.below.size)⟩
theorem Mine.drewN {w W : World} {b : Nat} {d : Dev} {g : Lay} (h : Mine w W b d g) (n : Nat) : Mine w (W.drewN n) b d g :=
  ⟨h.dev.drewN n, h.own, ⟨h.below.os, h.below.tape, h.below.output, h.below.size, h.below.block⟩⟩
def ld0 : Dev := newDev 8
def ld1 : Dev := ld0.stored 0 5
def ld2 : Dev := ld1.stored 0 6
def ld3 : Dev := ld2.flushed 0
def ld4 : Dev := ld3.fenced
theorem ev0 : ld0.storeOk 0 = true := by decide
theorem ev1 : ld1.storeOk 0 = true := by decide
theorem ev2 : ld2.may 0 = [0, 5, 6] := by decide
theorem ev3 : ld2.load 0 = 6 := by decide
theorem ev4 : ld2.flushOk 0 = true := by decide
theorem ev5 : ld3.down = false := by decide
theorem ev6 : ld4.may 0 = [6] := by decide
theorem st0 : ld0.steps < 1099511627776 ∧ ld1.steps < 1099511627776 ∧ ld2.steps < 1099511627776 ∧ ld3.steps < 1099511627776 := by decide
set_option maxRecDepth 100000 in
theorem lives_any (w : World) : Calls Tryz.prog 126 #[] w fun e w' => e = .returned (.bool true) ∧ Below w.heap.size w w' := by
  go_enter Tryz.func126, Tryz.ntmps126
  go_wp2_with fail
  refine (new_any 8 _).mono ?_
  rintro e w1 ⟨_, rfl, b, g0, rfl, h1, h2, h3⟩
  have M0 := Lib.hid (Mine.mk h1 h2 h3)
  clear h1 h2 h3
  go_wp2_with fail
  have hs := store_any M0.out.dev 0 5 st0.1
  rw [show (newDev 8).storeOk 0 = true from ev0] at hs
  refine hs.mono ?_
  rintro e w2 ⟨rfl, hd⟩
  obtain ⟨g1, m1⟩ := M0.out.to hd
  have M1 := Lib.hid m1
  clear hs hd m1
  go_wp2_with fail
  have hs := store_any M1.out.dev 0 6 st0.2.1
  rw [show ((newDev 8).stored 0 5).storeOk 0 = true from ev1] at hs
  refine hs.mono ?_
  rintro e w3 ⟨rfl, hd⟩
  obtain ⟨g2, m2⟩ := M1.out.to hd
  have M2 : Hid (Mine w w3 b ld2 g2) := Lib.hid m2
  clear hs hd m2
  go_wp2_with fail
  refine (may_any M2.out.dev 0).mono ?_
  rintro e w4 ⟨v, rfl, ho, hb⟩
  obtain ⟨A, c, qs, rfl, hsl, -⟩ := Sl.of_own ho
  have M3 := Lib.hid (M2.out.below_ hb)
  have el : (ld2.may 0).length = 3 := by rw [ev2]; rfl
  rw [el]
  clear ho hb hsl el
  go_wp2_with fail
  have hl := load_any M3.out.dev 0
  rw [ev3] at hl
  refine hl.mono ?_
  rintro e w5 ⟨rfl, n5, rfl⟩
  have M5 := Lib.hid (M3.out.drewN n5)
  clear hl
  go_wp2_with fail
  have hs := flush_any M5.out.dev 0 st0.2.2.1
  rw [ev4] at hs
  refine hs.mono ?_
  rintro e w6 ⟨rfl, hd⟩
  obtain ⟨g6, m6⟩ := M5.out.to hd
  have M6 : Hid (Mine w w6 b ld3 g6) := Lib.hid m6
  clear hs hd m6
  go_wp2_with fail
  have hs := fence_any M6.out.dev st0.2.2.2
  rw [ev5] at hs
  refine hs.mono ?_
  rintro e w7 ⟨rfl, hd⟩
  obtain ⟨g7, m7⟩ := M6.out.to hd
  have M7 : Hid (Mine w w7 b ld4 g7) := Lib.hid m7
  clear hs hd m7
  go_wp2_with fail
  refine (may_any M7.out.dev 0).mono ?_
  rintro e w8 ⟨v, rfl, ho, hb⟩
  obtain ⟨A, c, qs, rfl, hsl, -⟩ := Sl.of_own ho
  have M8 := Lib.hid (M7.out.below_ hb)
  have el : (ld4.may 0).length = 1 := by rw [ev6]; rfl
  rw [el]
  clear ho hb hsl el
  go_wp2_with fail
  refine (may_any M8.out.dev 0).mono ?_
  rintro e w9 ⟨v, rfl, ho, hb⟩
  obtain ⟨A, c, qs, rfl, hsl, -⟩ := Sl.of_own ho
  have M9 := Lib.hid (M8.out.below_ hb)
  have el : (ld4.may 0).length = 1 := by rw [ev6]; rfl
  rw [el]
  rw [ev6] at hsl
  obtain ⟨q, off, cs, rfl, _, _, _, hcell, _⟩ := hsl.at_ (i := 0) (v := .int .u64 6) rfl
  have hcell' : w9.cell? ⟨q, off, none⟩ = some (.int .u64 6) := hcell
  clear ho hb hsl el hcell
  go_wp2_with fail
  go_ret
  exact ⟨rfl, M9.out.below⟩
end Go.Proofs.YtgnagbbdnlmgeaaGreat.Pm
end
section
set_option maxHeartbeats 1000000
namespace Go.Proofs.YtgnagbbdnlmgeaaGreat.Pm
open Go Go.RowKit
open Go.ChangeMaps (setBlock)
open Ob Mp Dv Wl
def Rd (w : World) (A : Option Addr) (l : List Int) : Prop := ∀ (i : Nat) x, l[i]? = some x → ∃ a, A = some a ∧ a.block < w.heap.size ∧ w.cell? (a.add i) = some (.int .u64 x)
theorem own_kp {W W' : World} {B T n : Nat} {v : Value} {xs : List Value} (h : W.ownsRow B T 1 v n xs) (hk : ∀ k, B ≤ k → k < W.heap.size → W'.heap[k]? = W.heap[k]?) : W'.ownsRow B T 1 v n xs := by
  obtain ⟨h1, h2 | ⟨g, cap, cur, hv, hg, hb, r⟩⟩ := h
  · exact ⟨h1, .inl h2⟩
  · exact ⟨h1, .inr ⟨g, cap, cur, hv, hg, (hk g hg (lt_of hb)).trans hb, r⟩⟩
theorem add_block (a : Addr) (j : Nat) : (a.add j).block = a.block := by
  unfold Addr.add
  split <;> rfl
theorem own_lo {W : World} {B T n : Nat} {v : Value} {xs : List Value} (h : W.ownsRow B T 1 v n xs) : ∀ k, v.ownBlock = some k → B ≤ k := by
  obtain ⟨_, ⟨rfl, _⟩ | ⟨g, cap, cur, rfl, hg, _⟩⟩ := h
  · intro k hk; simp [Value.ownBlock] at hk
  · intro k hk; simp [Value.ownBlock] at hk; omega
theorem owns_nil (w : World) (B : Nat) (T : TypeId) (g : Nat) (hg : B ≤ g) (hb : w.heap[g]? = some (.cells #[] T (0, 0))) : w.ownsRow B T 1 (.slice (some ⟨g, 0, none⟩) 0 0) 0 [] := by
  exact ⟨rfl, .inr ⟨g, 0, #[], rfl, hg, hb, Nat.le_refl _, by unfold maxLen; omega, by simp, by simp⟩⟩
set_option maxRecDepth 100000 in
theorem clone_big {w : World} {A : Option Addr} {l : List Int} (h : Rd w A l) (c : Nat) (hl : l.length ≤ 1099511627776) (hA : A = none → l = [] ∧ c = 0) :
    Calls Tryz.prog 75 #[.slice A l.length c] w fun e w' => ∃ v, e = .returned v ∧ w'.ownsRow w.heap.size 94 1 v l.length (u64s l) ∧ Below w.heap.size w w' := by
  obtain ⟨i0, hinf, hz0, hz1, hz2⟩ := info_parts info_u64
  cases A with
  | none =>
    obtain ⟨rfl, rfl⟩ := hA rfl
    have he : ∀ w : World, (binOp .eql 22 (.slice none 0 0) (.slice none 0 0)).run Tryz.prog w = .ok (.bool true) w := fun _ => rfl
    go_enter Tryz.func75, Tryz.ntmps75
    go_wp2
    go_ret
    exact ⟨_, rfl, ⟨rfl, .inl ⟨rfl, rfl⟩⟩, Below.refl _ _⟩
  | some a =>
    have H := Lib.hid h
    clear h hA
    obtain ⟨n, hn⟩ : ∃ n, n = l.length := ⟨_, rfl⟩
    rw [← hn]
    rw [← hn] at hl
    have HN := Lib.hid hn
    clear hn
    have he : ∀ w : World, (binOp .eql 22 (.slice (some a) n c) (.slice none 0 0)).run Tryz.prog w = .ok (.bool false) w := fun _ => rfl
    go_enter Tryz.func75, Tryz.ntmps75
    have hcell : ∀ (j : Nat) u, (u64s l)[j]? = some u → (w.alloc (.cells #[] 94)).cell? (a.add j) = some u := by
      intro j u hj
      rw [u64s, List.getElem?_map, Option.map_eq_some_iff] at hj
      obtain ⟨x, hx, rfl⟩ := hj
      obtain ⟨a', e, h1, h2⟩ := H.out j x hx
      cases e
      rw [World.cell?_of_block (w := w) (a := a.add j) (Below.heap_alloc _ _ _ (by rw [add_block]; exact h1))]
      exact h2
    have HC := Lib.hid hcell
    have HO : Hid ((w.alloc (.cells #[] 94)).ownsRow w.heap.size 94 1 (.slice (some ⟨w.heap.size, 0, none⟩) 0 0) 0 []) := owns_nil _ _ _ _ (Nat.le_refl _) (alloc_new _ _)
    clear hcell
    go_wp2_with (at_builtin; refine wpList_append_own _ rfl (.tmp 5) (.tmp 6) 22 rfl w.heap.size 94 i0 (.int .u64 0) 1 8 Tryz.underlying22 hinf hz0 hz1 hz2 rfl (by decide) _ 0 [] rfl HO.out a n c (u64s l) rfl (by rw [u64s_length, ← HN.out]; omega) HC.out (by intro u hu; simp only [u64s, List.mem_map] at hu; obtain ⟨z, _, rfl⟩ := hu; rfl) (by unfold maxLen; omega) (by omega) (by simp) ?_; intro v' w2 hown hg _; (have HV := Lib.hid hown); (have HG := Lib.hid hg); clear hown hg)
    go_ret
    have hv := HV.out
    rw [Nat.zero_add, List.nil_append] at hv
    exact ⟨_, rfl, hv, ((Below.refl _ _).alloc (Nat.le_refl _) _).grown HG.out (by simp) (fun k hk => own_lo HO.out k hk)⟩
theorem clone_any {w : World} {A : Option Addr} {l : List Int} (h : Rd w A l) (c : Nat) (hl : l.length ≤ 4194304) (hA : A = none → l = [] ∧ c = 0) :
    Calls Tryz.prog 75 #[.slice A l.length c] w fun e w' => ∃ v, e = .returned v ∧ w'.ownsRow w.heap.size 94 1 v l.length (u64s l) ∧ Below w.heap.size w w' :=
  clone_big h c (by omega) hA
theorem cell_blk {w w' : World} {q : Nat} (h : w'.heap[q]? = w.heap[q]?) (o : Nat) : w'.cell? ⟨q, o, none⟩ = w.cell? ⟨q, o, none⟩ := by simp [World.cell?, h]
end Go.Proofs.YtgnagbbdnlmgeaaGreat.Pm
end
section
set_option maxHeartbeats 2000000
set_option maxRecDepth 100000
namespace Go.Proofs.YtgnagbbdnlmgeaaGreat.Bm
open Go Go.RowKit
open Ob Ba Oc Pk
theorem words_ (n : Nat) (hn : n ≤ 65534) (w : World) : Calls Tryz.prog 142 #[.int .i64 n] w fun e w' => e = .returned (.int .i64 ((n + 63) / 64 : Nat)) ∧ w' = w := by
  go_enter Tryz.func142, Tryz.ntmps142
  go_wp2_with fail
  go_ret
  refine ⟨?_, rfl⟩
  go_num
theorem new_ (n : Nat) (hn : n ≤ 65534) (w : World) : Calls Tryz.prog 109 #[.int .i64 n] w fun e w' => ∃ b, e = .returned (.pointer (some ⟨b, 0, none⟩)) ∧ Bm w' w.heap.size b n (List.replicate ((n + 63) / 64) 0) (some ⟨w.heap.size, 0, none⟩) ((n + 63) / 64) ∧ Below w.heap.size w w' := by
  have hu := Tryz.underlying182
  have hm : (n + 63) / 64 ≤ 1024 := by omega
  have hz : ivs .u64 (ints (List.replicate ((n + 63) / 64) 0)) = List.replicate ((n + 63) / 64) (.int .u64 0) := by simp [ivs, ints]
  have HFIN : Hid (Bm ((w.alloc (.cells (Array.replicate ((n + 63) / 64) (.int .u64 0)) 94)).alloc (.cells #[.int .i64 n, .slice (some ⟨w.heap.size, 0, none⟩) ((n + 63) / 64) ((n + 63) / 64)] 182)) w.heap.size (w.heap.size + 1) n (List.replicate ((n + 63) / 64) 0) (some ⟨w.heap.size, 0, none⟩) ((n + 63) / 64)) := by
    have h1 := alloc_new w (.cells (Array.replicate ((n + 63) / 64) (.int .u64 0)) 94)
    have h2 := alloc_new (w.alloc (.cells (Array.replicate ((n + 63) / 64) (.int .u64 0)) 94)) (.cells #[.int .i64 n, .slice (some ⟨w.heap.size, 0, none⟩) ((n + 63) / 64) ((n + 63) / 64)] 182)
    rw [World.size_alloc] at h2
    have h3 := alloc_old h1 (.cells #[.int .i64 n, .slice (some ⟨w.heap.size, 0, none⟩) ((n + 63) / 64) ((n + 63) / 64)] 182)
    refine ⟨by rw [List.length_replicate]; exact h2, ?_, by omega, ?_, by simp, ?_, hn⟩
    · rw [List.length_replicate]
      refine own_new (k := .u64) (l := ints (List.replicate ((n + 63) / 64) 0)) ?_ (Nat.le_refl _) (by rw [ints_length, List.length_replicate]) (by unfold maxLen; omega)
      rw [hz, List.toArray_replicate]
      exact h3
    · intro a ha
      cases ha
      simp
    · intro x hx
      rw [(List.mem_replicate.1 hx).2]
      decide
  clear hz
  rcases Nat.eq_zero_or_pos n with rfl | h0
  · have HW := Lib.hid (words_ 0 hn w)
    go_enter Tryz.func109, Tryz.ntmps109
    go_wp2_with fail
    refine HW.out.mono ?_
    rintro e w1 ⟨rfl, rfl⟩
    go_wp2_with (at_make; refine Go.Proofs.YtgnagbbdnlmgeaaGreat.Wl.wpl_make rfl _ 22 94 rfl (.int .u64 0) 8 Tryz.underlying22 info_u64 rfl 0 .i64 _ rfl rfl (by omega) (by omega) ?_)
    go_ret
    exact ⟨_, rfl, HFIN.out, bl_alloc (bl_alloc (Below.refl _ _) _) _⟩
  have HW := Lib.hid (words_ n hn w)
  by_cases h9 : n < 65534
  · generalize (n + 63) / 64 = m at *
    go_enter Tryz.func109, Tryz.ntmps109
    go_wp2_with fail
    refine HW.out.mono ?_
    rintro e w1 ⟨rfl, rfl⟩
    go_wp2_with (at_make; refine Go.Proofs.YtgnagbbdnlmgeaaGreat.Wl.wpl_make rfl _ 22 94 rfl (.int .u64 0) 8 Tryz.underlying22 info_u64 rfl m .i64 _ rfl rfl (by omega) (by omega) ?_)
    go_ret
    exact ⟨_, rfl, HFIN.out, bl_alloc (bl_alloc (Below.refl _ _) _) _⟩
  · obtain rfl : n = 65534 := by omega
    go_enter Tryz.func109, Tryz.ntmps109
    go_wp2_with fail
    refine HW.out.mono ?_
    rintro e w1 ⟨rfl, rfl⟩
    go_wp2_with (at_make; refine Go.Proofs.YtgnagbbdnlmgeaaGreat.Wl.wpl_make rfl _ 22 94 rfl (.int .u64 0) 8 Tryz.underlying22 info_u64 rfl 1024 .i64 _ rfl rfl (by omega) (by omega) ?_)
    go_ret
    exact ⟨_, rfl, HFIN.out, bl_alloc (bl_alloc (Below.refl _ _) _) _⟩
theorem put_ {W : World} {B b n : Nat} {l : List Nat} {A : Option Addr} {c : Nat} (h : Bm W B b n l A c) {D : Option Addr} {xs : List Int} (hxs : Rk .i64 W D xs) (hD : ∀ a a', D = some a → A = some a' → a'.block ≠ a.block) (cd : Nat) (hn : xs.length ≤ 1000000000) :
    Calls Tryz.prog 61 #[.pointer (some ⟨b, 0, none⟩), .slice D xs.length cd] W fun e w' => e = .returned (.int .i64 (turnL n false l xs).2) ∧ Bm w' B b n (turnL n false l xs).1 A c ∧ Only A W w' := by
  have HT := Lib.hid (turn_ h false hxs hD cd hn)
  generalize turnL n false l xs = r at *
  clear h hxs hD
  go_enter Tryz.func61, Tryz.ntmps61
  go_wp2_with fail
  refine HT.out.mono ?_
  rintro e w1 ⟨rfl, h1, h2⟩
  have H := Lib.hid (And.intro h1 h2)
  clear h1 h2
  go_wp2_with fail
  go_ret
  exact ⟨rfl, H.out.1, H.out.2⟩
theorem words_of {W : World} {B b n : Nat} {l : List Nat} {A : Option Addr} {c : Nat} (h : Bm W B b n l A c) :
    Calls Tryz.prog 98 #[.pointer (some ⟨b, 0, none⟩)] W fun e w' => ∃ v, e = .returned v ∧ w'.ownsRow W.heap.size 94 1 v l.length (ivs .u64 (ints l)) ∧ Below W.heap.size W w' := by
  have hu := Tryz.underlying182
  have k0 := cell_of h.box 0
  have k1 := cell_of h.box 1
  have hrk := own_rk (k := .u64) h.row
  have hcl := Pm.clone_big (show Pm.Rd W A (ints l) from hrk.1) c (by rw [ints_length]; have := h.len; have := h.le; omega) (by
    intro hA
    obtain ⟨h1, ⟨h2, h3⟩ | ⟨g, cap, cur, hv, hg, hb, hn, hm, hs, ht⟩⟩ := h.row
    · simp only [Value.slice.injEq] at h2
      refine ⟨?_, h2.2.2⟩
      have := h2.2.1
      rw [← ints_length] at this
      exact List.length_eq_zero_iff.1 this
    · rw [hA] at hv; cases hv)
  rw [ints_length] at hcl
  have HCL := Lib.hid hcl
  clear hcl hrk
  go_enter Tryz.func98, Tryz.ntmps98
  go_wp2_with fail
  refine HCL.out.mono ?_
  rintro e w1 ⟨v, rfl, h1, h2⟩
  have H := Lib.hid (And.intro h1 h2)
  clear h1 h2
  go_wp2_with fail
  go_ret
  exact ⟨_, rfl, H.out.1, H.out.2⟩
def NextIs (n : Nat) (l : List Nat) (i : Int) (used : Bool) (r : Int) : Prop :=
  (r = -1 ∧ ∀ j : Nat, i ≤ j → j < n → bget l j ≠ used) ∨ (∃ j : Nat, r = j ∧ i ≤ j ∧ j < n ∧ bget l j = used ∧ ∀ k : Nat, i ≤ k → k < j → bget l k ≠ used)
theorem next_ {W : World} {B b n : Nat} {l : List Nat} {A : Option Addr} {c : Nat} (h : Bm W B b n l A c) (i : Int) (used : Bool) : Calls Tryz.prog 116 #[.pointer (some ⟨b, 0, none⟩), .int .i64 i, .bool used] W fun e w' => ∃ r, e = .returned (.int .i64 r) ∧ NextIs n l i used r ∧ w' = W := by
  have hu := Tryz.underlying182
  have k0 := cell_of h.box 0
  have hn := h.le
  have H := Lib.hid h
  clear h
  go_enter Tryz.func116, Tryz.ntmps116
  go_wp2_with fail
  all_goals
    go_loop [7] (fun c7 => ∃ s : Int, c7 = .int .i64 s ∧ 0 ≤ s ∧ Hid (i ≤ s ∧ ∀ k : Nat, i ≤ k → (k : Int) < s → bget l k ≠ used)) (fun c7 => n - (intOf c7).toNat)
    case atStart =>
      first
        | exact ⟨i, rfl, by omega, Int.le_refl _, fun k h1 h2 => by omega⟩
        | exact ⟨0, rfl, Int.le_refl _, by omega, fun k h1 h2 => by omega⟩
    case round =>
      obtain ⟨s, rfl, hs, HR⟩ := hrel
      by_cases hlt : s < n
      · have HH := Lib.hid (has_ H.out s)
        have hbg : bhas n l s = bget l s.toNat := by unfold bhas; rw [decide_eq_true hs, decide_eq_true hlt]; rfl
        rw [hbg] at HH
        by_cases h3 : bget l s.toNat = used
        · have HF : Hid (NextIs n l i used s) := .inr ⟨s.toNat, by omega, by have := HR.out.1; omega, by omega, h3, fun k h1 h2 => HR.out.2 k h1 (by omega)⟩
          rw [h3] at HH
          clear h3 hbg
          go_wp2_with fail
          refine HH.out.mono ?_
          rintro e w5 ⟨rfl, rfl⟩
          go_wp2_with fail
          go_ret
          exact ⟨_, rfl, HF.out, rfl⟩
        · have HF : Hid (i ≤ s + 1 ∧ ∀ k : Nat, i ≤ k → (k : Int) < s + 1 → bget l k ≠ used) := by
            refine ⟨by have := HR.out.1; omega, fun k h1 h2 => ?_⟩
            by_cases hk : (k : Int) < s
            · exact HR.out.2 k h1 hk
            · have : k = s.toNat := by omega
              rw [this]; exact h3
          have e3 : (bget l s.toNat == used) = false := beq_eq_false_iff_ne.2 h3
          generalize bget l s.toNat = r at *
          clear h3 hbg
          go_wp2_with fail
          refine HH.out.mono ?_
          rintro e w5 ⟨rfl, rfl⟩
          go_wp2_with fail
          go_round
          case rel => exact ⟨s + 1, by go_num, by omega, HF⟩
          case measure => simp [intOf]; omega
      · have HF : Hid (NextIs n l i used (-1)) := .inl ⟨rfl, fun j h1 h2 => HR.out.2 j h1 (by omega)⟩
        go_wp2_with fail
        go_ret
        exact ⟨_, rfl, HF.out, rfl⟩
end Go.Proofs.YtgnagbbdnlmgeaaGreat.Bm
end
