/- A device's store. -/
import Derived.Test.YtlokklfkiechdaaPmC
import Derived.ArgAppend
import Derived.Maps.Own
set_option linter.unusedVariables false
set_option linter.unusedSimpArgs false
set_option maxHeartbeats 400000
namespace Go.Proofs.Ytlokklfkiechdaa.Pm
open Go Go.RowKit
open Go.ChangeMaps (setBlock)
open Go.Proofs.Ytlokklfkiechdaa.Ob Go.Proofs.Ytlokklfkiechdaa.Mp Go.Proofs.Ytlokklfkiechdaa.Dv

/-- One pending word has turned. -/
theorem dev_ent {w w' : World} {b : Nat} {d d' : Dev} {g : Lay} (h : DevIs w b d g) {pre post : List Ent} {x x' : Ent} (he : g.es = pre ++ x :: post) (hu : Upd [x.p, x.q] w w')
    (hx : EntAt w' x') (hkey : x'.key = x.key) (hborn : x'.born = x.born) (hp : x'.p = x.p) (hq : x'.q = x.q ∨ w.heap.size ≤ x'.q)
    (hc : cellsOf d' g = cellsOf d g) (hl : d'.las = d.las) (ho : d'.opn = (pre ++ x' :: post).map fun x => (x.key, x.pen)) (hw : d'.Wf) :
    DevIs w' b d' { g with es := pre ++ x' :: post } ∧ ∀ k ∈ ({ g with es := pre ++ x' :: post } : Lay).foot b, k ∈ g.foot b ∨ w.heap.size ≤ k := by
  have hnd := h.nd
  have hlt := h.lt
  have hxm : x ∈ g.es := by rw [he]; simp
  have hxp := hlt x.p (by simp [Lay.foot, (mem_ents hxm).1])
  obtain ⟨A, c, Ls, M, clock, es⟩ := g
  simp only at he
  subst he
  have hfoot : Lay.foot ⟨A, c, Ls, M, clock, pre ++ x :: post⟩ b = b :: M :: (Ls ++ (pre.flatMap (fun x => [x.p, x.q]) ++ (x.p :: x.q :: post.flatMap fun x => [x.p, x.q]))) := by
    simp [Lay.foot, Lay.ents]
  have hfoot' : Lay.foot ⟨A, c, Ls, M, clock, pre ++ x' :: post⟩ b = b :: M :: (Ls ++ (pre.flatMap (fun x => [x.p, x.q]) ++ (x.p :: x'.q :: post.flatMap fun x => [x.p, x.q]))) := by
    simp [Lay.foot, Lay.ents, hp]
  rw [hfoot] at hnd hlt
  generalize hG : pre.flatMap (fun x => [x.p, x.q]) = G at *
  generalize hH : post.flatMap (fun x => [x.p, x.q]) = H at *
  have hpre : ∀ y ∈ pre, y.p ∈ G ∧ y.q ∈ G := fun y hy => by rw [← hG]; simp only [List.mem_flatMap]; exact ⟨⟨y, hy, by simp⟩, ⟨y, hy, by simp⟩⟩
  have hpost : ∀ y ∈ post, y.p ∈ H ∧ y.q ∈ H := fun y hy => by rw [← hH]; simp only [List.mem_flatMap]; exact ⟨⟨y, hy, by simp⟩, ⟨y, hy, by simp⟩⟩
  simp only [List.nodup_cons, List.nodup_append, List.mem_cons, List.mem_append, not_or] at hnd
  obtain ⟨⟨b1, b2, b3, b4, b5, b6⟩, ⟨m1, m2, m3, m4, m5⟩, l1, ⟨g1, ⟨⟨x1, x2⟩, x3, h1⟩, g2⟩, l2⟩ := hnd
  have keep : ∀ k, k < w.heap.size → k ≠ x.p → k ≠ x.q → w'.heap[k]? = w.heap[k]? := fun k hk n1 n2 => hu.block k hk (by simp [n1, n2])
  have kb := hlt b (by simp)
  have kM := hlt M (by simp)
  refine ⟨⟨?_, ?_, ?_, ?_, ?_, ?_, ?_, ?_, hw⟩, ?_⟩
  · rw [keep b kb b4 b5, h.blk]
    exact congrArg (fun c => some (Obj.cells c _ _)) hc.symm
  · rw [hl]
    refine h.las.keep fun q hq => keep q (hlt q (by simp [hq])) ?_ ?_
    · exact fun e => l2 q hq x.p (by simp) e
    · exact fun e => l2 q hq x.q (by simp) e
  · rw [keep M kM m3 m4, h.map]
    simp [Ent.en, hkey, hborn, hp]
  · intro y hy
    simp only [List.mem_append, List.mem_cons] at hy
    rcases hy with hy | rfl | hy
    · have hin := hpre y hy
      refine (h.ents y (by simp [hy])).keep (keep _ (hlt _ (by simp [hin.1])) ?_ ?_) (keep _ (hlt _ (by simp [hin.2])) ?_ ?_)
      · exact fun e => g2 _ hin.1 x.p (by simp) e
      · exact fun e => g2 _ hin.1 x.q (by simp) e
      · exact fun e => g2 _ hin.2 x.p (by simp) e
      · exact fun e => g2 _ hin.2 x.q (by simp) e
    · exact hx
    · have hin := hpost y hy
      refine (h.ents y (by simp [hy])).keep (keep _ (hlt _ (by simp [hin.1])) ?_ ?_) (keep _ (hlt _ (by simp [hin.2])) ?_ ?_)
      · exact fun e => x2 (e ▸ hin.1)
      · exact fun e => x3 (e ▸ hin.1)
      · exact fun e => x2 (e ▸ hin.2)
      · exact fun e => x3 (e ▸ hin.2)
  · exact ho
  · rw [hfoot']
    simp only [List.nodup_cons, List.nodup_append, List.mem_cons, List.mem_append, not_or]
    rcases hq with hq | hq
    · rw [hq]
      exact ⟨⟨b1, b2, b3, b4, b5, b6⟩, ⟨m1, m2, m3, m4, m5⟩, l1, ⟨g1, ⟨⟨x1, x2⟩, x3, h1⟩, g2⟩, l2⟩
    · have far : ∀ k, k < w.heap.size → k ≠ x'.q := fun k hk e => by omega
      refine ⟨⟨b1, b2, b3, b4, far b kb, b6⟩, ⟨m1, m2, m3, far M kM, m5⟩, l1, ⟨g1, ⟨⟨far _ hxp, x2⟩, fun hc => far _ (hlt _ (by simp [hc])) rfl, h1⟩, ?_⟩, ?_⟩
      · intro a ha c hcm
        rcases hcm with rfl | rfl | hcm
        · exact g2 a ha _ (by simp)
        · exact far a (hlt a (by simp [ha]))
        · exact g2 a ha _ (by simp [hcm])
      · intro a ha c hcm
        rcases hcm with hcm | rfl | rfl | hcm
        · exact l2 a ha _ (by simp [hcm])
        · exact l2 a ha _ (by simp)
        · exact far a (hlt a (by simp [ha]))
        · exact l2 a ha _ (by simp [hcm])
  · have := h.bnd
    simpa [hborn] using this
  · intro y hy
    simp only [List.mem_append, List.mem_cons] at hy
    rcases hy with hy | rfl | hy
    · exact h.old y (by simp [hy])
    · rw [hborn]; exact h.old x (by simp)
    · exact h.old y (by simp [hy])
  · intro k hk
    rw [hfoot'] at hk
    rw [hfoot]
    simp only [List.mem_cons, List.mem_append] at hk ⊢
    rcases hk with hk | hk | hk | hk | hk | hk | hk
    · simp [hk]
    · simp [hk]
    · simp [hk]
    · simp [hk]
    · simp [hk]
    · rcases hq with hq | hq
      · simp [hk, hq]
      · exact .inr (by omega)
    · simp [hk]

/-- A word is pending that wasn't. -/
theorem dev_new {w w' : World} {b : Nat} {d d' : Dev} {g : Lay} (h : DevIs w b d g) {x : Ent} (hm : w'.heap[g.M]? = some (obj (kInt .i64) (g.es.map Ent.en ++ [x.en]) (g.clock + 1)))
    (hu : Upd [g.M] w w') (hx : EntAt w' x) (hborn : x.born = g.clock) (hp : w.heap.size ≤ x.p) (hq : w.heap.size ≤ x.q) (hpq : x.p ≠ x.q)
    (hc : cellsOf d' g = cellsOf d g) (hl : d'.las = d.las) (ho : d'.opn = d.opn ++ [(x.key, x.pen)]) (hw : d'.Wf) :
    DevIs w' b d' { g with es := g.es ++ [x], clock := g.clock + 1 } ∧ ∀ k ∈ ({ g with es := g.es ++ [x], clock := g.clock + 1 } : Lay).foot b, k ∈ g.foot b ∨ w.heap.size ≤ k := by
  have hnd := h.nd
  have hlt := h.lt
  have hfoot' : Lay.foot { g with es := g.es ++ [x], clock := g.clock + 1 } b = g.foot b ++ [x.p, x.q] := by simp [Lay.foot, Lay.ents]
  have hne : ∀ k ∈ g.foot b, k ≠ g.M → w'.heap[k]? = w.heap[k]? := fun k hk n => hu.block k (hlt k hk) (by simpa using n)
  have hM : ∀ k, k ∈ g.Ls ++ g.ents → k ≠ g.M := by
    intro k hk e
    subst e
    simp only [Lay.foot] at hnd
    exact (List.nodup_cons.1 (List.nodup_cons.1 hnd).2).1 hk
  have hbM : b ≠ g.M := by
    intro e
    simp only [Lay.foot] at hnd
    exact (List.nodup_cons.1 hnd).1 (by simp [← e])
  have hk : ∀ k, k ∈ g.Ls ++ g.ents → w'.heap[k]? = w.heap[k]? := fun k hk => hne k (by simp only [Lay.foot]; simp only [List.mem_cons]; exact .inr (.inr hk)) (hM k hk)
  refine ⟨⟨?_, ?_, ?_, ?_, ?_, ?_, ?_, ?_, hw⟩, ?_⟩
  · rw [hne b (by simp [Lay.foot]) hbM, h.blk]
    exact congrArg (fun c => some (Obj.cells c _ _)) hc.symm
  · rw [hl]
    exact h.las.keep fun q hq => hk q (by simp [hq])
  · simpa using hm
  · intro y hy
    simp only [List.mem_append, List.mem_singleton] at hy
    rcases hy with hy | rfl
    · exact (h.ents y hy).keep (hk _ (by simp [(mem_ents hy).1])) (hk _ (by simp [(mem_ents hy).2]))
    · exact hx
  · rw [ho, h.opn]
    simp
  · rw [hfoot', List.nodup_append]
    refine ⟨hnd, by simp [hpq], fun a ha c hc => ?_⟩
    have := hlt a ha
    simp at hc
    omega
  · simp only [List.map_append, List.map_cons, List.map_nil, List.nodup_append]
    refine ⟨h.bnd, by simp, fun a ha c hc => ?_⟩
    simp only [List.mem_map] at ha
    obtain ⟨y, hy, rfl⟩ := ha
    simp at hc
    have := h.old y hy
    omega
  · intro y hy
    simp only [List.mem_append, List.mem_singleton] at hy
    rcases hy with hy | rfl
    · have := h.old y hy
      simp only
      omega
    · simp only
      omega
  · intro k hk
    rw [hfoot'] at hk
    simp only [List.mem_append, List.mem_cons, List.not_mem_nil, or_false] at hk
    rcases hk with hk | rfl | rfl
    · exact .inl hk
    · exact .inr hp
    · exact .inr hq

end Go.Proofs.Ytlokklfkiechdaa.Pm
