/- Parts of the proof, one behind the other: PmD, PmE, Wl, PmF, PmG, PmH. -/
import Derived.Test.YtgnagbbdnlmgeaaGreatL02
import Derived.ArgAppend
import Derived.Maps.Own
import Derived.Test.YtgnagbbdnlmgeaaGreatL01
import Derived.OwnWalk
import Derived.Laws.MakeOwn
import Derived.LoopTactic
set_option linter.unusedVariables false
set_option linter.unusedSimpArgs false
set_option linter.unusedSectionVars false
section
set_option maxHeartbeats 400000
namespace Go.Proofs.YtgnagbbdnlmgeaaGreat.Pm
open Go Go.RowKit
open Go.ChangeMaps (setBlock)
open Ob Mp Dv
theorem dev_ent {w w' : World} {b : Nat} {d d' : Dev} {g : Lay} (h : DevIs w b d g) {pre post : List Ent} {x x' : Ent} (he : g.es = pre ++ x :: post) (hu : Upd [x.p, x.q] w w')
    (hx : EntAt w' x') (hkey : x'.key = x.key) (hborn : x'.born = x.born) (hp : x'.p = x.p) (hq : x'.q = x.q ∨ w.heap.size ≤ x'.q)
    (hc : cellsOf d' g = cellsOf d g) (hl : d'.las = d.las) (ho : d'.opn = (pre ++ x' :: post).map fun x => (x.key, x.pen)) (hw : d'.Wf) :
    DevIs w' b d' { g with es := pre ++ x' :: post } ∧ ∀ k ∈ ({ g with es := pre ++ x' :: post } : Lay).foot b, k ∈ g.foot b ∨ w.heap.size ≤ k := by
  have hnd := h.nd
  have hlt := h.lt
  have hxm : x ∈ g.es := by rw [he]; simp
  have hxp := hlt x.p (by simp [Lay.foot, (mem_ents hxm).1])
  obtain ⟨A, c, Ls, M, clock, es⟩ := g
  simp only at he
  subst he
  have hfoot : Lay.foot ⟨A, c, Ls, M, clock, pre ++ x :: post⟩ b = b :: M :: (Ls ++ (pre.flatMap (fun x => [x.p, x.q]) ++ (x.p :: x.q :: post.flatMap fun x => [x.p, x.q]))) := by
    simp [Lay.foot, Lay.ents]
  have hfoot' : Lay.foot ⟨A, c, Ls, M, clock, pre ++ x' :: post⟩ b = b :: M :: (Ls ++ (pre.flatMap (fun x => [x.p, x.q]) ++ (x.p :: x'.q :: post.flatMap fun x => [x.p, x.q]))) := by
    simp [Lay.foot, Lay.ents, hp]
  rw [hfoot] at hnd hlt
  generalize hG : pre.flatMap (fun x => [x.p, x.q]) = G at *
  generalize hH : post.flatMap (fun x => [x.p, x.q]) = H at *
  have hpre : ∀ y ∈ pre, y.p ∈ G ∧ y.q ∈ G := fun y hy => by rw [← hG]; simp only [List.mem_flatMap]; exact ⟨⟨y, hy, by simp⟩, ⟨y, hy, by simp⟩⟩
  have hpost : ∀ y ∈ post, y.p ∈ H ∧ y.q ∈ H := fun y hy => by rw [← hH]; simp only [List.mem_flatMap]; exact ⟨⟨y, hy, by simp⟩, ⟨y, hy, by simp⟩⟩
  simp only [List.nodup_cons, List.nodup_append, List.mem_cons, List.mem_append, not_or] at hnd
  obtain ⟨⟨b1, b2, b3, b4, b5, b6⟩, ⟨m1, m2, m3, m4, m5⟩, l1, ⟨g1, ⟨⟨x1, x2⟩, x3, h1⟩, g2⟩, l2⟩ := hnd
  have keep : ∀ k, k < w.heap.size → k ≠ x.p → k ≠ x.q → w'.heap[k]? = w.heap[k]? := fun k hk n1 n2 => hu.block k hk (by simp [n1, n2])
  have kb := hlt b (by simp)
  have kM := hlt M (by simp)
  refine ⟨⟨?_, ?_, ?_, ?_, ?_, ?_, ?_, ?_, hw⟩, ?_⟩
  · rw [keep b kb b4 b5, h.blk]
    exact congrArg (fun c => some (Obj.cells c _ _)) hc.symm
  · rw [hl]
    refine h.las.keep fun q hq => keep q (hlt q (by simp [hq])) ?_ ?_
    · exact fun e => l2 q hq x.p (by simp) e
    · exact fun e => l2 q hq x.q (by simp) e
  · rw [keep M kM m3 m4, h.map]
    simp [Ent.en, hkey, hborn, hp]
  · intro y hy
    simp only [List.mem_append, List.mem_cons] at hy
    rcases hy with hy | rfl | hy
    · have hin := hpre y hy
      refine (h.ents y (by simp [hy])).keep (keep _ (hlt _ (by simp [hin.1])) ?_ ?_) (keep _ (hlt _ (by simp [hin.2])) ?_ ?_)
      · exact fun e => g2 _ hin.1 x.p (by simp) e
      · exact fun e => g2 _ hin.1 x.q (by simp) e
      · exact fun e => g2 _ hin.2 x.p (by simp) e
      · exact fun e => g2 _ hin.2 x.q (by simp) e
    · exact hx
    · have hin := hpost y hy
      refine (h.ents y (by simp [hy])).keep (keep _ (hlt _ (by simp [hin.1])) ?_ ?_) (keep _ (hlt _ (by simp [hin.2])) ?_ ?_)
      · exact fun e => x2 (e ▸ hin.1)
      · exact fun e => x3 (e ▸ hin.1)
      · exact fun e => x2 (e ▸ hin.2)
      · exact fun e => x3 (e ▸ hin.2)
  · exact ho
  · rw [hfoot']
    simp only [List.nodup_cons, List.nodup_append, List.mem_cons, List.mem_append, not_or]
    rcases hq with hq | hq
    · rw [hq]
      exact ⟨⟨b1, b2, b3, b4, b5, b6⟩, ⟨m1, m2, m3, m4, m5⟩, l1, ⟨g1, ⟨⟨x1, x2⟩, x3, h1⟩, g2⟩, l2⟩
    · have far : ∀ k, k < w.heap.size → k ≠ x'.q := fun k hk e => by omega
      refine ⟨⟨b1, b2, b3, b4, far b kb, b6⟩, ⟨m1, m2, m3, far M kM, m5⟩, l1, ⟨g1, ⟨⟨far _ hxp, x2⟩, fun hc => far _ (hlt _ (by simp [hc])) rfl, h1⟩, ?_⟩, ?_⟩
      · intro a ha c hcm
        rcases hcm with rfl | rfl | hcm
        · exact g2 a ha _ (by simp)
        · exact far a (hlt a (by simp [ha]))
        · exact g2 a ha _ (by simp [hcm])
      · intro a ha c hcm
        rcases hcm with hcm | rfl | rfl | hcm
        · exact l2 a ha _ (by simp [hcm])
        · exact l2 a ha _ (by simp)
        · exact far a (hlt a (by simp [ha]))
        · exact l2 a ha _ (by simp [hcm])
  · have := h.bnd
    simpa [hborn] using this
  · intro y hy
    simp only [List.mem_append, List.mem_cons] at hy
    rcases hy with hy | rfl | hy
    · exact h.old y (by simp [hy])
    · rw [hborn]; exact h.old x (by simp)
    · exact h.old y (by simp [hy])
  · intro k hk
    rw [hfoot'] at hk
    rw [hfoot]
    simp only [List.mem_cons, List.mem_append] at hk ⊢
    rcases hk with hk | hk | hk | hk | hk | hk | hk
    · simp [hk]
    · simp [hk]
    · simp [hk]
    · simp [hk]
    · simp [hk]
    · rcases hq with hq | hq
      · simp [hk, hq]
      · exact .inr (by omega)
    · simp [hk]
theorem dev_new {w w' : World} {b : Nat} {d d' : Dev} {g : Lay} (h : DevIs w b d g) {x : Ent} (hm : w'.heap[g.M]? = some (obj (kInt .i64) (g.es.map Ent.en ++ [x.en]) (g.clock + 1)))
    (hu : Upd [g.M] w w') (hx : EntAt w' x) (hborn : x.born = g.clock) (hp : w.heap.size ≤ x.p) (hq : w.heap.size ≤ x.q) (hpq : x.p ≠ x.q)
    (hc : cellsOf d' g = cellsOf d g) (hl : d'.las = d.las) (ho : d'.opn = d.opn ++ [(x.key, x.pen)]) (hw : d'.Wf) :
    DevIs w' b d' { g with es := g.es ++ [x], clock := g.clock + 1 } ∧ ∀ k ∈ ({ g with es := g.es ++ [x], clock := g.clock + 1 } : Lay).foot b, k ∈ g.foot b ∨ w.heap.size ≤ k := by
  have hnd := h.nd
  have hlt := h.lt
  have hfoot' : Lay.foot { g with es := g.es ++ [x], clock := g.clock + 1 } b = g.foot b ++ [x.p, x.q] := by simp [Lay.foot, Lay.ents]
  have hne : ∀ k ∈ g.foot b, k ≠ g.M → w'.heap[k]? = w.heap[k]? := fun k hk n => hu.block k (hlt k hk) (by simpa using n)
  have hM : ∀ k, k ∈ g.Ls ++ g.ents → k ≠ g.M := by
    intro k hk e
    subst e
    simp only [Lay.foot] at hnd
    exact (List.nodup_cons.1 (List.nodup_cons.1 hnd).2).1 hk
  have hbM : b ≠ g.M := by
    intro e
    simp only [Lay.foot] at hnd
    exact (List.nodup_cons.1 hnd).1 (by simp [← e])
  have hk : ∀ k, k ∈ g.Ls ++ g.ents → w'.heap[k]? = w.heap[k]? := fun k hk => hne k (by simp only [Lay.foot]; simp only [List.mem_cons]; exact .inr (.inr hk)) (hM k hk)
  refine ⟨⟨?_, ?_, ?_, ?_, ?_, ?_, ?_, ?_, hw⟩, ?_⟩
  · rw [hne b (by simp [Lay.foot]) hbM, h.blk]
    exact congrArg (fun c => some (Obj.cells c _ _)) hc.symm
  · rw [hl]
    exact h.las.keep fun q hq => hk q (by simp [hq])
  · simpa using hm
  · intro y hy
    simp only [List.mem_append, List.mem_singleton] at hy
    rcases hy with hy | rfl
    · exact (h.ents y hy).keep (hk _ (by simp [(mem_ents hy).1])) (hk _ (by simp [(mem_ents hy).2]))
    · exact hx
  · rw [ho, h.opn]
    simp
  · rw [hfoot', List.nodup_append]
    refine ⟨hnd, by simp [hpq], fun a ha c hc => ?_⟩
    have := hlt a ha
    simp at hc
    omega
  · simp only [List.map_append, List.map_cons, List.map_nil, List.nodup_append]
    refine ⟨h.bnd, by simp, fun a ha c hc => ?_⟩
    simp only [List.mem_map] at ha
    obtain ⟨y, hy, rfl⟩ := ha
    simp at hc
    have := h.old y hy
    omega
  · intro y hy
    simp only [List.mem_append, List.mem_singleton] at hy
    rcases hy with hy | rfl
    · have := h.old y hy
      simp only
      omega
    · simp only
      omega
  · intro k hk
    rw [hfoot'] at hk
    simp only [List.mem_append, List.mem_cons, List.not_mem_nil, or_false] at hk
    rcases hk with hk | rfl | rfl
    · exact .inl hk
    · exact .inr hp
    · exact .inr hq
end Go.Proofs.YtgnagbbdnlmgeaaGreat.Pm
end
section
set_option maxHeartbeats 400000
namespace Go.Proofs.YtgnagbbdnlmgeaaGreat.Pm
open Go Go.RowKit
open Go.ChangeMaps (setBlock)
open Ob Mp Dv
theorem stored_wf {d : Dev} (h : d.Wf) (k v : Int) (hlim : d.steps < 1099511627776) : (d.stored k v).Wf := by
  unfold Dev.stored
  split
  · rename_i hok
    have hs := stepped_wf h true hlim
    simp only [Dev.storeOk, Bool.and_eq_true] at hok
    obtain ⟨n, rfl, hn⟩ := inn_true hok.1
    split
    · rename_i hf
      have hkeys : (putPen n v d.opn).map (·.1) = d.opn.map (·.1) := by
        unfold putPen
        rw [List.map_map]
        apply List.map_congr_left
        intro y _
        simp only [Function.comp]
        split <;> rfl
      have hmem : ∀ x ∈ putPen n v d.opn, ∃ y ∈ d.opn, x.1 = y.1 ∧ x.2.fl = y.2.fl ∧ (x.2.l = y.2.l ∨ x.2.l = y.2.l ++ [v]) := by
        intro x hx
        simp only [putPen, List.mem_map] at hx
        obtain ⟨y, hy, rfl⟩ := hx
        refine ⟨y, hy, ?_⟩
        split <;> simp
      refine ⟨h.len, by rw [hkeys]; exact h.keys, fun x hx => ?_, fun x hx => ?_, fun x hx => ?_, fun x hx => ?_, fun x hx => ?_, hs.st, hs.lim, hs.fuse⟩
      all_goals
        obtain ⟨y, hy, e1, e2, e3⟩ := hmem x hx
      · rw [e1]; exact h.lo y hy
      · rw [e1]; exact h.hi y hy
      · rcases e3 with e3 | e3
        · rw [e3]; exact h.ne y hy
        · rw [e3]; simp
      · have := h.fl y hy
        rcases e3 with e3 | e3
        · rw [e3, e2]; exact this
        · rw [e3, e2]; simp; omega
      · have := h.few y hy
        show x.2.l.length ≤ d.stores + 1
        rcases e3 with e3 | e3
        · rw [e3]; omega
        · rw [e3]; simp; omega
    · rename_i hf
      have hno : ∀ x ∈ d.opn, x.1 ≠ (n : Int) := by
        simp only [Dev.find, Option.isSome_map, List.find?_isSome, decide_eq_true_eq, not_exists, not_and] at hf
        exact hf
      refine ⟨h.len, ?_, fun x hx => ?_, fun x hx => ?_, fun x hx => ?_, fun x hx => ?_, fun x hx => ?_, hs.st, hs.lim, hs.fuse⟩
      · simp only [List.map_append, List.map_cons, List.map_nil, List.nodup_append]
        refine ⟨h.keys, by simp, fun a ha c hc => ?_⟩
        simp only [List.mem_map] at ha
        obtain ⟨y, hy, rfl⟩ := ha
        simp at hc
        rw [hc]
        exact hno y hy
      all_goals
        simp only [List.mem_append, List.mem_singleton] at hx
        rcases hx with hx | rfl
      · exact h.lo x hx
      · simp
      · exact h.hi x hx
      · show ((n : Nat) : Int) < d.las.length
        omega
      · exact h.ne x hx
      · simp
      · exact h.fl x hx
      · simp
      · have := h.few x hx
        show x.2.l.length ≤ d.stores + 1
        omega
      · show 1 ≤ d.stores + 1
        omega
  · exact h
theorem put_split {d : Dev} {g : Lay} (ho : d.opn = g.es.map fun x => (x.key, x.pen)) (hk : (d.opn.map (·.1)).Nodup) {pre post : List Ent} {x : Ent} (he : g.es = pre ++ x :: post) (v : Int) (x' : Ent) (h1 : x'.key = x.key) (h2 : x'.pen = ⟨x.pen.l ++ [v], x.pen.fl⟩) :
    putPen x.key v d.opn = (pre ++ x' :: post).map fun x => (x.key, x.pen) := by
  rw [ho, he] at hk ⊢
  simp only [List.map_append, List.map_cons, List.map_map, List.nodup_append, List.nodup_cons, List.mem_map, List.mem_cons, Function.comp] at hk
  obtain ⟨_, ⟨h3, _⟩, h4⟩ := hk
  unfold putPen
  simp only [List.map_append, List.map_cons, if_true]
  rw [h1, h2]
  congr 1
  · rw [List.map_map]
    apply List.map_congr_left
    intro y hy
    simp only [Function.comp]
    rw [if_neg]
    exact fun e => h4 y.key ⟨y, hy, rfl⟩ x.key (.inl rfl) e
  · congr 1
    rw [List.map_map]
    apply List.map_congr_left
    intro y hy
    simp only [Function.comp]
    rw [if_neg]
    exact fun e => h3 ⟨y, hy, e⟩
theorem info_u64 : (Tryz.prog.info? 94).map (fun i => (i.zero, i.size, i.bytes)) = some (some (.int .u64 0), 1, 8) := by kernel_rfl
theorem store_no {w : World} {b : Nat} {d : Dev} {g : Lay} (h : DevIs w b d g) (k v : Int) (hn : d.storeOk k = false) :
    Calls Tryz.prog 152 #[.pointer (some ⟨b, 0, none⟩), .int .i64 k, .int .u64 v] w fun e w' => e = .returned (.bool false) ∧ w = w' := by
  have hc := in_any h k
  cases hi : d.inn k with
  | false =>
    rw [hi] at hc
    have HC := Lib.hid hc
    clear hc h hn hi
    go_enter Tryz.func152, Tryz.ntmps152
    go_wp2_with (go_at_call 173; refine HC.out.mono ?_; rintro e w' ⟨rfl, rfl⟩)
    go_ret
    exact ⟨rfl, rfl⟩
  | true =>
    have hd : d.down = true := by simpa [Dev.storeOk, hi] using hn
    have hs := step_down h hd true
    rw [hi] at hc
    have HC := Lib.hid hc
    have HS := Lib.hid hs
    clear hc h hn hi hd hs
    go_enter Tryz.func152, Tryz.ntmps152
    go_wp2_with (first | (go_at_call 173; refine HC.out.mono ?_; rintro e w' ⟨rfl, rfl⟩) | (go_at_call 184; refine HS.out.mono ?_; rintro e w' ⟨rfl, rfl⟩))
    go_ret
    exact ⟨rfl, rfl⟩
theorem ent_facts {w : World} {x : Ent} (h : EntAt w x) : w.cell? ⟨x.p, 0, none⟩ = some (.slice (some ⟨x.q, x.off, none⟩) x.pen.l.length x.cap) ∧ w.cell? ⟨x.p, 1, none⟩ = some (.int .i64 x.pen.fl) ∧
    w.frozen? ⟨x.p, 0, none⟩ = false ∧ w.frozen? ⟨x.p, 1, none⟩ = false ∧ (∀ (j : Nat) u, (u64s x.pen.l)[j]? = some u → w.cell? ⟨x.q, x.off + j, none⟩ = some u) ∧
    (∀ j, x.off + j < x.off + x.cap → (w.cell? ⟨x.q, x.off + j, none⟩).isSome = true ∧ w.frozen? ⟨x.q, x.off + j, none⟩ = false) ∧ x.pen.l.length ≤ x.cap := by
  obtain ⟨h1, cs, h2, h3, h4, h5⟩ := h
  refine ⟨by rw [cell_of h1]; rfl, by rw [cell_of h1]; rfl, free_of h1 0, free_of h1 1, fun j u hj => ?_, fun j hj => ⟨?_, free_of h2 _⟩, h4⟩
  · rw [cell_of h2]
    simp only [u64s, List.getElem?_map, Option.map_eq_some_iff] at hj
    obtain ⟨v, hv, rfl⟩ := hj
    exact h5 j v hv
  · rw [cell_of h2, Array.getElem?_eq_getElem (by omega)]
    rfl
theorem pen_len {d : Dev} {g : Lay} {w : World} {b : Nat} (h : DevIs w b d g) {x : Ent} (hx : x ∈ g.es) : x.pen.l.length ≤ 1099511627776 :=
  Nat.le_trans (h.wf.few (x.key, x.pen) (by rw [h.opn]; exact List.mem_map.2 ⟨x, hx, rfl⟩)) (Nat.le_trans h.wf.st h.wf.lim)
theorem stored_old_fin {w w1 W3 : World} {b : Nat} {d : Dev} {g : Lay} {v : Int} {pre post : List Ent} {x : Ent} (hd0 : DevIs w b d g) (he : g.es = pre ++ x :: post) (hp : ∀ y ∈ pre, y.key ≠ x.key) (hok : d.storeOk x.key = true) (hlim : d.steps < 1099511627776)
    (hu1 : Upd [b] w w1) (hd1 : DevIs w1 b (d.stepped true) g) (q' off' cap' : Nat) (hq : q' = x.q ∨ w1.heap.size ≤ q') (hu3 : Upd [x.p, x.q] w1 W3)
    (hent : EntAt W3 { x with q := q', off := off', cap := cap', pen := ⟨x.pen.l ++ [v], x.pen.fl⟩ }) : DevTo w W3 b g (d.stored x.key v) := by
  have hw := stored_wf hd0.wf x.key v hlim
  have hs : d.stored x.key v = { d.stepped true with opn := putPen x.key v d.opn } := by
    unfold Dev.stored
    rw [if_pos hok, find_of_some hd0.opn he hp]
    rfl
  have hxm : x ∈ g.es := by rw [he]; simp
  obtain ⟨h1, h2⟩ := dev_ent (d' := d.stored x.key v) hd1 he hu3 hent rfl rfl rfl hq (by rw [hs]; rfl) (by rw [hs]) (by rw [hs]; exact put_split hd0.opn hd0.wf.keys he v _ rfl rfl) hw
  have hsz := hu1.size
  refine ⟨_, h1, fun k hk => ?_, ?_⟩
  · rcases h2 k hk with r | r
    · exact .inl r
    · exact .inr (by omega)
  · refine (hu1.mono fun k hk => ?_).trans hu3 fun k hk => ?_
    · simp at hk; subst hk; exact .inl (by simp [Lay.foot])
    · left
      simp only [List.mem_cons, List.not_mem_nil, or_false] at hk
      rcases hk with rfl | rfl
      · simp [Lay.foot, (mem_ents hxm).1]
      · simp [Lay.foot, (mem_ents hxm).2]
theorem ne_pq {w : World} {b : Nat} {d : Dev} {g : Lay} (h : DevIs w b d g) {x : Ent} (hx : x ∈ g.es) : x.p ≠ x.q := by
  obtain ⟨h1, cs, h2, _⟩ := h.ents x hx
  intro e
  rw [← e, h1] at h2
  simp at h2
set_option maxRecDepth 100000 in
theorem store_old {w : World} {b : Nat} {d : Dev} {g : Lay} (h : DevIs w b d g) (v : Int) {pre post : List Ent} {x : Ent} (he : g.es = pre ++ x :: post) (hp : ∀ y ∈ pre, y.key ≠ x.key)
    (hok : d.storeOk x.key = true) (hlim : d.steps < 1099511627776) :
    Calls Tryz.prog 152 #[.pointer (some ⟨b, 0, none⟩), .int .i64 x.key, .int .u64 v] w fun e w' => e = .returned (.bool true) ∧ DevTo w w' b g (d.stored x.key v) := by
  have hc := in_any h x.key
  have hok' := hok
  simp only [Dev.storeOk, Bool.and_eq_true, Bool.not_eq_true'] at hok'
  rw [hok'.1] at hc
  have hs := step_go h hok'.2 hlim true
  have hxm : x ∈ g.es := by rw [he]; simp
  have hlen := pen_len h hxm
  have H := Lib.hid h
  have HC := Lib.hid hc
  have HS := Lib.hid hs
  have HO := Lib.hid hok
  have HE := Lib.hid he
  have HP := Lib.hid hp
  have HX := Lib.hid hxm
  have hl := hlim
  have HL := Lib.hid hl
  obtain ⟨i0, hinf, hz0, hz1, hz2⟩ := info_parts info_u64
  have HI := Lib.hid (And.intro hinf (And.intro hz0 (And.intro hz1 hz2)))
  clear hc h hok hok' hs he hp hl hinf hz0 hz1 hz2
  go_enter Tryz.func152, Tryz.ntmps152
  go_wp2_with (first | (go_at_call 173; refine HC.out.mono ?_; rintro e w' ⟨rfl, rfl⟩) | (go_at_call 184; refine HS.out.mono ?_; rintro e w1 ⟨rfl, hu1, hd1⟩; (obtain ⟨c0, c1, c2, c3, c4, c5⟩ := dev_cells hd1); clear c0 c1 c2 c4 c5; (have hlk := look_some hd1 HE.out HP.out); (obtain ⟨p0, p1, f0, f1, po, ps, pc⟩ := ent_facts (hd1.ents x HX.out)); (have HPO := Lib.hid po); (have HPS := Lib.hid ps); (have hxlt := lt_of (hd1.ents x HX.out).1); (have hqlt : x.q < w1.heap.size := hd1.lt x.q (by simp [Lay.foot, (mem_ents HX.out).2])); (have HD1 := Lib.hid hd1); (have HU1 := Lib.hid hu1); clear hd1 hu1 po ps p1 f1) |
    (at_builtin; refine wpList_append_arg _ rfl _ _ 22 rfl 94 i0 (.int .u64 0) 1 8 Tryz.underlying22 HI.out.1 HI.out.2.1 HI.out.2.2.1 HI.out.2.2.2 rfl (by decide) x.q x.off x.pen.l.length x.cap (u64s x.pen.l) rfl (by simp [u64s]) ?c1 ⟨w1.heap.size, 0, none⟩ 1 1 [.int .u64 v] rfl rfl ?c2 ?c3 ?c4 (by unfold maxLen; omega) (by omega) ?c5 ?c6))
  case c1 => exact fun j u hj => by rw [World.cell?_alloc_lt _ _ _ hqlt]; exact HPO.out j u hj
  case c2 =>
    intro j u hj
    match j with
    | 0 => simp at hj; subst hj; simp [Addr.add]
    | j + 1 => simp at hj
  case c3 => simp [Value.oneCell']
  case c4 =>
    intro hle j hj
    have := HPS.out (x.pen.l.length + j) (by simp at hj; omega)
    rw [World.cell?_alloc_lt _ _ _ (by exact hqlt), World.frozen?_alloc_old _ _ _ (by simp; omega)]
    simpa [Nat.add_assoc] using this
  case c5 =>
    intro hle
    have hW : (w1.alloc (.cells #[.int .u64 v] 94)).setCells x.q (x.off + x.pen.l.length) [.int .u64 v] = (w1.alloc (.cells #[.int .u64 v] 94)).setCell ⟨x.q, x.off + x.pen.l.length, none⟩ (.int .u64 v) := by simp [World.setCells]
    rw [hW]
    obtain ⟨h1, cs, h2, h3, h4, h5⟩ := HD1.out.ents x HX.out
    have hpq := ne_pq HD1.out HX.out
    have k1 := set_other (a := ⟨x.q, x.off + x.pen.l.length, none⟩) (alloc_old h1 (.cells #[.int .u64 v] 94)) hpq (.int .u64 v)
    have k2 := set_same (alloc_old h2 (.cells #[.int .u64 v] 94)) (x.off + x.pen.l.length) (.int .u64 v)
    have k3 : Upd [x.p, x.q] w1 ((w1.alloc (.cells #[.int .u64 v] 94)).setCell ⟨x.q, x.off + x.pen.l.length, none⟩ (.int .u64 v)) := ((Upd.refl _ _).alloc _).setCell (by simp) _
    clear h1 h2 hW p0 f0 hlk
    generalize (w1.alloc (.cells #[.int .u64 v] 94)).setCell ⟨x.q, x.off + x.pen.l.length, none⟩ (.int .u64 v) = W2 at *
    have p0 := cell_of k1 0
    have f0 := free_of k1 0
    simp only [List.getElem?_toArray, List.getElem?_cons_zero] at p0
    have K1 := Lib.hid k1
    have K2 := Lib.hid k2
    have K3 := Lib.hid k3
    have H5 := Lib.hid h5
    clear k1 k2 k3 h5 hpq
    go_wp2
    go_ret
    refine ⟨rfl, stored_old_fin H.out HE.out HP.out HO.out hlim HU1.out HD1.out x.q x.off x.cap (.inl rfl) (K3.out.setCell (by simp) _) ⟨?_, _, set_other K2.out (fun e => ne_pq HD1.out HX.out e.symm) _, by simpa using h3, by simp; omega, ?_⟩⟩
    · simp only [List.length_append, List.length_singleton]
      exact set_b K1.out 0 _ rfl
    · intro j u hj
      simp only at hj
      rw [Array.getElem?_setIfInBounds]
      by_cases e : j < x.pen.l.length
      · rw [if_neg (show ¬ (x.off + x.pen.l.length = x.off + j) from by omega)]
        rw [List.getElem?_append_left e] at hj
        exact H5.out j u hj
      · rw [List.getElem?_append_right (by omega)] at hj
        have : j = x.pen.l.length := by
          have := (List.getElem?_eq_some_iff.1 hj).1
          simp at this
          omega
        subst this
        simp at hj
        subst hj
        rw [if_pos rfl, if_pos (by omega)]
  case c6 =>
    intro hlt v' w2 hown hg
    obtain ⟨A, c, qs, rfl, hsl, hqs⟩ := Sl.of_own hown
    obtain ⟨hle, ⟨hnil, -⟩ | ⟨q, off, cs, rfl, rfl, hb, hoc, hat⟩⟩ := hsl
    · simp at hnil
    obtain ⟨h1, -⟩ := HD1.out.ents x HX.out
    have k1 := (Upd.of_grown (F := []) hg).blk (alloc_old h1 (.cells #[.int .u64 v] 94)) (by simp)
    have k3 : Upd [x.p, x.q] w1 w2 := ((Upd.refl _ _).alloc _).trans (Upd.of_grown (F := []) hg) (by simp)
    have hq0 := hqs q (by simp)
    have p0' := cell_of k1 0
    have f0' := free_of k1 0
    simp only [List.getElem?_toArray, List.getElem?_cons_zero] at p0'
    have hqp : q ≠ x.p := by omega
    have K1 := Lib.hid k1
    have K2 := Lib.hid hb
    have K3 := Lib.hid k3
    have H5 := Lib.hid hat
    have Hown := Lib.hid hown
    clear k1 hb k3 hat hown hg h1 hqs p0 f0 hlk
    go_wp2
    go_ret
    refine ⟨rfl, stored_old_fin H.out HE.out HP.out HO.out hlim HU1.out HD1.out q off c (.inr (by omega)) (K3.out.setCell (by simp) _) ⟨?_, cs, set_other K2.out hqp _, hoc, by simpa [u64s] using hle, ?_⟩⟩
    · simp only [List.length_append, List.length_singleton]
      exact set_b K1.out 0 _ rfl
    · intro j u hj
      apply H5.out j (.int .u64 u)
      simp only at hj
      simp only [u64s, ← List.map_singleton (f := Value.int .u64), ← List.map_append, List.getElem?_map, hj, Option.map_some]
end Go.Proofs.YtgnagbbdnlmgeaaGreat.Pm
end
section
namespace Go.Proofs.YtgnagbbdnlmgeaaGreat.Wl
open Go Go.RowKit
open Go.ChangeMaps (setBlock)
open Ob Mp
variable {α : Type} [DecidableEq α] {P : Program} {w : World} {ops : Array Oper} {rest : List Oper} {o : Oper} {a : Act} {Q : Exit → Act → World → Prop} {t kt et : TypeId} {M clock : Nat}
structure Only (M : Nat) (ob : Obj) (w W : World) : Prop where
  here : W.heap[M]? = some ob
  far : ∀ i, i ≠ M → W.heap[i]? = w.heap[i]?
  upd : ∀ F : List Nat, M ∈ F → Upd F w W
  size : W.heap.size = w.heap.size
theorem only_set {M : Nat} {o' : Obj} (h : w.heap[M]? = some o') (ob : Obj) : Only M ob w (setBlock w M ob) :=
  ⟨setBlock_same h ob, fun i hi => setBlock_other w M ob i hi, fun F hF => (Upd.refl F w).setBlock (.inl hF) ob, setBlock_size w M ob⟩
theorem Only.blk {M : Nat} {ob : Obj} {W : World} (h : Only M ob w W) {i : Nat} {o' : Obj} (hi : w.heap[i]? = some o') (hne : i ≠ M) : W.heap[i]? = some o' := (h.far i hne).trans hi
theorem wpl_put_new (K : Kk α) (es : List (En α)) (hg : o.guard = none) (m x v : Operand) (t : TypeId) (hop : o.op = Op.mapUpdate t m x v) (hm : P.underlying t = some (.map kt et)) (hk : P.underlying kt = some K.kd)
    (hmv : a.eval m = .map (some M)) (k : α) (hxv : a.eval x = K.mk k) (val : Value) (hvv : a.eval v = val) (hb : w.heap[M]? = some (obj K es clock)) (hn : ∀ x ∈ es, x.1 ≠ k)
    (hK : ∀ W, Only M (obj K (es ++ [(k, val, clock)]) (clock + 1)) w W → wpList P ops Q rest (a.put o.dst undef) W) : wpList P ops Q (o :: rest) a w := by
  refine wpList_plain hg fun K' hK' => ?_
  unfold Oper.wp
  simp [execOp, hop, hmv, hxv, hvv, run_update_new hm hk hb hn (v := val), Result.andThen]
  exact hK' _ _ (hK _ (only_set hb _))
theorem wpl_delete_some (K : Kk α) (pre post : List (En α)) (old : Value) (b : Nat) (hg : o.guard = none) (m x : Operand) (t kt : TypeId) (hop : o.op = Op.call { callee := Callee.builtin Builtin.delete, args := #[m, x], argTypes := #[t, kt] })
    (hm : P.underlying t = some (.map kt et)) (hk : P.underlying kt = some K.kd)
    (hmv : a.eval m = .map (some M)) (k : α) (hxv : a.eval x = K.mk k) (hb : w.heap[M]? = some (obj K (pre ++ (k, old, b) :: post) clock)) (hn : ∀ x ∈ pre, x.1 ≠ k)
    (hK : ∀ W, Only M (obj K (pre ++ post) clock) w W → wpList P ops Q rest (a.put o.dst (.tuple #[])) W) : wpList P ops Q (o :: rest) a w := by
  refine wpList_plain hg fun K' hK' => ?_
  unfold Oper.wp
  simp [execOp, hop, resolve, invoke, builtin, hmv, hxv, run_delete_some (ts := #[t, kt]) (ty := o.type) rfl hm hk hb hn, Result.andThen]
  exact hK' _ _ (hK _ (only_set hb _))
theorem wpl_range (K : Kk α) (es : List (En α)) (hg : o.guard = none) (m : Operand) (t : TypeId) (hop : o.op = Op.range t m) (hm : P.underlying t = some (.map kt et)) (hmv : a.eval m = .map (some M)) (hb : w.heap[M]? = some (obj K es clock))
    (hK : wpList P ops Q rest (a.put o.dst (.pointer (some ⟨w.heap.size, 0, none⟩))) (w.alloc (.mapIter (some M) clock #[] clock))) : wpList P ops Q (o :: rest) a w := by
  refine wpList_plain hg fun K' hK' => ?_
  unfold Oper.wp
  simp [execOp, hop, hmv, run_range hm hb, Result.andThen]
  exact hK' _ _ hK
theorem wpl_next (K : Kk α) (es : List (En α)) (r : Nat) (seen : Array Nat) (hg : o.guard = none) (it : Operand) (hop : o.op = Op.next it false) (hit : a.eval it = .pointer (some ⟨r, 0, none⟩))
    (hr : w.heap[r]? = some (.mapIter (some M) clock seen clock)) (hb : w.heap[M]? = some (obj K es clock)) (hold : ∀ x ∈ es, x.2.2 < clock) (hnd : (es.map (·.2.2)).Nodup)
    (hDone : (∀ x ∈ es, x.2.2 ∈ seen) → wpList P ops Q rest (a.put o.dst (.tuple #[.bool false])) w)
    (hMore : ∀ x, x ∈ es → x.2.2 ∉ seen → ∀ W, Only r (.mapIter (some M) clock (seen.push x.2.2) clock) w W → (Instr.entry (.pointer (some ⟨r, 0, none⟩))).run P W = .ok (.tuple #[K.mk x.1, x.2.1]) W →
      wpList P ops Q rest (a.put o.dst (.tuple #[.bool true, K.mk x.1, x.2.1])) W) : wpList P ops Q (o :: rest) a w := by
  refine wpList_plain hg fun K' hK' => ?_
  unfold Oper.wp
  rcases run_next (P := P) (K := K) o.type hr hb hold with ⟨h0, hrun⟩ | ⟨x, hx, hn, w1, hw1, hrun⟩
  · simp [execOp, hop, hit, hrun, Result.andThen]
    exact hK' _ _ (hDone h0)
  · simp [execOp, hop, hit, hrun, Result.andThen]
    have hne : M ≠ r := by intro e; subst e; rw [hb] at hr; simp [obj] at hr
    have ho : Only r (.mapIter (some M) clock (seen.push x.2.2) clock) w (setBlock w1 r (.mapIter (some M) clock (seen.push x.2.2) clock)) := by
      rcases hw1 with rfl | rfl
      · exact only_set hr _
      · have := only_set (w := w.drew) hr (.mapIter (some M) clock (seen.push x.2.2) clock)
        exact ⟨this.here, this.far, fun F hF => ⟨(this.upd F hF).os, (this.upd F hF).tape, (this.upd F hF).output, (this.upd F hF).size, (this.upd F hF).block⟩, this.size⟩
    exact hK' _ _ (hMore x hx hn _ ho (run_entry ho.here (ho.blk hb hne) hx hnd))
structure NewRow (e : TypeId) (q c : Nat) (vs : List Value) (w W : World) : Prop where
  ex : ∃ cs, W.heap[q]? = some (.cells cs e (0, 0)) ∧ c ≤ cs.size ∧ ∀ (j : Nat) v, vs[j]? = some v → cs[0 + j]? = some v
  cap : vs.length ≤ c
  new : w.heap.size ≤ q
  upd : ∀ F : List Nat, Upd F w W
theorem wpl_append_grow (hg : o.guard = none) (s x : Operand) (t : TypeId) (hop : o.op = Op.call { callee := Callee.builtin Builtin.append, args := #[s, x], argTypes := #[t, t] })
    (e : TypeId) (z : Value) (bytes : Nat) (h1 : P.underlying t = some (.slice e)) (hinf : (P.info? e).map (fun i => (i.zero, i.size, i.bytes)) = some (some z, 1, bytes)) (h6 : z.cells.size = 1)
    (ao : Option Addr) (n cap : Nat) (olds : List Value) (hs : a.eval s = .slice ao n cap) (hnone : ao = none → n = 0 ∧ cap = 0) (hlo : olds.length = n) (holds : ∀ b, ao = some b → ∀ j u, olds[j]? = some u → w.cell? (b.add j) = some u)
    (ad : Addr) (m c : Nat) (news : List Value) (hx : a.eval x = .slice (some ad) m c) (hn : news.length = m) (hc : ∀ j u, news[j]? = some u → w.cell? (ad.add j) = some u) (h1c : ∀ u ∈ news, u.oneCell' = true)
    (hfull : cap < n + m) (b1 : n + m ≤ maxLen) (b2 : (n + m) * bytes ≤ 140737488355328) (hpos : 0 < n + m)
    (hK : ∀ q c W, NewRow e q c (olds ++ news) w W → wpList P ops Q rest (a.put o.dst (.slice (some ⟨q, 0, none⟩) (n + m) c)) W) :
    wpList P ops Q (o :: rest) a w := by
  obtain ⟨i, hi, hz, hsz, hby⟩ := info_parts hinf
  refine wpList_append_grows w hg s x t hop e i z 1 bytes h1 hi hz hsz hby h6 (by decide) ao n cap olds hs hnone (by simpa using hlo) holds ad m c news hx (by simpa using hn) hc h1c hfull b1 b2 ?_
  intro v' w' hown hgr
  obtain ⟨hl, ⟨rfl, h0⟩ | ⟨g, cap', cur, rfl, hge, hb, hnc, _, hsize, ht⟩⟩ := hown
  · omega
  · refine hK g cap' w' ⟨⟨cur, hb, by omega, fun j v hj => ?_⟩, by simp [hlo, hn]; exact hnc, hge, fun F => Upd.of_grown hgr⟩
    rw [← ht, List.getElem?_take] at hj
    split at hj
    · simpa using hj
    · cases hj
theorem made_one (z : Value) (m : Nat) : madeCells #[z] m = Array.replicate m z := by
  unfold madeCells
  apply Array.ext (by simp)
  intro i h1 h2
  simp [Nat.mod_one]
theorem wpl_make (hg : o.guard = none) (l : Operand) (t e : TypeId) (hop : o.op = Op.makeSlice t l l) (z : Value) (bytes : Nat) (ht : P.underlying t = some (.slice e)) (hinf : (P.info? e).map (fun i => (i.zero, i.size, i.bytes)) = some (some z, 1, bytes)) (hz : z.cells = #[z])
    (m : Nat) (k : IntKind) (c : Int) (hl : a.eval l = .int k c) (hc : c = m) (hb : bytes * m ≤ 281474976710656) (hm : m ≤ 9223372036854775807)
    (hK : wpList P ops Q rest (a.put o.dst (.slice (some ⟨w.heap.size, 0, none⟩) m m)) (w.alloc (.cells (Array.replicate m z) e (0, 0)))) : wpList P ops Q (o :: rest) a w := by
  subst hc
  obtain ⟨i, hi, hzi, hsz, hby⟩ := info_parts hinf
  have hb' : (i.bytes : Int) * (m : Int) ≤ 281474976710656 := by
    rw [hby]
    have h : ((bytes * m : Nat) : Int) ≤ 281474976710656 := by omega
    rwa [Int.natCast_mul] at h
  have hr := run_make (P := P) w t e i z ht hi hzi k k m m (by omega) (Int.le_refl _) hb' (by omega)
  rw [hz, hsz, Nat.mul_one, Int.toNat_natCast, made_one] at hr
  refine wpList_plain hg fun K' hK' => ?_
  unfold Oper.wp
  simp [execOp, hop, hl, hr, Result.andThen]
  exact hK' _ _ hK
end Go.Proofs.YtgnagbbdnlmgeaaGreat.Wl
end
section
set_option maxHeartbeats 400000
namespace Go.Proofs.YtgnagbbdnlmgeaaGreat.Pm
open Go Go.RowKit
open Go.ChangeMaps (setBlock)
open Ob Mp Dv Wl
theorem one_cell (w : World) (v : Value) {T : TypeId} : ∀ (j : Nat) u, [v][j]? = some u → (w.alloc (.cells #[v] T)).cell? ((⟨w.heap.size, 0, none⟩ : Addr).add j) = some u := by
  intro j u hj
  match j with
  | 0 => simp at hj; subst hj; simp [Addr.add]
  | j + 1 => simp at hj
theorem stored_new_fin {w w1 W3 : World} {b : Nat} {d : Dev} {g : Lay} {k v : Int} (hd0 : DevIs w b d g) (hn : ∀ y ∈ g.es, y.key ≠ k) (hok : d.storeOk k = true) (hlim : d.steps < 1099511627776)
    (hu1 : Upd [b] w w1) (hd1 : DevIs w1 b (d.stepped true) g) (p q off cap : Nat) (hp : w1.heap.size ≤ p) (hq : w1.heap.size ≤ q) (hpq : p ≠ q) (hu3 : Upd [g.M] w1 W3)
    (hm : W3.heap[g.M]? = some (obj (kInt .i64) (g.es.map Ent.en ++ [(k, .pointer (some ⟨p, 0, none⟩), g.clock)]) (g.clock + 1)))
    (hent : EntAt W3 ⟨k, g.clock, p, q, off, cap, ⟨[v], 0⟩⟩) : DevTo w W3 b g (d.stored k v) := by
  have hw := stored_wf hd0.wf k v hlim
  have hs : d.stored k v = { d.stepped true with opn := d.opn ++ [(k, ⟨[v], 0⟩)] } := by
    unfold Dev.stored
    rw [if_pos hok, find_of_none hd0.opn hn]
    rfl
  obtain ⟨h1, h2⟩ := dev_new (d' := d.stored k v) hd1 (x := ⟨k, g.clock, p, q, off, cap, ⟨[v], 0⟩⟩) hm hu3 hent rfl hp hq hpq (by rw [hs]; rfl) (by rw [hs]) (by rw [hs]; rfl) hw
  have hsz := hu1.size
  refine ⟨_, h1, fun k hk => ?_, ?_⟩
  · rcases h2 k hk with r | r
    · exact .inl r
    · exact .inr (by omega)
  · refine (hu1.mono fun k hk => ?_).trans hu3 fun k hk => ?_
    · simp at hk; subst hk; exact .inl (by simp [Lay.foot])
    · left
      simp only [List.mem_singleton] at hk
      subst hk
      simp [Lay.foot]
set_option maxRecDepth 100000 in
theorem store_new {w : World} {b : Nat} {d : Dev} {g : Lay} (h : DevIs w b d g) (k v : Int) (hn : ∀ y ∈ g.es, y.key ≠ k)
    (hok : d.storeOk k = true) (hlim : d.steps < 1099511627776) :
    Calls Tryz.prog 152 #[.pointer (some ⟨b, 0, none⟩), .int .i64 k, .int .u64 v] w fun e w' => e = .returned (.bool true) ∧ DevTo w w' b g (d.stored k v) := by
  have hc := in_any h k
  have hok' := hok
  simp only [Dev.storeOk, Bool.and_eq_true, Bool.not_eq_true'] at hok'
  rw [hok'.1] at hc
  have hs := step_go h hok'.2 hlim true
  have H := Lib.hid h
  have HC := Lib.hid hc
  have HS := Lib.hid hs
  have HO := Lib.hid hok
  have HN := Lib.hid hn
  have hl := hlim
  have HL := Lib.hid hl
  obtain ⟨i0, hinf, hz0, hz1, hz2⟩ := info_parts info_u64
  have HI := Lib.hid (And.intro hinf (And.intro hz0 (And.intro hz1 hz2)))
  clear hc h hok hok' hs hn hl hinf hz0 hz1 hz2
  go_enter Tryz.func152, Tryz.ntmps152
  go_wp2_with (first | (go_at_call 173; refine HC.out.mono ?_; rintro e w' ⟨rfl, rfl⟩) | (go_at_call 184; refine HS.out.mono ?_; rintro e w1 ⟨rfl, hu1, hd1⟩; (obtain ⟨c0, c1, c2, c3, c4, c5⟩ := dev_cells hd1); clear c0 c1 c2 c4 c5; (have hlk := look_none hd1 HN.out); (have hmlt := lt_of hd1.map); (have hblt := lt_of hd1.blk); (have HD1 := Lib.hid hd1); (have HU1 := Lib.hid hu1); clear hd1 hu1) |
    (at_mapUpdate; refine wpl_put_new (kInt .i64) (g.es.map Ent.en) rfl _ _ _ _ rfl Tryz.underlying144 Tryz.underlying3 rfl k rfl _ rfl (alloc_old HD1.out.map _) (by simp only [List.mem_map]; rintro _ ⟨x, hx, rfl⟩; exact HN.out x hx) ?_; intro W2 hW2; (have k1 := hW2.blk (alloc_new w1 (.cells #[.slice none 0 0, .int .i64 0] 149)) (by omega)); (have k2 := hW2.here); (have k3 : Upd [g.M] w1 W2 := ((Upd.refl _ _).alloc _).trans (hW2.upd [g.M] (by simp)) (by simp)); (have plt := lt_of k1); (have mlt := lt_of k2); (have p0 := cell_of k1 0); (have f0 := free_of k1 0); simp only [List.getElem?_toArray, List.getElem?_cons_zero] at p0; (have K1 := Lib.hid k1); (have K2 := Lib.hid k2); (have K3 := Lib.hid k3); clear k1 k2 k3 hW2) |
    (at_builtin; refine wpl_append_grow rfl _ _ 22 rfl 94 (.int .u64 0) 8 Tryz.underlying22 info_u64 (by decide) none 0 0 [] rfl (by simp) rfl (by simp) ⟨_, 0, none⟩ 1 1 [.int .u64 v] rfl rfl (one_cell _ _) (by simp [Value.oneCell']) (by omega) (by unfold maxLen; omega) (by omega) (by omega) ?_; intro q c w2 hnew; (have k1 := (hnew.upd []).blk (alloc_old K1.out (.cells #[.int .u64 v] 94)) (by simp)); (have p1 := cell_of k1 0); (have f1 := free_of k1 0); simp only [List.getElem?_toArray, List.getElem?_cons_zero] at p1; (have L1 := Lib.hid k1); (have HW := Lib.hid hnew); clear k1 hnew p0 f0))
  go_ret
  obtain ⟨⟨cs, hb, hoc, hat⟩, hle, hq0, hup⟩ := HW.out
  have hsz := K3.out.size
  have k2 := (hup []).blk (alloc_old K2.out (.cells #[.int .u64 v] 94)) (by simp)
  have k3 : Upd [g.M] w1 w2 := (K3.out.alloc _).trans (hup []) (by simp)
  simp only [World.size_alloc] at hq0
  refine ⟨rfl, stored_new_fin H.out HN.out HO.out hlim HU1.out HD1.out w1.heap.size q 0 c (Nat.le_refl _) (by omega) (by omega) (k3.setCell (by simp) _) (set_other k2 (by simp; omega) _) ⟨?_, cs, set_other hb (by simp; omega) _, by simpa using hoc, by simpa using hle, ?_⟩⟩
  · exact set_b L1.out 0 _ rfl
  · intro j u hj
    apply hat j (.int .u64 u)
    match j with
    | 0 => simp at hj; subst hj; rfl
    | j + 1 => simp at hj
theorem store_any {w : World} {b : Nat} {d : Dev} {g : Lay} (h : DevIs w b d g) (k v : Int) (hlim : d.steps < 1099511627776) :
    Calls Tryz.prog 152 #[.pointer (some ⟨b, 0, none⟩), .int .i64 k, .int .u64 v] w fun e w' => e = .returned (.bool (d.storeOk k)) ∧ DevTo w w' b g (d.stored k v) := by
  cases hok : d.storeOk k with
  | false =>
    refine (store_no h k v hok).mono ?_
    rintro e w' ⟨rfl, rfl⟩
    refine ⟨rfl, g, ?_, fun k hk => .inl hk, Upd.refl _ _⟩
    unfold Dev.stored
    rw [if_neg (by simp [hok])]
    exact h
  | true =>
    rcases find_split g.es k with hn | ⟨pre, x, post, he, rfl, hp⟩
    · exact store_new h k v hn hok hlim
    · exact store_old h v he hp hok hlim
end Go.Proofs.YtgnagbbdnlmgeaaGreat.Pm
end
section
set_option maxHeartbeats 400000
namespace Go.Proofs.YtgnagbbdnlmgeaaGreat.Pm
open Go Go.RowKit
open Go.ChangeMaps (setBlock)
open Ob Mp Dv Wl
def atKey (k : Int) (f : Pen → Pen) (y : Int × Pen) : Int × Pen := if y.1 = k then (y.1, f y.2) else y
theorem atKey_split {d : Dev} {g : Lay} (ho : d.opn = g.es.map fun x => (x.key, x.pen)) (hk : (d.opn.map (·.1)).Nodup) {pre post : List Ent} {x : Ent} (he : g.es = pre ++ x :: post) (f : Pen → Pen) (x' : Ent) (h1 : x'.key = x.key) (h2 : x'.pen = f x.pen) :
    d.opn.map (atKey x.key f) = (pre ++ x' :: post).map fun x => (x.key, x.pen) := by
  rw [ho, he] at hk ⊢
  simp only [List.map_append, List.map_cons, List.map_map, List.nodup_append, List.nodup_cons, List.mem_map, List.mem_cons, Function.comp] at hk
  obtain ⟨_, ⟨h3, _⟩, h4⟩ := hk
  simp only [List.map_append, List.map_cons, atKey, if_true]
  rw [h1, h2]
  congr 1
  · rw [List.map_map]
    apply List.map_congr_left
    intro y hy
    simp only [Function.comp, atKey]
    rw [if_neg]
    exact fun e => h4 y.key ⟨y, hy, rfl⟩ x.key (.inl rfl) e
  · congr 1
    rw [List.map_map]
    apply List.map_congr_left
    intro y hy
    simp only [Function.comp, atKey]
    rw [if_neg]
    exact fun e => h3 ⟨y, hy, e⟩
theorem atKey_none {d : Dev} {g : Lay} (ho : d.opn = g.es.map fun x => (x.key, x.pen)) {k : Int} (hn : ∀ x ∈ g.es, x.key ≠ k) (f : Pen → Pen) : d.opn.map (atKey k f) = d.opn := by
  rw [ho, List.map_map]
  apply List.map_congr_left
  intro y hy
  simp only [Function.comp, atKey]
  rw [if_neg (hn y hy)]
def flushP (p : Pen) : Pen := ⟨p.l, p.l.length⟩
def flPart (lo k : Int) (y : Int × Pen) : Int × Pen := if lo ≤ y.1 ∧ y.1 < k then (y.1, flushP y.2) else y
theorem flPart_succ (lo k : Int) (h : lo ≤ k) (l : List (Int × Pen)) : l.map (flPart lo (k + 1)) = (l.map (flPart lo k)).map (atKey k flushP) := by
  rw [List.map_map]
  apply List.map_congr_left
  intro y _
  show flPart lo (k + 1) y = atKey k flushP (flPart lo k y)
  by_cases h1 : lo ≤ y.1 ∧ y.1 < k
  · have e1 : flPart lo k y = (y.1, flushP y.2) := if_pos h1
    have e2 : flPart lo (k + 1) y = (y.1, flushP y.2) := if_pos (by omega)
    have e3 : atKey k flushP (y.1, flushP y.2) = (y.1, flushP y.2) := if_neg (by show ¬ y.1 = k; omega)
    rw [e1, e2, e3]
  · have e1 : flPart lo k y = y := if_neg h1
    rw [e1]
    by_cases h2 : y.1 = k
    · have e2 : flPart lo (k + 1) y = (y.1, flushP y.2) := if_pos (by omega)
      have e3 : atKey k flushP y = (y.1, flushP y.2) := if_pos h2
      rw [e2, e3]
    · have e2 : flPart lo (k + 1) y = y := if_neg (by omega)
      have e3 : atKey k flushP y = y := if_neg h2
      rw [e2, e3]
theorem flPart_zero (lo : Int) (l : List (Int × Pen)) : l.map (flPart lo lo) = l := by
  conv => rhs; rw [← List.map_id l]
  apply List.map_congr_left
  intro y _
  simp only [flPart, id]
  rw [if_neg (by omega)]
theorem flPart_all (line : Int) (h : 0 ≤ line) (l : List (Int × Pen)) (hl : ∀ x ∈ l, 0 ≤ x.1) : l.map (flPart (line * 8) (line * 8 + 8)) = l.map (flushPen line) := by
  apply List.map_congr_left
  intro y hy
  have := hl y hy
  simp only [flPart, flushPen, flushP]
  by_cases h1 : y.1 / 8 = line
  · rw [if_pos (by omega), if_pos h1]
  · rw [if_neg (by omega), if_neg h1]
theorem same_keys_wf {d d' : Dev} (h : d.Wf) {f : Int × Pen → Int × Pen} (h1 : ∀ y, (f y).1 = y.1) (h2 : ∀ y, (f y).2.l = y.2.l) (h3 : ∀ y, y.2.fl ≤ y.2.l.length → (f y).2.fl ≤ y.2.l.length)
    (ho : d'.opn = d.opn.map f) (hl : d'.las = d.las) (hs : d'.steps = d.steps) (hst : d'.stores = d.stores) (hfu : d'.fuse = d.fuse) : d'.Wf := by
  have hm : ∀ x ∈ d'.opn, ∃ y ∈ d.opn, x = f y := by
    intro x hx
    rw [ho] at hx
    simp only [List.mem_map] at hx
    obtain ⟨y, hy, rfl⟩ := hx
    exact ⟨y, hy, rfl⟩
  refine ⟨by rw [hl]; exact h.len, ?_, fun x hx => ?_, fun x hx => ?_, fun x hx => ?_, fun x hx => ?_, fun x hx => ?_, by rw [hs, hst]; exact h.st, by rw [hs]; exact h.lim, by rw [hfu]; exact h.fuse⟩
  · rw [ho, List.map_map, show ((fun x : Int × Pen => x.1) ∘ f) = (fun x => x.1) from funext h1]
    exact h.keys
  all_goals
    obtain ⟨y, hy, rfl⟩ := hm x hx
  · rw [h1]; exact h.lo y hy
  · rw [h1, hl]; exact h.hi y hy
  · rw [h2]; exact h.ne y hy
  · rw [h2]; exact h3 y (h.fl y hy)
  · rw [h2, hst]; exact h.few y hy
def _root_.Go.Proofs.YtgnagbbdnlmgeaaGreat.Dv.Dev.withOpn (d : Dev) (l : List (Int × Pen)) : Dev := { d with opn := l }
theorem flush_wf {d : Dev} (h : d.Wf) (lo k : Int) : (d.withOpn (d.opn.map (flPart lo k))).Wf :=
  same_keys_wf h (f := flPart lo k) (fun y => by unfold flPart; split <;> rfl) (fun y => by unfold flPart; split <;> rfl) (fun y hy => by unfold flPart flushP; split <;> simp [hy]) rfl rfl rfl rfl rfl
theorem flush_no {w : World} {b : Nat} {d : Dev} {g : Lay} (h : DevIs w b d g) (line : Int) (hn : d.flushOk line = false) :
    Calls Tryz.prog 153 #[.pointer (some ⟨b, 0, none⟩), .int .i64 line] w fun e w' => e = .returned (.bool false) ∧ w = w' := by
  obtain ⟨c0, c1, c2, c3, c4, c5⟩ := dev_cells h
  have hlen := h.wf.len
  have HH := Lib.hid h
  clear c0 c1 c3 c4 c5 h
  by_cases h0 : line < 0
  · clear hn
    go_enter Tryz.func153, Tryz.ntmps153
    go_wp2_with fail
    go_ret
    exact ⟨rfl, rfl⟩
  · by_cases hz : d.las.length = 0
    · have hz' : ((d.las.length : Int) == 0) = true := by simp [hz]
      have HZ := Lib.hid hz
      by_cases h1 : line = 0
      · subst h1
        rw [hz] at c2
        clear hn hz hz'
        go_enter Tryz.func153, Tryz.ntmps153
        go_wp2_with fail
        go_ret
        exact ⟨rfl, rfl⟩
      · rw [hz] at c2
        clear hn hz hz'
        have h2 : 0 < line := by omega
        clear h1
        go_enter Tryz.func153, Tryz.ntmps153
        go_wp2_with fail
        go_ret
        exact ⟨rfl, rfl⟩
    · have hz0 : 1 ≤ d.las.length := by omega
      by_cases h1 : 8 * line < d.las.length
      · have hd : d.down = true := by
          simp only [Dev.flushOk, Bool.and_eq_false_iff, decide_eq_false_iff_not, Bool.not_eq_false'] at hn
          rcases hn with (hn | hn) | hn
          · omega
          · omega
          · exact hn
        have hs := step_down HH.out hd false
        have HS := Lib.hid hs
        have h2 : line ≤ ((d.las.length : Int) - 1) / 8 := by omega
        have h3 : ((d.las.length : Int) == 0) = false := beq_eq_false_iff_ne.2 (by omega)
        clear hs hn hd
        go_enter Tryz.func153, Tryz.ntmps153
        go_wp2_with (go_at_call 184; refine HS.out.mono ?_; rintro e w' ⟨rfl, rfl⟩)
        go_ret
        exact ⟨rfl, rfl⟩
      · have h2 : ((d.las.length : Int) - 1) / 8 < line := by omega
        clear hn
        go_enter Tryz.func153, Tryz.ntmps153
        go_wp2_with fail
        go_ret
        exact ⟨rfl, rfl⟩
def FlRel (w : World) (b : Nat) (d : Dev) (g : Lay) (line : Int) (wr : World) (k : Int) : Prop :=
  ∃ gk, DevIs wr b ((d.stepped false).withOpn (d.opn.map (flPart (line * 8) k))) gk ∧ (∀ x ∈ gk.foot b, x ∈ g.foot b) ∧ Upd (g.foot b) w wr
theorem fl_none {w wr : World} {b : Nat} {d : Dev} {g gk : Lay} {line k : Int} (hk : line * 8 ≤ k) (h : DevIs wr b ((d.stepped false).withOpn (d.opn.map (flPart (line * 8) k))) gk) (hf : ∀ x ∈ gk.foot b, x ∈ g.foot b) (hu : Upd (g.foot b) w wr)
    (hn : ∀ x ∈ gk.es, x.key ≠ k) : FlRel w b d g line wr (k + 1) := by
  refine ⟨gk, ?_, hf, hu⟩
  rw [flPart_succ _ _ hk]
  have := atKey_none h.opn hn flushP
  simp only [Dev.withOpn] at this ⊢
  rw [this]
  exact h
theorem fl_some {w wr W : World} {b : Nat} {d : Dev} {g gk : Lay} {line k : Int} (hk : line * 8 ≤ k) (h : DevIs wr b ((d.stepped false).withOpn (d.opn.map (flPart (line * 8) k))) gk) (hf : ∀ x ∈ gk.foot b, x ∈ g.foot b) (hu : Upd (g.foot b) w wr)
    (hw : d.Wf) (hlim : d.steps < 1099511627776)
    {pre post : List Ent} {x : Ent} (he : gk.es = pre ++ x :: post) (hp : ∀ y ∈ pre, y.key ≠ x.key) (hxk : x.key = k) (hW : W = wr.setCell ⟨x.p, 1, none⟩ (.int .i64 x.pen.l.length)) : FlRel w b d g line W (k + 1) := by
  have hxm : x ∈ gk.es := by rw [he]; simp
  obtain ⟨h1, cs, h2, h3, h4, h5⟩ := h.ents x hxm
  have hpq := ne_pq h hxm
  subst hxk hW
  have hu2 : Upd [x.p, x.q] wr (wr.setCell ⟨x.p, 1, none⟩ (.int .i64 x.pen.l.length)) := (Upd.refl _ _).setCell (by simp) _
  obtain ⟨r1, r2⟩ := dev_ent (d' := (d.stepped false).withOpn (d.opn.map (flPart (line * 8) (x.key + 1)))) h he hu2 (x' := { x with pen := flushP x.pen })
    ⟨set_b h1 1 _ rfl, cs, set_other h2 (fun e => hpq e.symm) _, h3, h4, h5⟩ rfl rfl rfl (.inl rfl) rfl rfl
    (by rw [flPart_succ _ _ hk]; exact atKey_split h.opn h.wf.keys he flushP _ rfl rfl) (flush_wf (stepped_wf hw false hlim) _ _)
  refine ⟨_, r1, fun y hy => ?_, hu.trans hu2 fun y hy => ?_⟩
  · have hin := (mem_ents hxm)
    simp only [Lay.foot, Lay.ents, List.mem_cons, List.mem_append, List.flatMap_append, List.flatMap_cons] at hy
    apply hf
    simp only [Lay.foot, Lay.ents, he, List.mem_cons, List.mem_append, List.flatMap_append, List.flatMap_cons]
    exact hy
  · left
    have hin := (mem_ents hxm)
    simp only [List.mem_cons, List.not_mem_nil, or_false] at hy
    rcases hy with rfl | rfl
    · exact hf _ (by simp [Lay.foot, hin.1])
    · exact hf _ (by simp [Lay.foot, hin.2])
set_option maxRecDepth 100000 in
theorem flush_go {w : World} {b : Nat} {d : Dev} {g : Lay} (h : DevIs w b d g) (line : Int) (hok : d.flushOk line = true) (hlim : d.steps < 1099511627776) :
    Calls Tryz.prog 153 #[.pointer (some ⟨b, 0, none⟩), .int .i64 line] w fun e w' => e = .returned (.bool true) ∧ DevTo w w' b g (d.flushed line) := by
  obtain ⟨c0, c1, c2, c3, c4, c5⟩ := dev_cells h
  have hlen := h.wf.len
  have hfin : d.flushed line = (d.stepped false).withOpn (d.opn.map (flPart (line * 8) (line * 8 + 8))) := by
    simp only [Dev.flushOk, Bool.and_eq_true, decide_eq_true_eq] at hok
    unfold Dev.flushed
    rw [if_pos (by simp only [Dev.flushOk, Bool.and_eq_true, decide_eq_true_eq]; exact hok), flPart_all line hok.1.1 _ h.wf.lo]
    rfl
  have hok2 := hok
  simp only [Dev.flushOk, Bool.and_eq_true, decide_eq_true_eq, Bool.not_eq_true'] at hok2
  obtain ⟨⟨h0, h1⟩, hd⟩ := hok2
  have hs := step_go h hd hlim false
  have h2 : line ≤ ((d.las.length : Int) - 1) / 8 := by omega
  have h3 : ((d.las.length : Int) == 0) = false := beq_eq_false_iff_ne.2 (by omega)
  have h4 : 1 ≤ d.las.length := by omega
  have H := Lib.hid h
  have HS := Lib.hid hs
  have HF := Lib.hid hfin
  clear c0 c1 c3 c4 c5 h hok hfin hs hd
  go_enter Tryz.func153, Tryz.ntmps153
  go_wp2_with (go_at_call 184; refine HS.out.mono ?_; rintro e w1 ⟨rfl, hu1, hd1⟩; (have HU1 := Lib.hid hu1); (have HD1 := Lib.hid hd1); clear hu1 hd1 c2)
  go_loopw [5] (fun c wr => ∃ k : Int, line * 8 ≤ k ∧ k ≤ line * 8 + 8 ∧ c = .int .i64 k ∧ FlRel w b d g line wr k) (fun c _ => (line * 8 + 8 - intOf c).toNat)
  case atStart =>
    refine ⟨line * 8, by omega, by omega, rfl, g, ?_, fun _ hx => hx, HU1.out.mono fun x hx => ?_⟩
    · rw [flPart_zero]; exact HD1.out
    · simp at hx; subst hx; simp [Lay.foot]
  case round =>
    obtain ⟨k, hk0, hk1, rfl, gk, hdk, hfk, huk⟩ := hrel
    obtain ⟨c0, c1, c2, c3, c4, c5⟩ := dev_cells hdk
    clear c0 c1 c2 c4 c5
    by_cases hlt : k < line * 8 + 8
    · rcases find_split gk.es k with hn | ⟨pre, x, post, he, hxk, hp⟩
      · have hl := look_none hdk hn
        have HR := Lib.hid (fl_none (g := g) hk0 hdk hfk huk hn)
        clear hdk hfk huk hn
        go_wp2_with fail
        go_roundw
        case rel => exact ⟨k + 1, by omega, by omega, rfl, HR.out⟩
        case measure => simp [intOf]; omega
      · have hl := look_some hdk he (by rw [hxk]; exact hp)
        have hxm : x ∈ gk.es := by rw [he]; simp
        obtain ⟨p0, p1, f0, f1, po, ps, pc⟩ := ent_facts (hdk.ents x hxm)
        have hpl := pen_len hdk hxm
        rw [hxk] at hl
        have HR := Lib.hid (fun W => fl_some (g := g) (W := W) hk0 hdk hfk huk H.out.wf hlim he (by rw [hxk]; exact hp) hxk)
        clear hdk hfk huk hp he hxk po ps
        go_wp2_with fail
        go_roundw
        case rel => exact ⟨k + 1, by omega, by omega, rfl, HR.out _ rfl⟩
        case measure => simp [intOf]; omega
    · obtain rfl : k = line * 8 + 8 := by omega
      have HR := Lib.hid (And.intro hdk (And.intro hfk huk))
      clear hdk hfk huk
      go_wp2_with fail
      go_ret
      exact ⟨rfl, gk, by rw [HF.out]; exact HR.out.1, fun x hx => .inl (HR.out.2.1 x hx), HR.out.2.2⟩
theorem flush_any {w : World} {b : Nat} {d : Dev} {g : Lay} (h : DevIs w b d g) (line : Int) (hlim : d.steps < 1099511627776) :
    Calls Tryz.prog 153 #[.pointer (some ⟨b, 0, none⟩), .int .i64 line] w fun e w' => e = .returned (.bool (d.flushOk line)) ∧ DevTo w w' b g (d.flushed line) := by
  cases hok : d.flushOk line with
  | false =>
    refine (flush_no h line hok).mono ?_
    rintro e w' ⟨rfl, rfl⟩
    refine ⟨rfl, g, ?_, fun k hk => .inl hk, Upd.refl _ _⟩
    unfold Dev.flushed
    rw [if_neg (by simp [hok])]
    exact h
  | true => exact flush_go h line hok hlim
end Go.Proofs.YtgnagbbdnlmgeaaGreat.Pm
end
section
set_option maxHeartbeats 400000
namespace Go.Proofs.YtgnagbbdnlmgeaaGreat.Pm
open Go Go.RowKit
open Go.ChangeMaps (setBlock)
open Ob Mp Dv Wl
theorem fm_congr {α β : Type} {f g : α → Option β} : ∀ {l : List α}, (∀ x ∈ l, f x = g x) → l.filterMap f = l.filterMap g
  | [], _ => rfl
  | x :: l, h => by
    simp only [List.filterMap_cons, h x (by simp)]
    rw [fm_congr (l := l) (fun y hy => h y (by simp [hy]))]
def finE (seen : Array Nat) (x : Ent) : Option (Int × Pen) := if x.born ∈ seen then some (x.key, x.pen) else fencePen (x.key, x.pen)
def finOpn (es : List Ent) (seen : Array Nat) : List (Int × Pen) := es.filterMap (finE seen)
def finW (es : List Ent) (seen : Array Nat) (i : Nat) (v : Int) : Int := match es.find? (fun x => decide (x.key = (i : Int)) && decide (x.born ∉ seen)) with
  | some y => if y.pen.fl = 0 then v else y.pen.l.getD (y.pen.fl - 1) 0
  | none => v
def finLas (es : List Ent) (seen : Array Nat) (l : List Int) : List Int := l.mapIdx (finW es seen)
theorem fin_start {d : Dev} {es : List Ent} (ho : d.opn = es.map fun x => (x.key, x.pen)) : finOpn es #[] = d.opn.filterMap fencePen ∧ finLas es #[] d.las = d.las.mapIdx (fenceWord d.opn) := by
  refine ⟨?_, ?_⟩
  · rw [ho, List.filterMap_map]
    unfold finOpn
    congr 1
    funext x
    simp [finE]
  · unfold finLas
    congr 1
    funext i v
    unfold finW fenceWord
    rw [ho, List.find?_map]
    simp only [Array.not_mem_empty, not_false_eq_true, decide_true, Bool.and_true]
    simp only [Function.comp_def]
    cases List.find? (fun x => decide (x.key = (i : Int))) es <;> rfl
theorem fin_end {es : List Ent} {seen : Array Nat} {l : List Int} (h : ∀ x ∈ es, x.born ∈ seen) : finOpn es seen = es.map (fun x => (x.key, x.pen)) ∧ finLas es seen l = l := by
  refine ⟨?_, ?_⟩
  · unfold finOpn
    rw [← List.filterMap_eq_map]
    apply fm_congr
    intro x hx
    simp [finE, h x hx]
  · unfold finLas
    have : ∀ i v, finW es seen i v = v := by
      intro i v
      unfold finW
      rw [List.find?_eq_none.2]
      intro x hx
      simp [h x hx]
    apply List.ext_getElem (by simp)
    intro i h1 h2
    simp [this]
theorem fin_step {pre post : List Ent} {x : Ent} {seen : Array Nat} (hns : x.born ∉ seen) (hk : ((pre ++ x :: post).map (·.key)).Nodup) (hb : ((pre ++ x :: post).map (·.born)).Nodup)
    (mid : List Ent) (hm : mid = [] ∨ ∃ x', mid = [x'] ∧ x'.born = x.born) (hmid : mid.map (fun x => (x.key, x.pen)) = (fencePen (x.key, x.pen)).toList)
    (l l' : List Int) (hl : l' = if x.pen.fl = 0 then l else l.set x.key.toNat (x.pen.l.getD (x.pen.fl - 1) 0)) (h0 : 0 ≤ x.key) :
    finOpn (pre ++ (mid ++ post)) (seen.push x.born) = finOpn (pre ++ x :: post) seen ∧ finLas (pre ++ (mid ++ post)) (seen.push x.born) l' = finLas (pre ++ x :: post) seen l := by
  simp only [List.map_append, List.map_cons, List.nodup_append, List.nodup_cons, List.mem_cons, List.mem_map] at hk hb
  obtain ⟨_, ⟨k1, _⟩, k2⟩ := hk
  obtain ⟨_, ⟨b1, _⟩, b2⟩ := hb
  have hpre : ∀ y ∈ pre, y.born ≠ x.born ∧ y.key ≠ x.key := fun y hy => ⟨b2 _ ⟨y, hy, rfl⟩ _ (.inl rfl), k2 _ ⟨y, hy, rfl⟩ _ (.inl rfl)⟩
  have hpost : ∀ y ∈ post, y.born ≠ x.born ∧ y.key ≠ x.key := fun y hy => ⟨fun e => b1 ⟨y, hy, e⟩, fun e => k1 ⟨y, hy, e⟩⟩
  have hfE : ∀ y : Ent, y.born ≠ x.born → finE (seen.push x.born) y = finE seen y := by
    intro y hy
    unfold finE
    simp [hy]
  have hmb : ∀ y ∈ mid, y.born = x.born := by
    intro y hy
    rcases hm with rfl | ⟨x', rfl, e⟩
    · simp at hy
    · simp at hy; subst hy; exact e
  refine ⟨?_, ?_⟩
  · unfold finOpn
    simp only [List.filterMap_append, List.filterMap_cons]
    rw [fm_congr (fun y hy => hfE y (hpre y hy).1), fm_congr (g := finE seen) (l := post) (fun y hy => hfE y (hpost y hy).1)]
    congr 1
    have e1 : mid.filterMap (finE (seen.push x.born)) = (fencePen (x.key, x.pen)).toList := by
      rw [← hmid, ← List.filterMap_eq_map]
      apply fm_congr
      intro y hy
      simp [finE, hmb y hy]
    rw [e1]
    have e2 : finE seen x = fencePen (x.key, x.pen) := by simp [finE, hns]
    rw [e2]
    cases fencePen (x.key, x.pen) <;> rfl
  · unfold finLas
    apply List.ext_getElem
    · rw [hl]; split <;> simp
    intro i h1 h2
    simp only [List.getElem_mapIdx]
    have hp : ∀ y : Ent, y.born ≠ x.born → (decide (y.born ∉ seen.push x.born)) = decide (y.born ∉ seen) := by
      intro y hy
      simp [hy]
    have hfind : ∀ (ys : List Ent), (∀ y ∈ ys, y.born ≠ x.born) → ys.find? (fun y => decide (y.key = (i : Int)) && decide (y.born ∉ seen.push x.born)) = ys.find? (fun y => decide (y.key = (i : Int)) && decide (y.born ∉ seen)) := by
      intro ys
      induction ys with
      | nil => intro _; rfl
      | cons y ys ih =>
        intro hys
        simp only [List.find?_cons, hp y (hys y (by simp))]
        rw [ih (fun z hz => hys z (by simp [hz]))]
    have hmidn : mid.find? (fun y => decide (y.key = (i : Int)) && decide (y.born ∉ seen.push x.born)) = none := by
      rw [List.find?_eq_none]
      intro y hy
      simp [hmb y hy]
    unfold finW
    simp only [List.find?_append, List.find?_cons]
    rw [hfind pre (fun y hy => (hpre y hy).1), hfind post (fun y hy => (hpost y hy).1), hmidn]
    by_cases hi : x.key = i
    · have hi' : x.key.toNat = i := by omega
      have n1 : pre.find? (fun y => decide (y.key = (i : Int)) && decide (y.born ∉ seen)) = none := by
        rw [List.find?_eq_none]
        intro y hy
        have := (hpre y hy).2
        rw [hi] at this
        simp [this]
      have n2 : post.find? (fun y => decide (y.key = (i : Int)) && decide (y.born ∉ seen)) = none := by
        rw [List.find?_eq_none]
        intro y hy
        have := (hpost y hy).2
        rw [hi] at this
        simp [this]
      rw [n1, n2]
      simp only [hi, hns, decide_true, not_false_eq_true, Bool.and_self, Option.none_or, Option.or_some, Option.getD_none]
      subst hl
      split
      · rename_i h; simp [h]
      · rename_i h; simp [h, hi']
    · have hi' : ¬ x.key.toNat = i := by omega
      simp only [hi, decide_false, Bool.false_and, Option.none_or]
      have g1 : i < l'.length := by simpa using h1
      have g2 : i < l.length := by simpa using h2
      have hv : l'[i]'g1 = l[i]'g2 := by
        subst hl
        split
        · rfl
        · simp [List.getElem_set, hi']
      rw [hv]
end Go.Proofs.YtgnagbbdnlmgeaaGreat.Pm
end
