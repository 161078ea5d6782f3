/- Parts of the proof, one behind the other: PmC, PmD, PmE, Wl, PmF. -/
import Derived.Test.YtgnagbbdnlmgeaaGreatC02
import Derived.ArgAppend
import Derived.Maps.Own
import Derived.Test.YtgnagbbdnlmgeaaGreatC01
import Derived.OwnWalk
import Derived.Laws.MakeOwn

/- A device's step: it counts, and its fuse burns. -/
section
set_option linter.unusedVariables false
set_option linter.unusedSimpArgs false
set_option maxHeartbeats 400000
namespace Go.Proofs.YtgnagbbdnlmgeaaGreat.Pm
open Go Go.RowKit
open Go.ChangeMaps (setBlock)
open Go.Proofs.YtgnagbbdnlmgeaaGreat.Ob Go.Proofs.YtgnagbbdnlmgeaaGreat.Mp Go.Proofs.YtgnagbbdnlmgeaaGreat.Dv

/-- The device's own block alone has turned. -/
theorem dev_own {w w' : World} {b : Nat} {d d' : Dev} {g : Lay} (h : DevIs w b d g) (hb : w'.heap[b]? = some (.cells (cellsOf d' g) 146 (0, 0))) (hu : Upd [b] w w')
    (hl : d'.las = d.las) (ho : d'.opn = d.opn) (hw : d'.Wf) : DevIs w' b d' g := by
  have hnd := h.nd
  have hk : ∀ k ∈ g.foot b, k ≠ b → w'.heap[k]? = w.heap[k]? := fun k hk hne => hu.block k (h.lt k hk) (by simpa using hne)
  have hne : ∀ k, k ∈ g.M :: (g.Ls ++ g.ents) → k ≠ b := by
    intro k hk1 e
    subst e
    simp only [Lay.foot] at hnd
    exact (List.nodup_cons.1 hnd).1 hk1
  have hk' : ∀ k ∈ g.M :: (g.Ls ++ g.ents), w'.heap[k]? = w.heap[k]? := fun k hk1 => hk k (by simp only [Lay.foot]; exact List.mem_cons_of_mem _ hk1) (hne k hk1)
  refine ⟨hb, ?_, (hk' _ (by simp)).trans h.map, fun x hx => (h.ents x hx).keep (hk' _ (by simp [(mem_ents hx).1])) (hk' _ (by simp [(mem_ents hx).2])), by rw [ho]; exact h.opn, hnd, h.bnd, h.old, hw⟩
  rw [hl]
  exact h.las.keep (fun q hq => hk' q (by simp [hq]))

theorem stepped_wf {d : Dev} (h : d.Wf) (store : Bool) (hlim : d.steps < 1099511627776) : (d.stepped store).Wf := by
  refine ⟨h.len, h.keys, h.lo, h.hi, h.ne, h.fl, fun x hx => ?_, ?_, ?_, fun n hn => ?_⟩
  · have := h.few x hx
    simp only [Dev.stepped]
    omega
  · have := h.st
    simp only [Dev.stepped]
    cases store <;> simp <;> omega
  · simp only [Dev.stepped]
    omega
  · simp only [Dev.stepped, Option.map_eq_some_iff] at hn
    obtain ⟨m, hm, rfl⟩ := hn
    have := h.fuse m hm
    omega

theorem set_b {w : World} {b : Nat} {t : TypeId} {cs : Array Value} (h : w.heap[b]? = some (.cells cs t (0, 0))) (i : Nat) (u : Value) {cs' : Array Value} (e : cs.setIfInBounds i u = cs') :
    (w.setCell ⟨b, i, none⟩ u).heap[b]? = some (.cells cs' t (0, 0)) := by rw [set_same h, e]

/-- one more, if it is a store -/
def inc (store : Bool) (y : Int) : Int := if store then y + 1 else y

theorem did_any {w : World} {b : Nat} (x y : Int) (hx0 : 0 ≤ x) (hx : x < 1099511627776) (hy0 : 0 ≤ y) (hy : y < 1099511627776) (c2 c3 c4 c5 : Value)
    (hb : w.heap[b]? = some (.cells #[.int .i64 x, .int .i64 y, c2, c3, c4, c5] 146 (0, 0))) (store : Bool) :
    Calls Tryz.prog 193 #[.pointer (some ⟨b, 0, none⟩), .bool store] w fun e w' => e = .returned (.tuple #[]) ∧ Upd [b] w w' ∧
      w'.heap[b]? = some (.cells #[.int .i64 (x + 1), .int .i64 (inc store y), c2, c3, c4, c5] 146 (0, 0)) := by
  have h0 : w.cell? ⟨b, 0, none⟩ = some (.int .i64 x) := by rw [cell_of hb]; rfl
  have h1 : w.cell? ⟨b, 1, none⟩ = some (.int .i64 y) := by rw [cell_of hb]; rfl
  have f0 := free_of hb 0
  have f1 := free_of hb 1
  have HB := Lib.hid hb
  clear hb
  cases store with
  | true =>
    go_enter Tryz.func193, Tryz.ntmps193
    go_wp2
    go_end0
    exact ⟨rfl, ((Upd.refl _ _).setCell (by simp) _).setCell (by simp) _, set_b (set_b HB.out 0 (.int .i64 (x + 1)) rfl) 1 (.int .i64 (y + 1)) rfl⟩
  | false =>
    go_enter Tryz.func193, Tryz.ntmps193
    go_wp2
    go_end0
    exact ⟨rfl, (Upd.refl _ _).setCell (by simp) _, set_b HB.out 0 (.int .i64 (x + 1)) rfl⟩

theorem step_down {w : World} {b : Nat} {d : Dev} {g : Lay} (h : DevIs w b d g) (hd : d.down = true) (store : Bool) :
    Calls Tryz.prog 184 #[.pointer (some ⟨b, 0, none⟩), .bool store] w fun e w' => e = .returned (.bool false) ∧ w = w' := by
  have hc := down_any h
  rw [hd] at hc
  have HC := Lib.hid hc
  clear hc h hd
  go_enter Tryz.func184, Tryz.ntmps184
  go_wp2_with (go_at_call 192; refine HC.out.mono ?_; rintro e w' ⟨rfl, rfl⟩)
  go_ret
  exact ⟨rfl, rfl⟩

theorem step_go {w : World} {b : Nat} {d : Dev} {g : Lay} (h : DevIs w b d g) (hd : d.down = false) (hlim : d.steps < 1099511627776) (store : Bool) :
    Calls Tryz.prog 184 #[.pointer (some ⟨b, 0, none⟩), .bool store] w fun e w' => e = .returned (.bool true) ∧ Upd [b] w w' ∧ DevIs w' b (d.stepped store) g := by
  have hc := down_any h
  rw [hd] at hc
  have HC := Lib.hid hc
  have hw := stepped_wf h.wf store hlim
  have hst := h.wf.st
  have hfu := h.wf.fuse
  obtain ⟨c0, c1, c2, c3, c4, c5⟩ := dev_cells h
  have f5 := dev_free h 5
  have H := Lib.hid h
  have W := Lib.hid hw
  have hblk := h.blk
  clear hc h c0 c1 c2 c3 hw
  cases hf : d.fuse with
  | none =>
    rw [hf] at c4 c5
    simp only [Option.isSome_none, Option.getD_none] at c4 c5
    have hdid := did_any (d.steps : Int) (d.stores : Int) (by omega) (by omega) (by omega) (by omega) _ _ _ _ hblk store
    have HF := Lib.hid hf
    have HD := Lib.hid hdid
    clear hf hdid hd hblk
    go_enter Tryz.func184, Tryz.ntmps184
    go_wp2_with (first | (go_at_call 192; refine HC.out.mono ?_; rintro e w' ⟨rfl, rfl⟩) | (go_at_call 193; refine HD.out.mono ?_; rintro e w1 ⟨rfl, hu, hb1⟩))
    go_ret
    refine ⟨rfl, hu, dev_own H.out ?_ hu rfl rfl W.out⟩
    rw [hb1]
    simp only [cellsOf, Dev.stepped, HF.out]
    cases store <;> simp [inc]
  | some n =>
    cases n with
    | zero => simp [Dev.down, hf] at hd
    | succ n =>
      rw [hf] at c4 c5
      simp only [Option.isSome_some, Option.getD_some] at c4 c5
      have hm : ∃ m : Int, ((n + 1 : Nat) : Int) = m ∧ 0 < m := ⟨_, rfl, by omega⟩
      obtain ⟨m, hm, hpos⟩ := hm
      have hm9 : m ≤ 9223372036854775807 ∨ 9223372036854775807 < m := by omega
      rw [hm] at c5
      have hblk' : w.heap[b]? = some (.cells #[.int .i64 d.steps, .int .i64 d.stores, .slice g.A d.las.length g.c, .map (some g.M), .bool true, .int .i64 m] 146 (0, 0)) := by
        rw [hblk, ← hm]
        simp [cellsOf, hf]
      have hset : (w.setCell ⟨b, 5, none⟩ (.int .i64 (m - 1))).heap[b]? = some (.cells #[.int .i64 d.steps, .int .i64 d.stores, .slice g.A d.las.length g.c, .map (some g.M), .bool true, .int .i64 (m - 1)] 146 (0, 0)) := set_b hblk' 5 (.int .i64 (m - 1)) rfl
      have hu0 : Upd [b] w (w.setCell ⟨b, 5, none⟩ (.int .i64 (m - 1))) := (Upd.refl _ _).setCell (by simp) _
      have hdid := did_any (d.steps : Int) (d.stores : Int) (by omega) (by omega) (by omega) (by omega) _ _ _ _ hset store
      have hfin : d.fuse.isSome = true ∧ ((d.stepped store).fuse.getD 0 : Int) = m - 1 ∧ (d.stepped store).fuse.isSome = true := by
        refine ⟨by rw [hf]; rfl, ?_, by simp [Dev.stepped, hf]⟩
        have : (d.stepped store).fuse.getD 0 = n := by simp [Dev.stepped, hf]
        rw [this]
        omega
      have HD := Lib.hid hdid
      have HU := Lib.hid hu0
      have HN := Lib.hid hfin
      have hlm : m ≤ 9223372036854775807 := hfu _ hf |> fun h => by omega
      clear hf hdid hd hblk hblk' hset hu0 hm hm9 hfin
      go_enter Tryz.func184, Tryz.ntmps184
      go_wp2_with (first | (go_at_call 192; refine HC.out.mono ?_; rintro e w' ⟨rfl, rfl⟩) | (go_at_call 193; refine HD.out.mono ?_; rintro e w1 ⟨rfl, hu, hb1⟩))
      go_ret
      have hu2 := HU.out.trans hu (fun x hx => .inl hx)
      refine ⟨rfl, hu2, dev_own H.out ?_ hu2 rfl rfl W.out⟩
      rw [hb1]
      obtain ⟨q1, q2, q3⟩ := HN.out
      simp only [cellsOf, q2, q3]
      cases store <;> simp [Dev.stepped, inc]

end Go.Proofs.YtgnagbbdnlmgeaaGreat.Pm
end

/- A device's store. -/
section
set_option linter.unusedVariables false
set_option linter.unusedSimpArgs false
set_option maxHeartbeats 400000
namespace Go.Proofs.YtgnagbbdnlmgeaaGreat.Pm
open Go Go.RowKit
open Go.ChangeMaps (setBlock)
open Go.Proofs.YtgnagbbdnlmgeaaGreat.Ob Go.Proofs.YtgnagbbdnlmgeaaGreat.Mp Go.Proofs.YtgnagbbdnlmgeaaGreat.Dv

/-- One pending word has turned. -/
theorem dev_ent {w w' : World} {b : Nat} {d d' : Dev} {g : Lay} (h : DevIs w b d g) {pre post : List Ent} {x x' : Ent} (he : g.es = pre ++ x :: post) (hu : Upd [x.p, x.q] w w')
    (hx : EntAt w' x') (hkey : x'.key = x.key) (hborn : x'.born = x.born) (hp : x'.p = x.p) (hq : x'.q = x.q ∨ w.heap.size ≤ x'.q)
    (hc : cellsOf d' g = cellsOf d g) (hl : d'.las = d.las) (ho : d'.opn = (pre ++ x' :: post).map fun x => (x.key, x.pen)) (hw : d'.Wf) :
    DevIs w' b d' { g with es := pre ++ x' :: post } ∧ ∀ k ∈ ({ g with es := pre ++ x' :: post } : Lay).foot b, k ∈ g.foot b ∨ w.heap.size ≤ k := by
  have hnd := h.nd
  have hlt := h.lt
  have hxm : x ∈ g.es := by rw [he]; simp
  have hxp := hlt x.p (by simp [Lay.foot, (mem_ents hxm).1])
  obtain ⟨A, c, Ls, M, clock, es⟩ := g
  simp only at he
  subst he
  have hfoot : Lay.foot ⟨A, c, Ls, M, clock, pre ++ x :: post⟩ b = b :: M :: (Ls ++ (pre.flatMap (fun x => [x.p, x.q]) ++ (x.p :: x.q :: post.flatMap fun x => [x.p, x.q]))) := by
    simp [Lay.foot, Lay.ents]
  have hfoot' : Lay.foot ⟨A, c, Ls, M, clock, pre ++ x' :: post⟩ b = b :: M :: (Ls ++ (pre.flatMap (fun x => [x.p, x.q]) ++ (x.p :: x'.q :: post.flatMap fun x => [x.p, x.q]))) := by
    simp [Lay.foot, Lay.ents, hp]
  rw [hfoot] at hnd hlt
  generalize hG : pre.flatMap (fun x => [x.p, x.q]) = G at *
  generalize hH : post.flatMap (fun x => [x.p, x.q]) = H at *
  have hpre : ∀ y ∈ pre, y.p ∈ G ∧ y.q ∈ G := fun y hy => by rw [← hG]; simp only [List.mem_flatMap]; exact ⟨⟨y, hy, by simp⟩, ⟨y, hy, by simp⟩⟩
  have hpost : ∀ y ∈ post, y.p ∈ H ∧ y.q ∈ H := fun y hy => by rw [← hH]; simp only [List.mem_flatMap]; exact ⟨⟨y, hy, by simp⟩, ⟨y, hy, by simp⟩⟩
  simp only [List.nodup_cons, List.nodup_append, List.mem_cons, List.mem_append, not_or] at hnd
  obtain ⟨⟨b1, b2, b3, b4, b5, b6⟩, ⟨m1, m2, m3, m4, m5⟩, l1, ⟨g1, ⟨⟨x1, x2⟩, x3, h1⟩, g2⟩, l2⟩ := hnd
  have keep : ∀ k, k < w.heap.size → k ≠ x.p → k ≠ x.q → w'.heap[k]? = w.heap[k]? := fun k hk n1 n2 => hu.block k hk (by simp [n1, n2])
  have kb := hlt b (by simp)
  have kM := hlt M (by simp)
  refine ⟨⟨?_, ?_, ?_, ?_, ?_, ?_, ?_, ?_, hw⟩, ?_⟩
  · rw [keep b kb b4 b5, h.blk]
    exact congrArg (fun c => some (Obj.cells c _ _)) hc.symm
  · rw [hl]
    refine h.las.keep fun q hq => keep q (hlt q (by simp [hq])) ?_ ?_
    · exact fun e => l2 q hq x.p (by simp) e
    · exact fun e => l2 q hq x.q (by simp) e
  · rw [keep M kM m3 m4, h.map]
    simp [Ent.en, hkey, hborn, hp]
  · intro y hy
    simp only [List.mem_append, List.mem_cons] at hy
    rcases hy with hy | rfl | hy
    · have hin := hpre y hy
      refine (h.ents y (by simp [hy])).keep (keep _ (hlt _ (by simp [hin.1])) ?_ ?_) (keep _ (hlt _ (by simp [hin.2])) ?_ ?_)
      · exact fun e => g2 _ hin.1 x.p (by simp) e
      · exact fun e => g2 _ hin.1 x.q (by simp) e
      · exact fun e => g2 _ hin.2 x.p (by simp) e
      · exact fun e => g2 _ hin.2 x.q (by simp) e
    · exact hx
    · have hin := hpost y hy
      refine (h.ents y (by simp [hy])).keep (keep _ (hlt _ (by simp [hin.1])) ?_ ?_) (keep _ (hlt _ (by simp [hin.2])) ?_ ?_)
      · exact fun e => x2 (e ▸ hin.1)
      · exact fun e => x3 (e ▸ hin.1)
      · exact fun e => x2 (e ▸ hin.2)
      · exact fun e => x3 (e ▸ hin.2)
  · exact ho
  · rw [hfoot']
    simp only [List.nodup_cons, List.nodup_append, List.mem_cons, List.mem_append, not_or]
    rcases hq with hq | hq
    · rw [hq]
      exact ⟨⟨b1, b2, b3, b4, b5, b6⟩, ⟨m1, m2, m3, m4, m5⟩, l1, ⟨g1, ⟨⟨x1, x2⟩, x3, h1⟩, g2⟩, l2⟩
    · have far : ∀ k, k < w.heap.size → k ≠ x'.q := fun k hk e => by omega
      refine ⟨⟨b1, b2, b3, b4, far b kb, b6⟩, ⟨m1, m2, m3, far M kM, m5⟩, l1, ⟨g1, ⟨⟨far _ hxp, x2⟩, fun hc => far _ (hlt _ (by simp [hc])) rfl, h1⟩, ?_⟩, ?_⟩
      · intro a ha c hcm
        rcases hcm with rfl | rfl | hcm
        · exact g2 a ha _ (by simp)
        · exact far a (hlt a (by simp [ha]))
        · exact g2 a ha _ (by simp [hcm])
      · intro a ha c hcm
        rcases hcm with hcm | rfl | rfl | hcm
        · exact l2 a ha _ (by simp [hcm])
        · exact l2 a ha _ (by simp)
        · exact far a (hlt a (by simp [ha]))
        · exact l2 a ha _ (by simp [hcm])
  · have := h.bnd
    simpa [hborn] using this
  · intro y hy
    simp only [List.mem_append, List.mem_cons] at hy
    rcases hy with hy | rfl | hy
    · exact h.old y (by simp [hy])
    · rw [hborn]; exact h.old x (by simp)
    · exact h.old y (by simp [hy])
  · intro k hk
    rw [hfoot'] at hk
    rw [hfoot]
    simp only [List.mem_cons, List.mem_append] at hk ⊢
    rcases hk with hk | hk | hk | hk | hk | hk | hk
    · simp [hk]
    · simp [hk]
    · simp [hk]
    · simp [hk]
    · simp [hk]
    · rcases hq with hq | hq
      · simp [hk, hq]
      · exact .inr (by omega)
    · simp [hk]

/-- A word is pending that wasn't. -/
theorem dev_new {w w' : World} {b : Nat} {d d' : Dev} {g : Lay} (h : DevIs w b d g) {x : Ent} (hm : w'.heap[g.M]? = some (obj (kInt .i64) (g.es.map Ent.en ++ [x.en]) (g.clock + 1)))
    (hu : Upd [g.M] w w') (hx : EntAt w' x) (hborn : x.born = g.clock) (hp : w.heap.size ≤ x.p) (hq : w.heap.size ≤ x.q) (hpq : x.p ≠ x.q)
    (hc : cellsOf d' g = cellsOf d g) (hl : d'.las = d.las) (ho : d'.opn = d.opn ++ [(x.key, x.pen)]) (hw : d'.Wf) :
    DevIs w' b d' { g with es := g.es ++ [x], clock := g.clock + 1 } ∧ ∀ k ∈ ({ g with es := g.es ++ [x], clock := g.clock + 1 } : Lay).foot b, k ∈ g.foot b ∨ w.heap.size ≤ k := by
  have hnd := h.nd
  have hlt := h.lt
  have hfoot' : Lay.foot { g with es := g.es ++ [x], clock := g.clock + 1 } b = g.foot b ++ [x.p, x.q] := by simp [Lay.foot, Lay.ents]
  have hne : ∀ k ∈ g.foot b, k ≠ g.M → w'.heap[k]? = w.heap[k]? := fun k hk n => hu.block k (hlt k hk) (by simpa using n)
  have hM : ∀ k, k ∈ g.Ls ++ g.ents → k ≠ g.M := by
    intro k hk e
    subst e
    simp only [Lay.foot] at hnd
    exact (List.nodup_cons.1 (List.nodup_cons.1 hnd).2).1 hk
  have hbM : b ≠ g.M := by
    intro e
    simp only [Lay.foot] at hnd
    exact (List.nodup_cons.1 hnd).1 (by simp [← e])
  have hk : ∀ k, k ∈ g.Ls ++ g.ents → w'.heap[k]? = w.heap[k]? := fun k hk => hne k (by simp only [Lay.foot]; simp only [List.mem_cons]; exact .inr (.inr hk)) (hM k hk)
  refine ⟨⟨?_, ?_, ?_, ?_, ?_, ?_, ?_, ?_, hw⟩, ?_⟩
  · rw [hne b (by simp [Lay.foot]) hbM, h.blk]
    exact congrArg (fun c => some (Obj.cells c _ _)) hc.symm
  · rw [hl]
    exact h.las.keep fun q hq => hk q (by simp [hq])
  · simpa using hm
  · intro y hy
    simp only [List.mem_append, List.mem_singleton] at hy
    rcases hy with hy | rfl
    · exact (h.ents y hy).keep (hk _ (by simp [(mem_ents hy).1])) (hk _ (by simp [(mem_ents hy).2]))
    · exact hx
  · rw [ho, h.opn]
    simp
  · rw [hfoot', List.nodup_append]
    refine ⟨hnd, by simp [hpq], fun a ha c hc => ?_⟩
    have := hlt a ha
    simp at hc
    omega
  · simp only [List.map_append, List.map_cons, List.map_nil, List.nodup_append]
    refine ⟨h.bnd, by simp, fun a ha c hc => ?_⟩
    simp only [List.mem_map] at ha
    obtain ⟨y, hy, rfl⟩ := ha
    simp at hc
    have := h.old y hy
    omega
  · intro y hy
    simp only [List.mem_append, List.mem_singleton] at hy
    rcases hy with hy | rfl
    · have := h.old y hy
      simp only
      omega
    · simp only
      omega
  · intro k hk
    rw [hfoot'] at hk
    simp only [List.mem_append, List.mem_cons, List.not_mem_nil, or_false] at hk
    rcases hk with hk | rfl | rfl
    · exact .inl hk
    · exact .inr hp
    · exact .inr hq

end Go.Proofs.YtgnagbbdnlmgeaaGreat.Pm
end

/- A device's store: what it comes to. -/
section
set_option linter.unusedVariables false
set_option linter.unusedSimpArgs false
set_option maxHeartbeats 400000
namespace Go.Proofs.YtgnagbbdnlmgeaaGreat.Pm
open Go Go.RowKit
open Go.ChangeMaps (setBlock)
open Go.Proofs.YtgnagbbdnlmgeaaGreat.Ob Go.Proofs.YtgnagbbdnlmgeaaGreat.Mp Go.Proofs.YtgnagbbdnlmgeaaGreat.Dv

theorem stored_wf {d : Dev} (h : d.Wf) (k v : Int) (hlim : d.steps < 1099511627776) : (d.stored k v).Wf := by
  unfold Dev.stored
  split
  · rename_i hok
    have hs := stepped_wf h true hlim
    simp only [Dev.storeOk, Bool.and_eq_true] at hok
    obtain ⟨n, rfl, hn⟩ := inn_true hok.1
    split
    · rename_i hf
      have hkeys : (putPen n v d.opn).map (·.1) = d.opn.map (·.1) := by
        unfold putPen
        rw [List.map_map]
        apply List.map_congr_left
        intro y _
        simp only [Function.comp]
        split <;> rfl
      have hmem : ∀ x ∈ putPen n v d.opn, ∃ y ∈ d.opn, x.1 = y.1 ∧ x.2.fl = y.2.fl ∧ (x.2.l = y.2.l ∨ x.2.l = y.2.l ++ [v]) := by
        intro x hx
        simp only [putPen, List.mem_map] at hx
        obtain ⟨y, hy, rfl⟩ := hx
        refine ⟨y, hy, ?_⟩
        split <;> simp
      refine ⟨h.len, by rw [hkeys]; exact h.keys, fun x hx => ?_, fun x hx => ?_, fun x hx => ?_, fun x hx => ?_, fun x hx => ?_, hs.st, hs.lim, hs.fuse⟩
      all_goals
        obtain ⟨y, hy, e1, e2, e3⟩ := hmem x hx
      · rw [e1]; exact h.lo y hy
      · rw [e1]; exact h.hi y hy
      · rcases e3 with e3 | e3
        · rw [e3]; exact h.ne y hy
        · rw [e3]; simp
      · have := h.fl y hy
        rcases e3 with e3 | e3
        · rw [e3, e2]; exact this
        · rw [e3, e2]; simp; omega
      · have := h.few y hy
        show x.2.l.length ≤ d.stores + 1
        rcases e3 with e3 | e3
        · rw [e3]; omega
        · rw [e3]; simp; omega
    · rename_i hf
      have hno : ∀ x ∈ d.opn, x.1 ≠ (n : Int) := by
        simp only [Dev.find, Option.isSome_map, List.find?_isSome, decide_eq_true_eq, not_exists, not_and] at hf
        exact hf
      refine ⟨h.len, ?_, fun x hx => ?_, fun x hx => ?_, fun x hx => ?_, fun x hx => ?_, fun x hx => ?_, hs.st, hs.lim, hs.fuse⟩
      · simp only [List.map_append, List.map_cons, List.map_nil, List.nodup_append]
        refine ⟨h.keys, by simp, fun a ha c hc => ?_⟩
        simp only [List.mem_map] at ha
        obtain ⟨y, hy, rfl⟩ := ha
        simp at hc
        rw [hc]
        exact hno y hy
      all_goals
        simp only [List.mem_append, List.mem_singleton] at hx
        rcases hx with hx | rfl
      · exact h.lo x hx
      · simp
      · exact h.hi x hx
      · show ((n : Nat) : Int) < d.las.length
        omega
      · exact h.ne x hx
      · simp
      · exact h.fl x hx
      · simp
      · have := h.few x hx
        show x.2.l.length ≤ d.stores + 1
        omega
      · show 1 ≤ d.stores + 1
        omega
  · exact h

theorem put_split {d : Dev} {g : Lay} (ho : d.opn = g.es.map fun x => (x.key, x.pen)) (hk : (d.opn.map (·.1)).Nodup) {pre post : List Ent} {x : Ent} (he : g.es = pre ++ x :: post) (v : Int) (x' : Ent) (h1 : x'.key = x.key) (h2 : x'.pen = ⟨x.pen.l ++ [v], x.pen.fl⟩) :
    putPen x.key v d.opn = (pre ++ x' :: post).map fun x => (x.key, x.pen) := by
  rw [ho, he] at hk ⊢
  simp only [List.map_append, List.map_cons, List.map_map, List.nodup_append, List.nodup_cons, List.mem_map, List.mem_cons, Function.comp] at hk
  obtain ⟨_, ⟨h3, _⟩, h4⟩ := hk
  unfold putPen
  simp only [List.map_append, List.map_cons, if_true]
  rw [h1, h2]
  congr 1
  · rw [List.map_map]
    apply List.map_congr_left
    intro y hy
    simp only [Function.comp]
    rw [if_neg]
    exact fun e => h4 y.key ⟨y, hy, rfl⟩ x.key (.inl rfl) e
  · congr 1
    rw [List.map_map]
    apply List.map_congr_left
    intro y hy
    simp only [Function.comp]
    rw [if_neg]
    exact fun e => h3 ⟨y, hy, e⟩

theorem info_u64 : (Tryz.prog.info? 94).map (fun i => (i.zero, i.size, i.bytes)) = some (some (.int .u64 0), 1, 8) := by kernel_rfl

theorem store_no {w : World} {b : Nat} {d : Dev} {g : Lay} (h : DevIs w b d g) (k v : Int) (hn : d.storeOk k = false) :
    Calls Tryz.prog 152 #[.pointer (some ⟨b, 0, none⟩), .int .i64 k, .int .u64 v] w fun e w' => e = .returned (.bool false) ∧ w = w' := by
  have hc := in_any h k
  cases hi : d.inn k with
  | false =>
    rw [hi] at hc
    have HC := Lib.hid hc
    clear hc h hn hi
    go_enter Tryz.func152, Tryz.ntmps152
    go_wp2_with (go_at_call 173; refine HC.out.mono ?_; rintro e w' ⟨rfl, rfl⟩)
    go_ret
    exact ⟨rfl, rfl⟩
  | true =>
    have hd : d.down = true := by simpa [Dev.storeOk, hi] using hn
    have hs := step_down h hd true
    rw [hi] at hc
    have HC := Lib.hid hc
    have HS := Lib.hid hs
    clear hc h hn hi hd hs
    go_enter Tryz.func152, Tryz.ntmps152
    go_wp2_with (first | (go_at_call 173; refine HC.out.mono ?_; rintro e w' ⟨rfl, rfl⟩) | (go_at_call 184; refine HS.out.mono ?_; rintro e w' ⟨rfl, rfl⟩))
    go_ret
    exact ⟨rfl, rfl⟩

theorem ent_facts {w : World} {x : Ent} (h : EntAt w x) : w.cell? ⟨x.p, 0, none⟩ = some (.slice (some ⟨x.q, x.off, none⟩) x.pen.l.length x.cap) ∧ w.cell? ⟨x.p, 1, none⟩ = some (.int .i64 x.pen.fl) ∧
    w.frozen? ⟨x.p, 0, none⟩ = false ∧ w.frozen? ⟨x.p, 1, none⟩ = false ∧ (∀ (j : Nat) u, (u64s x.pen.l)[j]? = some u → w.cell? ⟨x.q, x.off + j, none⟩ = some u) ∧
    (∀ j, x.off + j < x.off + x.cap → (w.cell? ⟨x.q, x.off + j, none⟩).isSome = true ∧ w.frozen? ⟨x.q, x.off + j, none⟩ = false) ∧ x.pen.l.length ≤ x.cap := by
  obtain ⟨h1, cs, h2, h3, h4, h5⟩ := h
  refine ⟨by rw [cell_of h1]; rfl, by rw [cell_of h1]; rfl, free_of h1 0, free_of h1 1, fun j u hj => ?_, fun j hj => ⟨?_, free_of h2 _⟩, h4⟩
  · rw [cell_of h2]
    simp only [u64s, List.getElem?_map, Option.map_eq_some_iff] at hj
    obtain ⟨v, hv, rfl⟩ := hj
    exact h5 j v hv
  · rw [cell_of h2, Array.getElem?_eq_getElem (by omega)]
    rfl

theorem pen_len {d : Dev} {g : Lay} {w : World} {b : Nat} (h : DevIs w b d g) {x : Ent} (hx : x ∈ g.es) : x.pen.l.length ≤ 1099511627776 :=
  Nat.le_trans (h.wf.few (x.key, x.pen) (by rw [h.opn]; exact List.mem_map.2 ⟨x, hx, rfl⟩)) (Nat.le_trans h.wf.st h.wf.lim)

theorem stored_old_fin {w w1 W3 : World} {b : Nat} {d : Dev} {g : Lay} {v : Int} {pre post : List Ent} {x : Ent} (hd0 : DevIs w b d g) (he : g.es = pre ++ x :: post) (hp : ∀ y ∈ pre, y.key ≠ x.key) (hok : d.storeOk x.key = true) (hlim : d.steps < 1099511627776)
    (hu1 : Upd [b] w w1) (hd1 : DevIs w1 b (d.stepped true) g) (q' off' cap' : Nat) (hq : q' = x.q ∨ w1.heap.size ≤ q') (hu3 : Upd [x.p, x.q] w1 W3)
    (hent : EntAt W3 { x with q := q', off := off', cap := cap', pen := ⟨x.pen.l ++ [v], x.pen.fl⟩ }) : DevTo w W3 b g (d.stored x.key v) := by
  have hw := stored_wf hd0.wf x.key v hlim
  have hs : d.stored x.key v = { d.stepped true with opn := putPen x.key v d.opn } := by
    unfold Dev.stored
    rw [if_pos hok, find_of_some hd0.opn he hp]
    rfl
  have hxm : x ∈ g.es := by rw [he]; simp
  obtain ⟨h1, h2⟩ := dev_ent (d' := d.stored x.key v) hd1 he hu3 hent rfl rfl rfl hq (by rw [hs]; rfl) (by rw [hs]) (by rw [hs]; exact put_split hd0.opn hd0.wf.keys he v _ rfl rfl) hw
  have hsz := hu1.size
  refine ⟨_, h1, fun k hk => ?_, ?_⟩
  · rcases h2 k hk with r | r
    · exact .inl r
    · exact .inr (by omega)
  · refine (hu1.mono fun k hk => ?_).trans hu3 fun k hk => ?_
    · simp at hk; subst hk; exact .inl (by simp [Lay.foot])
    · left
      simp only [List.mem_cons, List.not_mem_nil, or_false] at hk
      rcases hk with rfl | rfl
      · simp [Lay.foot, (mem_ents hxm).1]
      · simp [Lay.foot, (mem_ents hxm).2]

theorem ne_pq {w : World} {b : Nat} {d : Dev} {g : Lay} (h : DevIs w b d g) {x : Ent} (hx : x ∈ g.es) : x.p ≠ x.q := by
  obtain ⟨h1, cs, h2, _⟩ := h.ents x hx
  intro e
  rw [← e, h1] at h2
  simp at h2

set_option maxRecDepth 100000 in
theorem store_old {w : World} {b : Nat} {d : Dev} {g : Lay} (h : DevIs w b d g) (v : Int) {pre post : List Ent} {x : Ent} (he : g.es = pre ++ x :: post) (hp : ∀ y ∈ pre, y.key ≠ x.key)
    (hok : d.storeOk x.key = true) (hlim : d.steps < 1099511627776) :
    Calls Tryz.prog 152 #[.pointer (some ⟨b, 0, none⟩), .int .i64 x.key, .int .u64 v] w fun e w' => e = .returned (.bool true) ∧ DevTo w w' b g (d.stored x.key v) := by
  have hc := in_any h x.key
  have hok' := hok
  simp only [Dev.storeOk, Bool.and_eq_true, Bool.not_eq_true'] at hok'
  rw [hok'.1] at hc
  have hs := step_go h hok'.2 hlim true
  have hxm : x ∈ g.es := by rw [he]; simp
  have hlen := pen_len h hxm
  have H := Lib.hid h
  have HC := Lib.hid hc
  have HS := Lib.hid hs
  have HO := Lib.hid hok
  have HE := Lib.hid he
  have HP := Lib.hid hp
  have HX := Lib.hid hxm
  have hl := hlim
  have HL := Lib.hid hl
  obtain ⟨i0, hinf, hz0, hz1, hz2⟩ := info_parts info_u64
  have HI := Lib.hid (And.intro hinf (And.intro hz0 (And.intro hz1 hz2)))
  clear hc h hok hok' hs he hp hl hinf hz0 hz1 hz2
  go_enter Tryz.func152, Tryz.ntmps152
  go_wp2_with (first | (go_at_call 173; refine HC.out.mono ?_; rintro e w' ⟨rfl, rfl⟩) | (go_at_call 184; refine HS.out.mono ?_; rintro e w1 ⟨rfl, hu1, hd1⟩; (obtain ⟨c0, c1, c2, c3, c4, c5⟩ := dev_cells hd1); clear c0 c1 c2 c4 c5; (have hlk := look_some hd1 HE.out HP.out); (obtain ⟨p0, p1, f0, f1, po, ps, pc⟩ := ent_facts (hd1.ents x HX.out)); (have HPO := Lib.hid po); (have HPS := Lib.hid ps); (have hxlt := lt_of (hd1.ents x HX.out).1); (have hqlt : x.q < w1.heap.size := hd1.lt x.q (by simp [Lay.foot, (mem_ents HX.out).2])); (have HD1 := Lib.hid hd1); (have HU1 := Lib.hid hu1); clear hd1 hu1 po ps p1 f1) |
    (at_builtin; refine wpList_append_arg _ rfl _ _ 22 rfl 94 i0 (.int .u64 0) 1 8 Tryz.underlying22 HI.out.1 HI.out.2.1 HI.out.2.2.1 HI.out.2.2.2 rfl (by decide) x.q x.off x.pen.l.length x.cap (u64s x.pen.l) rfl (by simp [u64s]) ?c1 ⟨w1.heap.size, 0, none⟩ 1 1 [.int .u64 v] rfl rfl ?c2 ?c3 ?c4 (by unfold maxLen; omega) (by omega) ?c5 ?c6))
  case c1 => exact fun j u hj => by rw [World.cell?_alloc_lt _ _ _ hqlt]; exact HPO.out j u hj
  case c2 =>
    intro j u hj
    match j with
    | 0 => simp at hj; subst hj; simp [Addr.add]
    | j + 1 => simp at hj
  case c3 => simp [Value.oneCell']
  case c4 =>
    intro hle j hj
    have := HPS.out (x.pen.l.length + j) (by simp at hj; omega)
    rw [World.cell?_alloc_lt _ _ _ (by exact hqlt), World.frozen?_alloc_old _ _ _ (by simp; omega)]
    simpa [Nat.add_assoc] using this
  case c5 =>
    intro hle
    have hW : (w1.alloc (.cells #[.int .u64 v] 94)).setCells x.q (x.off + x.pen.l.length) [.int .u64 v] = (w1.alloc (.cells #[.int .u64 v] 94)).setCell ⟨x.q, x.off + x.pen.l.length, none⟩ (.int .u64 v) := by simp [World.setCells]
    rw [hW]
    obtain ⟨h1, cs, h2, h3, h4, h5⟩ := HD1.out.ents x HX.out
    have hpq := ne_pq HD1.out HX.out
    have k1 := set_other (a := ⟨x.q, x.off + x.pen.l.length, none⟩) (alloc_old h1 (.cells #[.int .u64 v] 94)) hpq (.int .u64 v)
    have k2 := set_same (alloc_old h2 (.cells #[.int .u64 v] 94)) (x.off + x.pen.l.length) (.int .u64 v)
    have k3 : Upd [x.p, x.q] w1 ((w1.alloc (.cells #[.int .u64 v] 94)).setCell ⟨x.q, x.off + x.pen.l.length, none⟩ (.int .u64 v)) := ((Upd.refl _ _).alloc _).setCell (by simp) _
    clear h1 h2 hW p0 f0 hlk
    generalize (w1.alloc (.cells #[.int .u64 v] 94)).setCell ⟨x.q, x.off + x.pen.l.length, none⟩ (.int .u64 v) = W2 at *
    have p0 := cell_of k1 0
    have f0 := free_of k1 0
    simp only [List.getElem?_toArray, List.getElem?_cons_zero] at p0
    have K1 := Lib.hid k1
    have K2 := Lib.hid k2
    have K3 := Lib.hid k3
    have H5 := Lib.hid h5
    clear k1 k2 k3 h5 hpq
    go_wp2
    go_ret
    refine ⟨rfl, stored_old_fin H.out HE.out HP.out HO.out hlim HU1.out HD1.out x.q x.off x.cap (.inl rfl) (K3.out.setCell (by simp) _) ⟨?_, _, set_other K2.out (fun e => ne_pq HD1.out HX.out e.symm) _, by simpa using h3, by simp; omega, ?_⟩⟩
    · simp only [List.length_append, List.length_singleton]
      exact set_b K1.out 0 _ rfl
    · intro j u hj
      simp only at hj
      rw [Array.getElem?_setIfInBounds]
      by_cases e : j < x.pen.l.length
      · rw [if_neg (show ¬ (x.off + x.pen.l.length = x.off + j) from by omega)]
        rw [List.getElem?_append_left e] at hj
        exact H5.out j u hj
      · rw [List.getElem?_append_right (by omega)] at hj
        have : j = x.pen.l.length := by
          have := (List.getElem?_eq_some_iff.1 hj).1
          simp at this
          omega
        subst this
        simp at hj
        subst hj
        rw [if_pos rfl, if_pos (by omega)]
  case c6 =>
    intro hlt v' w2 hown hg
    obtain ⟨A, c, qs, rfl, hsl, hqs⟩ := Sl.of_own hown
    obtain ⟨hle, ⟨hnil, -⟩ | ⟨q, off, cs, rfl, rfl, hb, hoc, hat⟩⟩ := hsl
    · simp at hnil
    obtain ⟨h1, -⟩ := HD1.out.ents x HX.out
    have k1 := (Upd.of_grown (F := []) hg).blk (alloc_old h1 (.cells #[.int .u64 v] 94)) (by simp)
    have k3 : Upd [x.p, x.q] w1 w2 := ((Upd.refl _ _).alloc _).trans (Upd.of_grown (F := []) hg) (by simp)
    have hq0 := hqs q (by simp)
    have p0' := cell_of k1 0
    have f0' := free_of k1 0
    simp only [List.getElem?_toArray, List.getElem?_cons_zero] at p0'
    have hqp : q ≠ x.p := by omega
    have K1 := Lib.hid k1
    have K2 := Lib.hid hb
    have K3 := Lib.hid k3
    have H5 := Lib.hid hat
    have Hown := Lib.hid hown
    clear k1 hb k3 hat hown hg h1 hqs p0 f0 hlk
    go_wp2
    go_ret
    refine ⟨rfl, stored_old_fin H.out HE.out HP.out HO.out hlim HU1.out HD1.out q off c (.inr (by omega)) (K3.out.setCell (by simp) _) ⟨?_, cs, set_other K2.out hqp _, hoc, by simpa [u64s] using hle, ?_⟩⟩
    · simp only [List.length_append, List.length_singleton]
      exact set_b K1.out 0 _ rfl
    · intro j u hj
      apply H5.out j (.int .u64 u)
      simp only at hj
      simp only [u64s, ← List.map_singleton (f := Value.int .u64), ← List.map_append, List.getElem?_map, hj, Option.map_some]

end Go.Proofs.YtgnagbbdnlmgeaaGreat.Pm
end

/- Maps' operations in a walk: laws at the operation, the world behind them a variable. No program is named. -/
section
set_option linter.unusedVariables false
set_option linter.unusedSimpArgs false
set_option linter.unusedSectionVars false
namespace Go.Proofs.YtgnagbbdnlmgeaaGreat.Wl
open Go Go.RowKit
open Go.ChangeMaps (setBlock)
open Go.Proofs.YtgnagbbdnlmgeaaGreat.Ob Go.Proofs.YtgnagbbdnlmgeaaGreat.Mp

variable {α : Type} [DecidableEq α] {P : Program} {w : World} {ops : Array Oper} {rest : List Oper} {o : Oper} {a : Act} {Q : Exit → Act → World → Prop} {t kt et : TypeId} {M clock : Nat}

/-- Block M alone has turned. -/
structure Only (M : Nat) (ob : Obj) (w W : World) : Prop where
  here : W.heap[M]? = some ob
  far : ∀ i, i ≠ M → W.heap[i]? = w.heap[i]?
  upd : ∀ F : List Nat, M ∈ F → Upd F w W
  size : W.heap.size = w.heap.size

theorem only_set {M : Nat} {o' : Obj} (h : w.heap[M]? = some o') (ob : Obj) : Only M ob w (setBlock w M ob) :=
  ⟨setBlock_same h ob, fun i hi => setBlock_other w M ob i hi, fun F hF => (Upd.refl F w).setBlock (.inl hF) ob, setBlock_size w M ob⟩

theorem Only.blk {M : Nat} {ob : Obj} {W : World} (h : Only M ob w W) {i : Nat} {o' : Obj} (hi : w.heap[i]? = some o') (hne : i ≠ M) : W.heap[i]? = some o' := (h.far i hne).trans hi

theorem wpl_put_new (K : Kk α) (es : List (En α)) (hg : o.guard = none) (m x v : Operand) (t : TypeId) (hop : o.op = Op.mapUpdate t m x v) (hm : P.underlying t = some (.map kt et)) (hk : P.underlying kt = some K.kd)
    (hmv : a.eval m = .map (some M)) (k : α) (hxv : a.eval x = K.mk k) (val : Value) (hvv : a.eval v = val) (hb : w.heap[M]? = some (obj K es clock)) (hn : ∀ x ∈ es, x.1 ≠ k)
    (hK : ∀ W, Only M (obj K (es ++ [(k, val, clock)]) (clock + 1)) w W → wpList P ops Q rest (a.put o.dst undef) W) : wpList P ops Q (o :: rest) a w := by
  refine wpList_plain hg fun K' hK' => ?_
  unfold Oper.wp
  simp [execOp, hop, hmv, hxv, hvv, run_update_new hm hk hb hn (v := val), Result.andThen]
  exact hK' _ _ (hK _ (only_set hb _))

theorem wpl_put_old (K : Kk α) (pre post : List (En α)) (old : Value) (b : Nat) (hg : o.guard = none) (m x v : Operand) (t : TypeId) (hop : o.op = Op.mapUpdate t m x v) (hm : P.underlying t = some (.map kt et)) (hk : P.underlying kt = some K.kd)
    (hmv : a.eval m = .map (some M)) (k : α) (hxv : a.eval x = K.mk k) (val : Value) (hvv : a.eval v = val) (hb : w.heap[M]? = some (obj K (pre ++ (k, old, b) :: post) clock)) (hn : ∀ x ∈ pre, x.1 ≠ k)
    (hK : ∀ W, Only M (obj K (pre ++ (k, val, b) :: post) clock) w W → wpList P ops Q rest (a.put o.dst undef) W) : wpList P ops Q (o :: rest) a w := by
  refine wpList_plain hg fun K' hK' => ?_
  unfold Oper.wp
  simp [execOp, hop, hmv, hxv, hvv, run_update_old hm hk hb hn (v' := val), Result.andThen]
  exact hK' _ _ (hK _ (only_set hb _))

theorem wpl_delete_some (K : Kk α) (pre post : List (En α)) (old : Value) (b : Nat) (hg : o.guard = none) (m x : Operand) (t kt : TypeId) (hop : o.op = Op.call { callee := Callee.builtin Builtin.delete, args := #[m, x], argTypes := #[t, kt] })
    (hm : P.underlying t = some (.map kt et)) (hk : P.underlying kt = some K.kd)
    (hmv : a.eval m = .map (some M)) (k : α) (hxv : a.eval x = K.mk k) (hb : w.heap[M]? = some (obj K (pre ++ (k, old, b) :: post) clock)) (hn : ∀ x ∈ pre, x.1 ≠ k)
    (hK : ∀ W, Only M (obj K (pre ++ post) clock) w W → wpList P ops Q rest (a.put o.dst (.tuple #[])) W) : wpList P ops Q (o :: rest) a w := by
  refine wpList_plain hg fun K' hK' => ?_
  unfold Oper.wp
  simp [execOp, hop, resolve, invoke, builtin, hmv, hxv, run_delete_some (ts := #[t, kt]) (ty := o.type) rfl hm hk hb hn, Result.andThen]
  exact hK' _ _ (hK _ (only_set hb _))

theorem wpl_clear (K : Kk α) (es : List (En α)) (hg : o.guard = none) (m : Operand) (t : TypeId) (hop : o.op = Op.call { callee := Callee.builtin Builtin.clear, args := #[m], argTypes := #[t] })
    (hm : P.underlying t = some (.map kt et)) (hmv : a.eval m = .map (some M)) (hb : w.heap[M]? = some (obj K es clock))
    (hK : ∀ W, Only M (obj K [] clock) w W → wpList P ops Q rest (a.put o.dst (.tuple #[])) W) : wpList P ops Q (o :: rest) a w := by
  refine wpList_plain hg fun K' hK' => ?_
  unfold Oper.wp
  simp [execOp, hop, resolve, invoke, builtin, hmv, run_clear (ts := #[t]) (ty := o.type) rfl hm hb, Result.andThen]
  exact hK' _ _ (hK _ (only_set hb _))

theorem wpl_range (K : Kk α) (es : List (En α)) (hg : o.guard = none) (m : Operand) (t : TypeId) (hop : o.op = Op.range t m) (hm : P.underlying t = some (.map kt et)) (hmv : a.eval m = .map (some M)) (hb : w.heap[M]? = some (obj K es clock))
    (hK : wpList P ops Q rest (a.put o.dst (.pointer (some ⟨w.heap.size, 0, none⟩))) (w.alloc (.mapIter (some M) clock #[] clock))) : wpList P ops Q (o :: rest) a w := by
  refine wpList_plain hg fun K' hK' => ?_
  unfold Oper.wp
  simp [execOp, hop, hmv, run_range hm hb, Result.andThen]
  exact hK' _ _ hK

/-- The round's head: nothing is left; or an entry has come: the iterator's block alone has turned, but for a draw. -/
theorem wpl_next (K : Kk α) (es : List (En α)) (r : Nat) (seen : Array Nat) (hg : o.guard = none) (it : Operand) (hop : o.op = Op.next it false) (hit : a.eval it = .pointer (some ⟨r, 0, none⟩))
    (hr : w.heap[r]? = some (.mapIter (some M) clock seen clock)) (hb : w.heap[M]? = some (obj K es clock)) (hold : ∀ x ∈ es, x.2.2 < clock) (hnd : (es.map (·.2.2)).Nodup)
    (hDone : (∀ x ∈ es, x.2.2 ∈ seen) → wpList P ops Q rest (a.put o.dst (.tuple #[.bool false])) w)
    (hMore : ∀ x, x ∈ es → x.2.2 ∉ seen → ∀ W, Only r (.mapIter (some M) clock (seen.push x.2.2) clock) w W → (Instr.entry (.pointer (some ⟨r, 0, none⟩))).run P W = .ok (.tuple #[K.mk x.1, x.2.1]) W →
      wpList P ops Q rest (a.put o.dst (.tuple #[.bool true, K.mk x.1, x.2.1])) W) : wpList P ops Q (o :: rest) a w := by
  refine wpList_plain hg fun K' hK' => ?_
  unfold Oper.wp
  rcases run_next (P := P) (K := K) o.type hr hb hold with ⟨h0, hrun⟩ | ⟨x, hx, hn, w1, hw1, hrun⟩
  · simp [execOp, hop, hit, hrun, Result.andThen]
    exact hK' _ _ (hDone h0)
  · simp [execOp, hop, hit, hrun, Result.andThen]
    have hne : M ≠ r := by intro e; subst e; rw [hb] at hr; simp [obj] at hr
    have ho : Only r (.mapIter (some M) clock (seen.push x.2.2) clock) w (setBlock w1 r (.mapIter (some M) clock (seen.push x.2.2) clock)) := by
      rcases hw1 with rfl | rfl
      · exact only_set hr _
      · have := only_set (w := w.drew) hr (.mapIter (some M) clock (seen.push x.2.2) clock)
        exact ⟨this.here, this.far, fun F hF => ⟨(this.upd F hF).os, (this.upd F hF).tape, (this.upd F hF).output, (this.upd F hF).size, (this.upd F hF).block⟩, this.size⟩
    exact hK' _ _ (hMore x hx hn _ ho (run_entry ho.here (ho.blk hb hne) hx hnd))

/-- A row of its own, new. -/
structure NewRow (e : TypeId) (q c : Nat) (vs : List Value) (w W : World) : Prop where
  ex : ∃ cs, W.heap[q]? = some (.cells cs e (0, 0)) ∧ c ≤ cs.size ∧ ∀ (j : Nat) v, vs[j]? = some v → cs[0 + j]? = some v
  cap : vs.length ≤ c
  new : w.heap.size ≤ q
  upd : ∀ F : List Nat, Upd F w W

/-- What is appended doesn't fit: a new row. -/
theorem wpl_append_grow (hg : o.guard = none) (s x : Operand) (t : TypeId) (hop : o.op = Op.call { callee := Callee.builtin Builtin.append, args := #[s, x], argTypes := #[t, t] })
    (e : TypeId) (z : Value) (bytes : Nat) (h1 : P.underlying t = some (.slice e)) (hinf : (P.info? e).map (fun i => (i.zero, i.size, i.bytes)) = some (some z, 1, bytes)) (h6 : z.cells.size = 1)
    (ao : Option Addr) (n cap : Nat) (olds : List Value) (hs : a.eval s = .slice ao n cap) (hnone : ao = none → n = 0 ∧ cap = 0) (hlo : olds.length = n) (holds : ∀ b, ao = some b → ∀ j u, olds[j]? = some u → w.cell? (b.add j) = some u)
    (ad : Addr) (m c : Nat) (news : List Value) (hx : a.eval x = .slice (some ad) m c) (hn : news.length = m) (hc : ∀ j u, news[j]? = some u → w.cell? (ad.add j) = some u) (h1c : ∀ u ∈ news, u.oneCell' = true)
    (hfull : cap < n + m) (b1 : n + m ≤ maxLen) (b2 : (n + m) * bytes ≤ 140737488355328) (hpos : 0 < n + m)
    (hK : ∀ q c W, NewRow e q c (olds ++ news) w W → wpList P ops Q rest (a.put o.dst (.slice (some ⟨q, 0, none⟩) (n + m) c)) W) :
    wpList P ops Q (o :: rest) a w := by
  obtain ⟨i, hi, hz, hsz, hby⟩ := info_parts hinf
  refine wpList_append_grows w hg s x t hop e i z 1 bytes h1 hi hz hsz hby h6 (by decide) ao n cap olds hs hnone (by simpa using hlo) holds ad m c news hx (by simpa using hn) hc h1c hfull b1 b2 ?_
  intro v' w' hown hgr
  obtain ⟨hl, ⟨rfl, h0⟩ | ⟨g, cap', cur, rfl, hge, hb, hnc, _, hsize, ht⟩⟩ := hown
  · omega
  · refine hK g cap' w' ⟨⟨cur, hb, by omega, fun j v hj => ?_⟩, by simp [hlo, hn]; exact hnc, hge, fun F => Upd.of_grown hgr⟩
    rw [← ht, List.getElem?_take] at hj
    split at hj
    · simpa using hj
    · cases hj

theorem made_one (z : Value) (m : Nat) : madeCells #[z] m = Array.replicate m z := by
  unfold madeCells
  apply Array.ext (by simp)
  intro i h1 h2
  simp [Nat.mod_one]

/-- 'make([]T, n)', T of one cell. -/
theorem wpl_make (hg : o.guard = none) (l : Operand) (t e : TypeId) (hop : o.op = Op.makeSlice t l l) (z : Value) (bytes : Nat) (ht : P.underlying t = some (.slice e)) (hinf : (P.info? e).map (fun i => (i.zero, i.size, i.bytes)) = some (some z, 1, bytes)) (hz : z.cells = #[z])
    (m : Nat) (k : IntKind) (c : Int) (hl : a.eval l = .int k c) (hc : c = m) (hb : bytes * m ≤ 281474976710656) (hm : m ≤ 9223372036854775807)
    (hK : wpList P ops Q rest (a.put o.dst (.slice (some ⟨w.heap.size, 0, none⟩) m m)) (w.alloc (.cells (Array.replicate m z) e (0, 0)))) : wpList P ops Q (o :: rest) a w := by
  subst hc
  obtain ⟨i, hi, hzi, hsz, hby⟩ := info_parts hinf
  have hb' : (i.bytes : Int) * (m : Int) ≤ 281474976710656 := by
    rw [hby]
    have h : ((bytes * m : Nat) : Int) ≤ 281474976710656 := by omega
    rwa [Int.natCast_mul] at h
  have hr := run_make (P := P) w t e i z ht hi hzi k k m m (by omega) (Int.le_refl _) hb' (by omega)
  rw [hz, hsz, Nat.mul_one, Int.toNat_natCast, made_one] at hr
  refine wpList_plain hg fun K' hK' => ?_
  unfold Oper.wp
  simp [execOp, hop, hl, hr, Result.andThen]
  exact hK' _ _ hK

theorem only_freeze {g : Nat} {C : Array Value} {e : TypeId} (h : w.heap[g]? = some (.cells C e (0, 0))) (k : Nat) : Only g (.cells C e (k, k + 1)) w (w.freeze ⟨g, k, none⟩ 1) := by
  have hf : ∀ i, (w.freeze ⟨g, k, none⟩ 1).heap[i]? = if g = i then (w.heap[i]?).map (fun o => match o with | .cells c elem (lo, hi) => .cells c elem (if lo == hi then (k, k + 1) else (min lo k, max hi (k + 1))) | o => o) else w.heap[i]? := by
    intro i
    unfold World.freeze
    rw [if_neg (by decide)]
    simp only [Array.getElem?_modify]
    rfl
  have hs : (w.freeze ⟨g, k, none⟩ 1).heap.size = w.heap.size := by
    unfold World.freeze
    rw [if_neg (by decide)]
    simp
  refine ⟨?_, fun i hi => ?_, fun F hF => ⟨?_, ?_, ?_, by rw [hs]; exact Nat.le_refl _, fun i _ hi => ?_⟩, hs⟩
  · rw [hf, if_pos rfl, h]
    rfl
  · rw [hf, if_neg (fun e => hi e.symm)]
  · unfold World.freeze; rw [if_neg (by decide)]
  · unfold World.freeze; rw [if_neg (by decide)]
  · unfold World.freeze; rw [if_neg (by decide)]
  · rw [hf, if_neg (fun (e' : g = i) => hi (e' ▸ hF))]

/-- '[]byte("..")' of a constant: the row is marked behind its end, and the slice goes on. -/
theorem wpl_conv (hg : o.guard = none) (x : Operand) (t e : TypeId) (hop : o.op = Op.convert t t x) (ht : P.underlying t = some (.slice e)) (he : P.underlying e = some (.int .u8)) (g n c : Nat) (C : Array Value)
    (hx : a.eval x = .slice (some ⟨g, 0, none⟩) n c) (hb : w.heap[g]? = some (.cells C e (0, 0)))
    (hK : ∀ W, Only g (.cells C e (C.size, C.size + 1)) w W → wpList P ops Q rest (a.put o.dst (.slice (some ⟨g, 0, none⟩) n c)) W) : wpList P ops Q (o :: rest) a w := by
  have hsh : w.shape? g = some (e, C.size) := by unfold World.shape?; rw [hb]
  have hrun : (convert t t (.slice (some ⟨g, 0, none⟩) n c)).run P w = .ok (.slice (some ⟨g, 0, none⟩) n c) (w.freeze ⟨g, C.size, none⟩ 1) := by
    simp [convert, run_underlying ht, run_underlying he, markStringish, hsh]
  refine wpList_plain hg fun K' hK' => ?_
  unfold Oper.wp
  simp [execOp, hop, hx, hrun, Result.andThen]
  exact hK' _ _ (hK _ (only_freeze hb _))

end Go.Proofs.YtgnagbbdnlmgeaaGreat.Wl
end

/- A device's store of a word that wasn't pending; a store, whatever it is. -/
section
set_option linter.unusedVariables false
set_option linter.unusedSimpArgs false
set_option maxHeartbeats 400000
namespace Go.Proofs.YtgnagbbdnlmgeaaGreat.Pm
open Go Go.RowKit
open Go.ChangeMaps (setBlock)
open Go.Proofs.YtgnagbbdnlmgeaaGreat.Ob Go.Proofs.YtgnagbbdnlmgeaaGreat.Mp Go.Proofs.YtgnagbbdnlmgeaaGreat.Dv Go.Proofs.YtgnagbbdnlmgeaaGreat.Wl

theorem one_cell (w : World) (v : Value) {T : TypeId} : ∀ (j : Nat) u, [v][j]? = some u → (w.alloc (.cells #[v] T)).cell? ((⟨w.heap.size, 0, none⟩ : Addr).add j) = some u := by
  intro j u hj
  match j with
  | 0 => simp at hj; subst hj; simp [Addr.add]
  | j + 1 => simp at hj

theorem stored_new_fin {w w1 W3 : World} {b : Nat} {d : Dev} {g : Lay} {k v : Int} (hd0 : DevIs w b d g) (hn : ∀ y ∈ g.es, y.key ≠ k) (hok : d.storeOk k = true) (hlim : d.steps < 1099511627776)
    (hu1 : Upd [b] w w1) (hd1 : DevIs w1 b (d.stepped true) g) (p q off cap : Nat) (hp : w1.heap.size ≤ p) (hq : w1.heap.size ≤ q) (hpq : p ≠ q) (hu3 : Upd [g.M] w1 W3)
    (hm : W3.heap[g.M]? = some (obj (kInt .i64) (g.es.map Ent.en ++ [(k, .pointer (some ⟨p, 0, none⟩), g.clock)]) (g.clock + 1)))
    (hent : EntAt W3 ⟨k, g.clock, p, q, off, cap, ⟨[v], 0⟩⟩) : DevTo w W3 b g (d.stored k v) := by
  have hw := stored_wf hd0.wf k v hlim
  have hs : d.stored k v = { d.stepped true with opn := d.opn ++ [(k, ⟨[v], 0⟩)] } := by
    unfold Dev.stored
    rw [if_pos hok, find_of_none hd0.opn hn]
    rfl
  obtain ⟨h1, h2⟩ := dev_new (d' := d.stored k v) hd1 (x := ⟨k, g.clock, p, q, off, cap, ⟨[v], 0⟩⟩) hm hu3 hent rfl hp hq hpq (by rw [hs]; rfl) (by rw [hs]) (by rw [hs]; rfl) hw
  have hsz := hu1.size
  refine ⟨_, h1, fun k hk => ?_, ?_⟩
  · rcases h2 k hk with r | r
    · exact .inl r
    · exact .inr (by omega)
  · refine (hu1.mono fun k hk => ?_).trans hu3 fun k hk => ?_
    · simp at hk; subst hk; exact .inl (by simp [Lay.foot])
    · left
      simp only [List.mem_singleton] at hk
      subst hk
      simp [Lay.foot]

set_option maxRecDepth 100000 in
theorem store_new {w : World} {b : Nat} {d : Dev} {g : Lay} (h : DevIs w b d g) (k v : Int) (hn : ∀ y ∈ g.es, y.key ≠ k)
    (hok : d.storeOk k = true) (hlim : d.steps < 1099511627776) :
    Calls Tryz.prog 152 #[.pointer (some ⟨b, 0, none⟩), .int .i64 k, .int .u64 v] w fun e w' => e = .returned (.bool true) ∧ DevTo w w' b g (d.stored k v) := by
  have hc := in_any h k
  have hok' := hok
  simp only [Dev.storeOk, Bool.and_eq_true, Bool.not_eq_true'] at hok'
  rw [hok'.1] at hc
  have hs := step_go h hok'.2 hlim true
  have H := Lib.hid h
  have HC := Lib.hid hc
  have HS := Lib.hid hs
  have HO := Lib.hid hok
  have HN := Lib.hid hn
  have hl := hlim
  have HL := Lib.hid hl
  obtain ⟨i0, hinf, hz0, hz1, hz2⟩ := info_parts info_u64
  have HI := Lib.hid (And.intro hinf (And.intro hz0 (And.intro hz1 hz2)))
  clear hc h hok hok' hs hn hl hinf hz0 hz1 hz2
  go_enter Tryz.func152, Tryz.ntmps152
  go_wp2_with (first | (go_at_call 173; refine HC.out.mono ?_; rintro e w' ⟨rfl, rfl⟩) | (go_at_call 184; refine HS.out.mono ?_; rintro e w1 ⟨rfl, hu1, hd1⟩; (obtain ⟨c0, c1, c2, c3, c4, c5⟩ := dev_cells hd1); clear c0 c1 c2 c4 c5; (have hlk := look_none hd1 HN.out); (have hmlt := lt_of hd1.map); (have hblt := lt_of hd1.blk); (have HD1 := Lib.hid hd1); (have HU1 := Lib.hid hu1); clear hd1 hu1) |
    (at_mapUpdate; refine wpl_put_new (kInt .i64) (g.es.map Ent.en) rfl _ _ _ _ rfl Tryz.underlying144 Tryz.underlying3 rfl k rfl _ rfl (alloc_old HD1.out.map _) (by simp only [List.mem_map]; rintro _ ⟨x, hx, rfl⟩; exact HN.out x hx) ?_; intro W2 hW2; (have k1 := hW2.blk (alloc_new w1 (.cells #[.slice none 0 0, .int .i64 0] 149)) (by omega)); (have k2 := hW2.here); (have k3 : Upd [g.M] w1 W2 := ((Upd.refl _ _).alloc _).trans (hW2.upd [g.M] (by simp)) (by simp)); (have plt := lt_of k1); (have mlt := lt_of k2); (have p0 := cell_of k1 0); (have f0 := free_of k1 0); simp only [List.getElem?_toArray, List.getElem?_cons_zero] at p0; (have K1 := Lib.hid k1); (have K2 := Lib.hid k2); (have K3 := Lib.hid k3); clear k1 k2 k3 hW2) |
    (at_builtin; refine wpl_append_grow rfl _ _ 22 rfl 94 (.int .u64 0) 8 Tryz.underlying22 info_u64 (by decide) none 0 0 [] rfl (by simp) rfl (by simp) ⟨_, 0, none⟩ 1 1 [.int .u64 v] rfl rfl (one_cell _ _) (by simp [Value.oneCell']) (by omega) (by unfold maxLen; omega) (by omega) (by omega) ?_; intro q c w2 hnew; (have k1 := (hnew.upd []).blk (alloc_old K1.out (.cells #[.int .u64 v] 94)) (by simp)); (have p1 := cell_of k1 0); (have f1 := free_of k1 0); simp only [List.getElem?_toArray, List.getElem?_cons_zero] at p1; (have L1 := Lib.hid k1); (have HW := Lib.hid hnew); clear k1 hnew p0 f0))
  go_ret
  obtain ⟨⟨cs, hb, hoc, hat⟩, hle, hq0, hup⟩ := HW.out
  have hsz := K3.out.size
  have k2 := (hup []).blk (alloc_old K2.out (.cells #[.int .u64 v] 94)) (by simp)
  have k3 : Upd [g.M] w1 w2 := (K3.out.alloc _).trans (hup []) (by simp)
  simp only [World.size_alloc] at hq0
  refine ⟨rfl, stored_new_fin H.out HN.out HO.out hlim HU1.out HD1.out w1.heap.size q 0 c (Nat.le_refl _) (by omega) (by omega) (k3.setCell (by simp) _) (set_other k2 (by simp; omega) _) ⟨?_, cs, set_other hb (by simp; omega) _, by simpa using hoc, by simpa using hle, ?_⟩⟩
  · exact set_b L1.out 0 _ rfl
  · intro j u hj
    apply hat j (.int .u64 u)
    match j with
    | 0 => simp at hj; subst hj; rfl
    | j + 1 => simp at hj

theorem store_any {w : World} {b : Nat} {d : Dev} {g : Lay} (h : DevIs w b d g) (k v : Int) (hlim : d.steps < 1099511627776) :
    Calls Tryz.prog 152 #[.pointer (some ⟨b, 0, none⟩), .int .i64 k, .int .u64 v] w fun e w' => e = .returned (.bool (d.storeOk k)) ∧ DevTo w w' b g (d.stored k v) := by
  cases hok : d.storeOk k with
  | false =>
    refine (store_no h k v hok).mono ?_
    rintro e w' ⟨rfl, rfl⟩
    refine ⟨rfl, g, ?_, fun k hk => .inl hk, Upd.refl _ _⟩
    unfold Dev.stored
    rw [if_neg (by simp [hok])]
    exact h
  | true =>
    rcases find_split g.es k with hn | ⟨pre, x, post, he, rfl, hp⟩
    · exact store_new h k v hn hok hlim
    · exact store_old h v he hp hok hlim

end Go.Proofs.YtgnagbbdnlmgeaaGreat.Pm
end
