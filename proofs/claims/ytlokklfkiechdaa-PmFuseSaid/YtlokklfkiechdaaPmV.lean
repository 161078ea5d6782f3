/- A device's copy. -/
import Derived.Test.YtlokklfkiechdaaPmU
import Derived.Deep.RegionHeld3
set_option linter.unusedVariables false
set_option linter.unusedSimpArgs false
set_option maxHeartbeats 1000000
namespace Go.Proofs.Ytlokklfkiechdaa.Pm
open Go Go.RowKit
open Go.ChangeMaps (setBlock)
open Go.Proofs.Ytlokklfkiechdaa.Ob Go.Proofs.Ytlokklfkiechdaa.Mp Go.Proofs.Ytlokklfkiechdaa.Dv Go.Proofs.Ytlokklfkiechdaa.Wl

/-- a device that stands as it did when the call began -/
structure Cs (w W : World) (b : Nat) (d : Dev) (g : Lay) : Prop where
  dev : DevIs W b d g
  below : Below w.heap.size w W
theorem Cs.drew {w W : World} {b : Nat} {d : Dev} {g : Lay} (h : Cs w W b d g) : Cs w W.drew b d g := ⟨h.dev.keep (fun _ _ => rfl), ⟨h.below.os, h.below.tape, h.below.output, h.below.size, h.below.block⟩⟩
theorem Cs.alloc {w W : World} {b : Nat} {d : Dev} {g : Lay} (h : Cs w W b d g) (o : Obj) : Cs w (W.alloc o) b d g := ⟨h.dev.below (bl_al (Below.refl _ _) o), bl_al h.below o⟩
theorem Cs.bel {w W W' : World} {b : Nat} {d : Dev} {g : Lay} (h : Cs w W b d g) (hb : Below W.heap.size W W') : Cs w W' b d g := ⟨h.dev.below hb, h.below.trans (hb.mono h.below.size)⟩
theorem Cs.all {w W : World} {b : Nat} {d : Dev} {g : Lay} (h : Cs w W b d g) : W.cell? ⟨b, 0, none⟩ = some (.int .i64 d.steps) ∧ W.cell? ⟨b, 1, none⟩ = some (.int .i64 d.stores) ∧ W.cell? ⟨b, 2, none⟩ = some (.slice g.A d.las.length g.c) ∧ W.cell? ⟨b, 4, none⟩ = some (.bool d.fuse.isSome) ∧ W.cell? ⟨b, 5, none⟩ = some (.int .i64 (d.fuse.getD 0)) ∧ Cs w W b d g := by
  obtain ⟨c0, c1, c2, c3, c4, c5⟩ := dev_cells h.dev
  exact ⟨c0, c1, c2, c4, c5, h⟩

theorem pair_inj {l : List (Int × Pen)} (h : (l.map (·.1)).Nodup) {x y : Int × Pen} (hx : x ∈ l) (hy : y ∈ l) (e : x.1 = y.1) : x = y := by
  induction l with
  | nil => simp at hx
  | cons z l ih =>
    simp only [List.map_cons, List.nodup_cons, List.mem_map, not_exists, not_and] at h
    rcases List.mem_cons.1 hx with h1 | h1 <;> rcases List.mem_cons.1 hy with h2 | h2
    · rw [h1, h2]
    · subst h1; exact absurd e.symm (h.1 y h2)
    · subst h2; exact absurd e (h.1 x h1)
    · exact ih h.2 h1 h2
theorem key_inj {es : List Ent} (h : (es.map ((fun x : Int × Pen => x.1) ∘ fun x : Ent => (x.key, x.pen))).Nodup) {x y : Ent} (hx : x ∈ es) (hy : y ∈ es) (e : x.key = y.key) : x = y := by
  induction es with
  | nil => simp at hx
  | cons z es ih =>
    simp only [List.map_cons, List.nodup_cons, List.mem_map, not_exists, not_and, Function.comp] at h
    rcases List.mem_cons.1 hx with h1 | h1 <;> rcases List.mem_cons.1 hy with h2 | h2
    · rw [h1, h2]
    · subst h1; exact absurd e.symm (h.1 y h2)
    · subst h2; exact absurd e (h.1 x h1)
    · exact ih h.2 h1 h2

/-- where the loop of a copy stands -/
structure CoRel (w : World) (b : Nat) (d : Dev) (g : Lay) (b' r : Nat) (wr : World) (seen : Array Nat) (g' : Lay) (l' : List (Int × Pen)) : Prop where
  src : DevIs wr b d g
  below : Below w.heap.size w wr
  it : wr.heap[r]? = some (.mapIter (some g.M) g.clock seen g.clock)
  cpy : DevIs wr b' { d with opn := l' } g'
  new : ∀ k ∈ g'.foot b', w.heap.size ≤ k
  far : r ∉ g'.foot b'
  opn : ∀ y ∈ g.es, y.born ∈ seen ↔ (y.key, y.pen) ∈ l'
  sub : ∀ x ∈ l', x ∈ d.opn

theorem sub_wf {d : Dev} (h : d.Wf) {l : List (Int × Pen)} (hs : ∀ x ∈ l, x ∈ d.opn) (hn : (l.map (·.1)).Nodup) : Dev.Wf { d with opn := l } :=
  ⟨h.len, hn, fun x hx => h.lo x (hs x hx), fun x hx => h.hi x (hs x hx), fun x hx => h.ne x (hs x hx), fun x hx => h.fl x (hs x hx), fun x hx => h.few x (hs x hx), h.st, h.lim, h.fuse⟩

theorem co_turn {w wr W W1 W3 : World} {b : Nat} {d : Dev} {g g' : Lay} {b' r : Nat} {seen : Array Nat} {l' : List (Int × Pen)} {pre post : List Ent} {y : Ent} {A1 : Option Addr} {k1 : Nat} (h : CoRel w b d g b' r wr seen g' l') (h0 : DevIs w b d g) (hr : w.heap.size ≤ r)
    (hW : Only r (.mapIter (some g.M) g.clock (seen.push y.born) g.clock) wr W) (he : g.es = pre ++ y :: post) (hns : y.born ∉ seen)
    (ho : W1.ownsRow W.heap.size 26 1 (.slice A1 y.pen.l.length k1) y.pen.l.length (u64s y.pen.l)) (hb : Below W.heap.size W W1)
    (hW3 : Only g'.M (obj (kInt .i64) (g'.es.map Ent.en ++ [(y.key, .pointer (some ⟨W1.heap.size, 0, none⟩), g'.clock)]) (g'.clock + 1)) (W1.alloc (.cells #[.slice A1 y.pen.l.length k1, .int .i64 y.pen.fl] 78)) W3) :
    (∃ g2, CoRel w b d g b' r W3 (seen.push y.born) g2 (l' ++ [(y.key, y.pen)])) ∧ W3.rangeLeft g.M r < wr.rangeLeft g.M r := by
  have hsz := h.below.size
  have hfoot : ∀ k ∈ g.foot b, k < w.heap.size := h0.lt
  have hym : y ∈ g.es := by rw [he]; simp
  have hyo : (y.key, y.pen) ∈ d.opn := by rw [h.src.opn]; exact List.mem_map.2 ⟨y, hym, rfl⟩
  have hne : y.pen.l ≠ [] := h.src.wf.ne _ hyo
  have hrsz := lt_of h.it
  have hdW : DevIs W b d g := h.src.keep (fun k hk => hW.far k (fun e => by have := hfoot k hk; omega))
  have hcW : DevIs W b' { d with opn := l' } g' := h.cpy.keep (fun k hk => hW.far k (fun e => h.far (e ▸ hk)))
  have hbW : Below w.heap.size w W := h.below.trans ((hW.upd [r] (by simp)).belowB hsz (by simp; omega))
  have hMlt : g'.M < W.heap.size := hcW.lt g'.M (by simp [Lay.foot])
  have hMnew : w.heap.size ≤ g'.M := h.new g'.M (by simp [Lay.foot])
  have hu3 : Upd [g'.M] W W3 := (Upd.of_below (F := [g'.M]) (bl_al hb _)).trans (hW3.upd [g'.M] (by simp)) (by simp)
  -- the row
  obtain ⟨_, ⟨h2, h3⟩ | ⟨q, cap, cur, hv, hqB, hqb, hqn, _, hqs, hqt⟩⟩ := ho
  · exact absurd (List.length_eq_zero_iff.1 h3) hne
  simp only [Value.slice.injEq, true_and] at hv
  obtain ⟨rfl, rfl⟩ := hv
  have hpnew := alloc_new W1 (.cells #[.slice (some ⟨q, 0, none⟩) y.pen.l.length k1, .int .i64 y.pen.fl] 78)
  have hqlt : q < W1.heap.size := lt_of hqb
  have hsz1 := hb.size
  have hpb3 : W3.heap[W1.heap.size]? = some (.cells #[.slice (some ⟨q, 0, none⟩) y.pen.l.length k1, .int .i64 y.pen.fl] 78 (0, 0)) := hW3.blk hpnew (by omega)
  have hqb3 : W3.heap[q]? = some (.cells cur 26 (0, 0)) := hW3.blk (alloc_old hqb _) (by omega)
  have hent : EntAt W3 ⟨y.key, g'.clock, W1.heap.size, q, 0, k1, y.pen⟩ := by
    refine ⟨hpb3, cur, hqb3, by show 0 + k1 ≤ cur.size; omega, hqn, fun j v hj => ?_⟩
    have hj2 : (u64s y.pen.l)[j]? = some (.int .u64 v) := by rw [u64s, List.getElem?_map, hj]; rfl
    rw [← hqt, List.getElem?_take] at hj2
    split at hj2
    · simpa using hj2
    · cases hj2
  have hnotl : (y.key, y.pen) ∉ l' := fun hm => hns ((h.opn y hym).2 hm)
  have hkeys : ((l' ++ [(y.key, y.pen)]).map (·.1)).Nodup := by
    rw [List.map_append, List.nodup_append]
    refine ⟨h.cpy.wf.keys, by simp, ?_⟩
    intro a ha c hc
    simp only [List.map_cons, List.map_nil, List.mem_singleton] at hc
    subst hc
    rintro rfl
    simp only [List.mem_map] at ha
    obtain ⟨z, hz, hzk⟩ := ha
    have := pair_inj h.src.wf.keys (h.sub z hz) hyo hzk
    subst this
    exact hnotl hz
  have hsub : ∀ x ∈ l' ++ [(y.key, y.pen)], x ∈ d.opn := by
    intro x hx
    simp only [List.mem_append, List.mem_singleton] at hx
    rcases hx with hx | rfl
    · exact h.sub x hx
    · exact hyo
  obtain ⟨n1, n2⟩ := dev_new (d' := { d with opn := l' ++ [(y.key, y.pen)] }) hcW (x := ⟨y.key, g'.clock, W1.heap.size, q, 0, k1, y.pen⟩) hW3.here hu3 hent rfl hsz1 hqB (by simp only; omega) rfl rfl rfl (sub_wf h.src.wf hsub hkeys)
  have hit3 : W3.heap[r]? = some (.mapIter (some g.M) g.clock (seen.push y.born) g.clock) := by
    rw [hu3.block r (lt_of hW.here) (by simp; intro e; exact h.far (e ▸ (by simp [Lay.foot])))]
    exact hW.here
  have hd3 : DevIs W3 b d g := hdW.upd hu3 (fun k hk => by simp; intro e; have := hfoot k hk; omega)
  refine ⟨⟨_, ⟨hd3, hbW.trans (hu3.belowB hbW.size (by simp; exact hMnew)), hit3, n1, ?_, ?_, ?_, hsub⟩⟩, ?_⟩
  · intro k hk
    rcases n2 k hk with q1 | q1
    · exact h.new k q1
    · have := hbW.size; omega
  · intro hk
    rcases n2 r hk with q1 | q1
    · exact h.far q1
    · have := lt_of hW.here; omega
  · intro z hz
    simp only [Array.mem_push, List.mem_append, List.mem_singleton]
    constructor
    · rintro (h1 | h1)
      · exact .inl ((h.opn z hz).1 h1)
      · right
        have := inj_born h.src.bnd hz hym h1
        rw [this]
    · rintro (h1 | h1)
      · exact .inl ((h.opn z hz).2 h1)
      · right
        have hk := h.src.wf.keys
        rw [h.src.opn, List.map_map] at hk
        simp only [Prod.mk.injEq] at h1
        have := key_inj hk hz hym h1.1
        rw [this]
  · rw [left_eq h.it h.src.map, left_eq hit3 hd3.map, he]
    exact left_lt (pre := pre.map Ent.en) (post := post.map Ent.en) (x := y.en) (by simp) hns [y.en] (by simp) (by simp)

theorem cs_of {w W : World} {b : Nat} {d : Dev} {g : Lay} (h : W.cell? ⟨b, 0, none⟩ = some (.int .i64 d.steps) ∧ W.cell? ⟨b, 1, none⟩ = some (.int .i64 d.stores) ∧ W.cell? ⟨b, 2, none⟩ = some (.slice g.A d.las.length g.c) ∧ W.cell? ⟨b, 4, none⟩ = some (.bool d.fuse.isSome) ∧ W.cell? ⟨b, 5, none⟩ = some (.int .i64 (d.fuse.getD 0)) ∧ Cs w W b d g) : Cs w W b d g := h.2.2.2.2.2

/-- the same device, told by what it answers -/
structure Like (d d' : Dev) : Prop where
  steps : d'.steps = d.steps
  stores : d'.stores = d.stores
  las : d'.las = d.las
  fuse : d'.fuse = d.fuse
  find : ∀ k, d'.find k = d.find k
theorem Like.words {d d' : Dev} (h : Like d d') : wordsOf d' = wordsOf d := by simp only [wordsOf, h.las, h.find]

theorem find_mem {d : Dev} (h : (d.opn.map (·.1)).Nodup) {k : Int} {p : Pen} : d.find k = some p ↔ (k, p) ∈ d.opn := by
  unfold Dev.find
  rw [Option.map_eq_some_iff]
  constructor
  · rintro ⟨⟨k', p'⟩, h1, rfl⟩
    have h2 := List.find?_some h1
    simp only [decide_eq_true_eq] at h2
    subst h2
    exact List.mem_of_find?_eq_some h1
  · intro hm
    cases hf : d.opn.find? (fun x => decide (x.1 = k)) with
    | none =>
      rw [List.find?_eq_none] at hf
      have := hf _ hm
      simp at this
    | some x =>
      have h2 := List.find?_some hf
      simp only [decide_eq_true_eq] at h2
      have := pair_inj h (List.mem_of_find?_eq_some hf) hm h2
      exact ⟨x, rfl, by rw [this]⟩

theorem co_end {w wr : World} {b : Nat} {d : Dev} {g g' : Lay} {b' r : Nat} {seen : Array Nat} {l' : List (Int × Pen)} (h : CoRel w b d g b' r wr seen g' l') (hall : ∀ y ∈ g.es, y.born ∈ seen) : Like d { d with opn := l' } := by
  refine ⟨rfl, rfl, rfl, rfl, fun k => ?_⟩
  apply Option.ext
  intro p
  rw [find_mem h.cpy.wf.keys, find_mem h.src.wf.keys]
  constructor
  · exact h.sub _
  · intro hm
    rw [h.src.opn] at hm
    simp only [List.mem_map, Prod.mk.injEq] at hm
    obtain ⟨y, hy, h1, h2⟩ := hm
    have := (h.opn y hy).1 (hall y hy)
    rw [h1, h2] at this
    exact this

theorem co_start {w W : World} {b : Nat} {d : Dev} {g : Lay} {M b' : Nat} {A1 : Option Addr} {k1 r : Nat} (h : Cs w W b d g) (hM : w.heap.size ≤ M) (hb' : w.heap.size ≤ b') (hr : w.heap.size ≤ r) (h1 : W.heap[M]? = some (.map #[] 0)) (h2 : W.heap[b']? = some (.cells #[.int .i64 d.steps, .int .i64 d.stores, .slice A1 d.las.length k1, .map (some M), .bool d.fuse.isSome, .int .i64 (d.fuse.getD 0)] 75 (0, 0)))
    (ho : W.ownsRow w.heap.size 26 1 (.slice A1 d.las.length k1) d.las.length (u64s d.las)) (hit : W.heap[r]? = some (.mapIter (some g.M) g.clock #[] g.clock)) : ∃ g', CoRel w b d g b' r W #[] g' [] := by
  obtain ⟨A, c, qs, hv, hsl, hq⟩ := Sl.of_own ho
  simp only [Value.slice.injEq, true_and] at hv
  obtain ⟨rfl, rfl⟩ := hv
  have hwf : Dev.Wf { d with opn := [] } := sub_wf h.dev.wf (by simp) (by simp)
  have hqb : ∀ q ∈ qs, ∃ cs, W.heap[q]? = some (.cells cs 26 (0, 0)) := by
    obtain ⟨_, ⟨_, rfl⟩ | ⟨q', o', cs', _, rfl, hb', _⟩⟩ := hsl
    · simp
    · intro q hq; simp at hq; subst hq; exact ⟨_, hb'⟩
  have hqn : qs = [] ∨ ∃ q, qs = [q] := by
    obtain ⟨_, ⟨_, rfl⟩ | ⟨q', o', cs', _, rfl, _⟩⟩ := hsl
    · exact .inl rfl
    · exact .inr ⟨_, rfl⟩
  have e1 : b' ≠ M := by rintro rfl; rw [h1] at h2; cases h2
  have e2 : b' ∉ qs := by
    intro hm
    obtain ⟨cs, hc⟩ := hqb _ hm
    rw [h2] at hc
    simp at hc
  have e3 : M ∉ qs := by
    intro hm
    obtain ⟨cs, hc⟩ := hqb _ hm
    rw [h1] at hc
    simp at hc
  have e4 : r ≠ b' := by rintro rfl; rw [hit] at h2; cases h2
  have e5 : r ≠ M := by rintro rfl; rw [hit] at h1; cases h1
  have e6 : r ∉ qs := by
    intro hm
    obtain ⟨cs, hc⟩ := hqb _ hm
    rw [hit] at hc
    simp at hc
  refine ⟨⟨A1, k1, qs, M, 0, []⟩, h.dev, h.below, hit, ⟨?_, hsl, ?_, by simp, rfl, ?_, by simp, by simp, hwf⟩, ?_, ?_, by simp, by simp⟩
  · rw [h2]; rfl
  · exact h1
  · simp only [Lay.foot, Lay.ents, List.flatMap_nil, List.append_nil, List.nodup_cons, List.mem_cons, not_or]
    refine ⟨⟨e1, e2⟩, e3, ?_⟩
    rcases hqn with rfl | ⟨q, rfl⟩ <;> simp
  · intro k hk
    simp only [Lay.foot, Lay.ents, List.flatMap_nil, List.append_nil, List.mem_cons] at hk
    rcases hk with rfl | rfl | hk
    · exact hb'
    · exact hM
    · exact hq k hk
  · simp only [Lay.foot, Lay.ents, List.flatMap_nil, List.append_nil, List.mem_cons, not_or]
    exact ⟨e4, e5, e6⟩

structure CoPre (w W : World) (b : Nat) (d : Dev) (g : Lay) (M b' : Nat) (A1 : Option Addr) (k1 : Nat) : Prop where
  cs : Cs w W b d g
  m : w.heap.size ≤ M
  b : w.heap.size ≤ b'
  hm : W.heap[M]? = some (.map #[] 0)
  hb : W.heap[b']? = some (.cells #[.int .i64 d.steps, .int .i64 d.stores, .slice A1 d.las.length k1, .map (some M), .bool d.fuse.isSome, .int .i64 (d.fuse.getD 0)] 75 (0, 0))
  own : W.ownsRow w.heap.size 26 1 (.slice A1 d.las.length k1) d.las.length (u64s d.las)

theorem CoPre.start {w W : World} {b : Nat} {d : Dev} {g : Lay} {M b' : Nat} {A1 : Option Addr} {k1 : Nat} (h : CoPre w W b d g M b' A1 k1) : ∃ g', CoRel w b d g b' W.heap.size (W.alloc (.mapIter (some g.M) g.clock #[] g.clock)) #[] g' [] :=
  co_start (h.cs.alloc _) h.m h.b h.cs.below.size (alloc_old h.hm _) (alloc_old h.hb _) (own_kp h.own (fun k _ hk => Below.heap_alloc _ _ _ hk)) (alloc_new _ _)

end Go.Proofs.Ytlokklfkiechdaa.Pm
