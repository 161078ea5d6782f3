/- Parts of the proof, one behind the other: PmS, PmT, Eq, Sw, Lv, Ly, In, Lp, By. -/
import Derived.Test.YtichcdoijieddaaG05
import Derived.RegionTactic
import Derived.ChangeAlike
import Derived.Test.YtichcdoijieddaaG03
import Derived.BigRegion
import Derived.Test.YtichcdoijieddaaG02
import Derived.Deep.QuietTactic
import Derived.BigQuiet

/- A device's words, as they are seen: plain, and what a round of the loop keeps. -/
section
set_option linter.unusedVariables false
set_option linter.unusedSimpArgs false
set_option maxHeartbeats 1000000
namespace Go.Proofs.Ytichcdoijieddaa.Pm
open Go Go.RowKit
open Go.ChangeMaps (setBlock)
open Go.Proofs.Ytichcdoijieddaa.Ob Go.Proofs.Ytichcdoijieddaa.Mp Go.Proofs.Ytichcdoijieddaa.Dv Go.Proofs.Ytichcdoijieddaa.Wl

def lastOf (p : Pen) : Int := p.l.getD (p.l.length - 1) 0
/-- what is seen of a device -/
def wordsOf (d : Dev) : List Int := d.las.mapIdx fun i x => match d.find (i : Int) with | some p => lastOf p | none => x
theorem wordsOf_length (d : Dev) : (wordsOf d).length = d.las.length := by simp [wordsOf]
theorem wordsOf_get (d : Dev) (i : Nat) (h : i < d.las.length) : (wordsOf d)[i]? = some (d.load (i : Int)) := by
  unfold wordsOf
  rw [List.getElem?_mapIdx, List.getElem?_eq_getElem h]
  simp only [Option.map_some, Option.some.injEq, Dev.load]
  cases d.find (i : Int) with
  | some p => rfl
  | none =>
    have : d.inn (i : Int) = true := by simp [Dev.inn, h]
    simp [Dev.lasting, this, h]
theorem wordsOf_eq (d : Dev) : wordsOf d = (List.range d.las.length).map fun i : Nat => d.load (i : Int) := by
  apply List.ext_getElem?
  intro i
  by_cases h : i < d.las.length
  · rw [wordsOf_get d i h, List.getElem?_map, List.getElem?_range h]; rfl
  · rw [List.getElem?_eq_none (by rw [wordsOf_length]; omega), List.getElem?_eq_none (by simp; omega)]

/-- .. when some entries have come -/
def wo (es : List Ent) (seen : Array Nat) (las : List Int) : List Int := las.mapIdx fun i x => match es.find? (fun y => decide (y.key = (i : Int))) with | some y => if y.born ∈ seen then lastOf y.pen else x | none => x

theorem wo_length (es : List Ent) (seen : Array Nat) (las : List Int) : (wo es seen las).length = las.length := by simp [wo]
theorem find_ents {d : Dev} {g : Lay} (ho : d.opn = g.es.map fun x => (x.key, x.pen)) (k : Int) : d.find k = (g.es.find? fun y => decide (y.key = k)).map (·.pen) := by
  unfold Dev.find
  rw [ho, List.find?_map, Option.map_map]
  rfl
theorem wo_start (es : List Ent) (las : List Int) : wo es #[] las = las := by
  unfold wo
  apply List.ext_getElem?
  intro i
  rw [List.getElem?_mapIdx]
  cases las[i]? with
  | none => rfl
  | some x =>
    simp only [Option.map_some, Option.some.injEq]
    cases es.find? (fun y => decide (y.key = (i : Int))) <;> simp
theorem wo_end {d : Dev} {g : Lay} {seen : Array Nat} (ho : d.opn = g.es.map fun x => (x.key, x.pen)) (h : ∀ y ∈ g.es, y.born ∈ seen) : wo g.es seen d.las = wordsOf d := by
  unfold wo wordsOf
  apply List.ext_getElem?
  intro i
  rw [List.getElem?_mapIdx, List.getElem?_mapIdx]
  cases d.las[i]? with
  | none => rfl
  | some x =>
    simp only [Option.map_some, Option.some.injEq]
    rw [find_ents ho]
    cases hf : g.es.find? (fun y => decide (y.key = (i : Int))) with
    | none => rfl
    | some y => simp [h y (List.mem_of_find?_eq_some hf)]
theorem inj_born {es : List Ent} (hb : (es.map (·.born)).Nodup) {x y : Ent} (hx : x ∈ es) (hy : y ∈ es) (e : x.born = y.born) : x = y := by
  induction es with
  | nil => simp at hx
  | cons z es ih =>
    simp only [List.map_cons, List.nodup_cons, List.mem_map, not_exists, not_and] at hb
    rcases List.mem_cons.1 hx with h1 | h1 <;> rcases List.mem_cons.1 hy with h2 | h2
    · rw [h1, h2]
    · subst h1; exact absurd e.symm (hb.1 y h2)
    · subst h2; exact absurd e (hb.1 x h1)
    · exact ih hb.2 h1 h2
theorem wo_step {es pre post : List Ent} {y : Ent} {seen : Array Nat} {las : List Int} {n : Nat} (he : es = pre ++ y :: post) (hk : (es.map (·.key)).Nodup) (hb : (es.map (·.born)).Nodup) (hn : y.key = (n : Int)) (hl : n < las.length) :
    wo es (seen.push y.born) las = (wo es seen las).set n (lastOf y.pen) := by
  apply List.ext_getElem?
  intro i
  rw [List.getElem?_set, wo_length]
  unfold wo
  rw [List.getElem?_mapIdx, List.getElem?_mapIdx]
  have hfy : es.find? (fun z => decide (z.key = (n : Int))) = some y := by
    rw [he, List.find?_append]
    have : pre.find? (fun z => decide (z.key = (n : Int))) = none := by
      rw [List.find?_eq_none]
      intro z hz
      rw [he, List.map_append, List.map_cons] at hk
      have := (List.nodup_append.1 hk).2.2 z.key (List.mem_map.2 ⟨z, hz, rfl⟩) y.key (by simp)
      simp only [decide_eq_true_eq]
      rw [← hn]
      exact this
    rw [this]
    simp [hn]
  by_cases hi : n = i
  · subst hi
    rw [if_pos rfl, if_pos hl, List.getElem?_eq_getElem hl]
    simp [hfy]
  · rw [if_neg hi]
    cases las[i]? with
    | none => rfl
    | some x =>
      simp only [Option.map_some, Option.some.injEq]
      cases hf : es.find? (fun z => decide (z.key = (i : Int))) with
      | none => rfl
      | some z =>
        have hzk : z.key = (i : Int) := by simpa using List.find?_some hf
        have hzm := List.mem_of_find?_eq_some hf
        have hne : z.born ≠ y.born := by
          intro e
          have hym : y ∈ es := by rw [he]; simp
          have := inj_born hb hzm hym e
          subst this
          rw [hzk] at hn
          omega
        simp [hne]

/-- a cell of one's own row -/
theorem own_set {W : World} {B T n q c : Nat} {xs : List Value} (h : W.ownsRow B T 1 (.slice (some ⟨q, 0, none⟩) n c) n xs) {i : Nat} (hi : i < n) (u : Value) : (W.setCell ⟨q, i, none⟩ u).ownsRow B T 1 (.slice (some ⟨q, 0, none⟩) n c) n (xs.set i u) := by
  obtain ⟨h1, ⟨h2, _⟩ | ⟨g, cap, cur, hv, hg, hb, hn, hm, hs, ht⟩⟩ := h
  · cases h2
  · simp only [Value.slice.injEq, Option.some.injEq, Addr.mk.injEq, and_true, true_and] at hv
    obtain ⟨rfl, rfl⟩ := hv
    refine ⟨by rw [List.length_set]; exact h1, .inr ⟨q, c, cur.setIfInBounds i u, rfl, hg, set_same hb i u, hn, hm, by simpa using hs, ?_⟩⟩
    rw [← ht]
    simp [List.take_set]

end Go.Proofs.Ytichcdoijieddaa.Pm
end

/- A device's words, as they are seen: the call. -/
section
set_option linter.unusedVariables false
set_option linter.unusedSimpArgs false
set_option maxHeartbeats 1000000
namespace Go.Proofs.Ytichcdoijieddaa.Pm
open Go Go.RowKit
open Go.ChangeMaps (setBlock)
open Go.Proofs.Ytichcdoijieddaa.Ob Go.Proofs.Ytichcdoijieddaa.Mp Go.Proofs.Ytichcdoijieddaa.Dv Go.Proofs.Ytichcdoijieddaa.Wl

/-- where the loop stands -/
structure WoRel (w : World) (b : Nat) (d : Dev) (g : Lay) (v : Value) (r : Nat) (wr : World) (seen : Array Nat) : Prop where
  dev : DevIs wr b d g
  below : Below w.heap.size w wr
  it : wr.heap[r]? = some (.mapIter (some g.M) g.clock seen g.clock)
  own : wr.ownsRow w.heap.size 35 1 v d.las.length (u64s (wo g.es seen d.las))

theorem wo_turn {w wr W : World} {b : Nat} {d : Dev} {g : Lay} {r q c n : Nat} {seen : Array Nat} {pre post : List Ent} {y : Ent} (h : WoRel w b d g (.slice (some ⟨q, 0, none⟩) d.las.length c) r wr seen) (h0 : DevIs w b d g) (hr : w.heap.size ≤ r)
    (hW : Only r (.mapIter (some g.M) g.clock (seen.push y.born) g.clock) wr W) (he : g.es = pre ++ y :: post) (hns : y.born ∉ seen) (hn : y.key = (n : Int)) :
    WoRel w b d g (.slice (some ⟨q, 0, none⟩) d.las.length c) r (W.setCell ⟨q, n, none⟩ (.int .u64 (lastOf y.pen))) (seen.push y.born) ∧ (W.setCell ⟨q, n, none⟩ (.int .u64 (lastOf y.pen))).rangeLeft g.M r < wr.rangeLeft g.M r := by
  have hsz := h.below.size
  have hq : w.heap.size ≤ q := own_lo h.own q rfl
  have hrq : r ≠ q := by
    intro e
    subst e
    obtain ⟨_, ⟨h2, _⟩ | ⟨g', cap, cur, hv, hg, hb, _⟩⟩ := h.own
    · cases h2
    · simp only [Value.slice.injEq, Option.some.injEq, Addr.mk.injEq, and_true, true_and] at hv
      obtain ⟨rfl, rfl⟩ := hv
      rw [h.it] at hb
      cases hb
  have hfoot : ∀ k ∈ g.foot b, k < w.heap.size := h0.lt
  have hdW : DevIs W b d g := h.dev.keep (fun k hk => hW.far k (fun e => by have := hfoot k hk; omega))
  have hd2 : DevIs (W.setCell ⟨q, n, none⟩ (.int .u64 (lastOf y.pen))) b d g := hdW.keep (fun k hk => Below.heap_setCell _ _ _ _ (fun e => by have := hfoot k hk; simp at e; omega))
  have hk := h.dev.wf.keys
  rw [h.dev.opn, List.map_map] at hk
  have hym : (y.key, y.pen) ∈ d.opn := by rw [h.dev.opn, he]; simp
  have hnl : n < d.las.length := by have := h.dev.wf.hi _ hym; simp only at this; omega
  have hbW : Below w.heap.size w W := h.below.trans ((hW.upd [r] (by simp)).belowB hsz (by simp; omega))
  have hown : W.ownsRow w.heap.size 35 1 (.slice (some ⟨q, 0, none⟩) d.las.length c) d.las.length (u64s (wo g.es seen d.las)) := by
    obtain ⟨h1, ⟨h2, _⟩ | ⟨g', cap, cur, hv, hg, hb, rest⟩⟩ := h.own
    · cases h2
    · simp only [Value.slice.injEq, Option.some.injEq, Addr.mk.injEq, and_true, true_and] at hv
      obtain ⟨rfl, rfl⟩ := hv
      exact ⟨h1, .inr ⟨_, _, cur, rfl, hg, (hW.far _ (fun e => hrq e.symm)).trans hb, rest⟩⟩
  have hit := set_other hW.here (a := ⟨q, n, none⟩) hrq (.int .u64 (lastOf y.pen))
  refine ⟨⟨hd2, hbW.setCell hq _, hit, ?_⟩, ?_⟩
  · rw [wo_step he hk h.dev.bnd hn hnl, u64s, List.map_set]
    exact own_set hown hnl _
  · rw [left_eq h.it h.dev.map, left_eq hit hd2.map, he]
    exact left_lt (pre := pre.map Ent.en) (post := post.map Ent.en) (x := y.en) (by simp) hns [y.en] (by simp) (by simp)

theorem wo_cell {w wr W : World} {b : Nat} {d : Dev} {g : Lay} {r c n : Nat} {A : Option Addr} {seen : Array Nat} {ob : Obj} (h : WoRel w b d g (.slice A d.las.length c) r wr seen) (hW : Only r ob wr W) (hr : w.heap.size ≤ r) (hn : n < d.las.length) :
    ∃ q, A = some ⟨q, 0, none⟩ ∧ ∃ u, W.cell? ⟨q, n, none⟩ = some u ∧ W.frozen? ⟨q, n, none⟩ = false := by
  obtain ⟨h1, ⟨h2, h3⟩ | ⟨g', cap, cur, hv, hg, hb, hc, _, hs, ht⟩⟩ := h.own
  · omega
  · simp only [Value.slice.injEq, true_and] at hv
    obtain ⟨rfl, rfl⟩ := hv
    have hne : g' ≠ r := by
      intro e
      subst e
      have := h.it
      rw [hb] at this
      cases this
    have hb' := hW.blk hb hne
    exact ⟨g', rfl, cur[n]'(by omega), by rw [cell_of hb']; exact Array.getElem?_eq_getElem _, free_of hb' n⟩

theorem WoRel.drew {w wr : World} {b : Nat} {d : Dev} {g : Lay} {v : Value} {r : Nat} {seen : Array Nat} (h : WoRel w b d g v r wr seen) : WoRel w b d g v r wr.drew seen :=
  ⟨h.dev.keep (fun _ _ => rfl), ⟨h.below.os, h.below.tape, h.below.output, h.below.size, h.below.block⟩, h.it, h.own⟩

set_option maxRecDepth 100000 in
theorem words_any {w : World} {b : Nat} {d : Dev} {g : Lay} (h : DevIs w b d g) (hA : g.A = none → g.c = 0) :
    Calls Try.prog 32 #[.pointer (some ⟨b, 0, none⟩)] w fun e w' => ∃ v, e = .returned v ∧ w'.ownsRow w.heap.size 35 1 v d.las.length (u64s (wordsOf d)) ∧ Below w.heap.size w w' := by
  obtain ⟨c0, c1, c2, c3, c4, c5⟩ := dev_cells h
  have hblt := lt_of h.blk
  have hcl := clone_any (sl_rd h.las) g.c h.wf.len (fun e => by
    refine ⟨?_, hA e⟩
    obtain ⟨_, ⟨h1, _⟩ | ⟨q, off, cs, h1, _⟩⟩ := h.las
    · simpa [u64s] using h1
    · rw [e] at h1; cases h1)
  have H := Lib.hid h
  have HCL := Lib.hid hcl
  have hlen := h.wf.len
  clear h hcl c0 c1 c4 c5 hA
  go_enter Try.func32, Try.ntmps32
  go_wp2_with (first | (go_at_call 64; refine HCL.out.mono ?_; rintro e w1 ⟨v, rfl, ho, hb⟩; (obtain ⟨A1, c1, q1, rfl, -, -⟩ := Sl.of_own ho); (have HO := Lib.hid ho); (have HB := Lib.hid hb); (obtain ⟨d0, d1, d2, d3, d4, d5⟩ := dev_cells (H.out.below hb)); clear ho hb d0 d1 d2 d4 d5) |
    (at_range; refine wpl_range (kInt .i64) (g.es.map Ent.en) rfl _ _ rfl Try.underlying105 rfl (H.out.below HB.out).map ?_))
  go_frame
  go_loopw [17] (fun c wr => ∃ seen, Hid (WoRel w b d g (.slice A1 d.las.length c1) w1.heap.size wr seen)) (fun _ wr => wr.rangeLeft g.M w1.heap.size)
  case atStart =>
    refine ⟨#[], (H.out.below HB.out).keep (fun k hk => Below.heap_alloc _ _ _ ((H.out.below HB.out).lt k hk)), bl_al HB.out _, alloc_new _ _, ?_⟩
    rw [wo_start]
    exact own_kp HO.out (fun k _ hk => Below.heap_alloc _ _ _ hk)
  case round =>
    obtain ⟨seen, HR⟩ := hrel
    go_wp2_with (first | (at_next; refine wpl_next (kInt .i64) (g.es.map Ent.en) w1.heap.size seen rfl _ rfl rfl HR.out.it HR.out.dev.map (by simp only [List.mem_map]; rintro _ ⟨x, hx, rfl⟩; exact HR.out.dev.old x hx) (by rw [List.map_map]; exact HR.out.dev.bnd) ?_ ?_))
    · intro hall
      have HA := Lib.hid hall
      clear hall
      go_wp2_with fail
      go_ret
      have hall' : ∀ x ∈ g.es, x.born ∈ seen := HA.out
      have := HR.out.own
      rw [wo_end HR.out.dev.opn hall'] at this
      exact ⟨_, rfl, this, HR.out.below⟩
    · intro y hy hns W hW hen
      obtain ⟨pre, post, he⟩ := List.append_of_mem hy
      have hyo : (y.key, y.pen) ∈ d.opn := by rw [HR.out.dev.opn]; exact List.mem_map.2 ⟨y, hy, rfl⟩
      have hk0 := HR.out.dev.wf.lo _ hyo
      have hk1 := HR.out.dev.wf.hi _ hyo
      have hne : y.pen.l ≠ [] := HR.out.dev.wf.ne _ hyo
      simp only at hk0 hk1
      obtain ⟨n, hn⟩ : ∃ n : Nat, y.key = n := ⟨y.key.toNat, by omega⟩
      have hnl : n < d.las.length := by omega
      have hWd : DevIs W b d g := HR.out.dev.keep (fun k hk => hW.far k (fun e => by have := H.out.lt k hk; have := HB.out.size; omega))
      obtain ⟨p0, p1, q0, q1', po, ps, pc⟩ := ent_facts (hWd.ents y hy)
      have hpl := pen_len hWd hy
      have hpos : 0 < y.pen.l.length := List.length_pos_iff.2 hne
      have hv := po (y.pen.l.length - 1) (.int .u64 (lastOf y.pen)) (by rw [u64s, List.getElem?_map, List.getElem?_eq_getElem (by omega)]; simp [lastOf, List.getD_eq_getElem?_getD, List.getElem?_eq_getElem (show y.pen.l.length - 1 < y.pen.l.length by omega)])
      obtain ⟨q, rfl, u, hc, hf⟩ := wo_cell HR.out hW HB.out.size hnl
      have hen' : (Instr.entry (.pointer (some ⟨w1.heap.size, 0, none⟩))).run Try.prog W = .ok (.tuple #[.int .i64 n, .pointer (some ⟨y.p, 0, none⟩)]) W := by rw [← hn]; exact hen
      have HT := Lib.hid (wo_turn HR.out H.out HB.out.size hW he hns hn)
      clear hy hns hW hen he hyo hk0 hk1 hne hn hWd p1 q0 q1' po ps pc
      generalize lastOf y.pen = z at *
      generalize y.pen.l.length = m at *
      go_wp2_with fail
      go_region
      go_wp2
      go_roundw
      case rel => exact ⟨_, HT.out.1.drew⟩
      case measure => exact HT.out.2

end Go.Proofs.Ytichcdoijieddaa.Pm
end

/- Words compared. -/
section
set_option linter.unusedVariables false
set_option linter.unusedSimpArgs false
set_option maxHeartbeats 1000000
namespace Go.Proofs.Ytichcdoijieddaa.Pm
open Go Go.RowKit
open Go.ChangeMaps (setBlock)
open Go.Proofs.Ytichcdoijieddaa.Ob Go.Proofs.Ytichcdoijieddaa.Mp Go.Proofs.Ytichcdoijieddaa.Dv Go.Proofs.Ytichcdoijieddaa.Wl

theorem Rd.drewN {w : World} {A : Option Addr} {l : List Int} (h : Rd w A l) (n : Nat) : Rd (w.drewN n) A l := h
theorem bl_dn {w w1 : World} (h : Below w.heap.size w w1) (n : Nat) : Below w.heap.size w (w1.drewN n) := ⟨h.os, h.tape, h.output, h.size, h.block⟩
theorem drewN_two (w : World) (a b : Nat) : (w.drewN a).drewN b = w.drewN (a + b) := by simp [World.drewN, Nat.add_assoc]

theorem eq_step {l m : List Int} {i : Nat} {x y : Int} (hx : l[i]? = some x) (hy : m[i]? = some y) (h : l.take i = m.take i) (e : x = y) : l.take (i + 1) = m.take (i + 1) := by
  obtain ⟨h1, h2⟩ := List.getElem?_eq_some_iff.1 hx
  obtain ⟨h3, h4⟩ := List.getElem?_eq_some_iff.1 hy
  rw [List.take_succ_eq_append_getElem h1, List.take_succ_eq_append_getElem h3, h2, h4, h, e]

set_option maxRecDepth 100000 in
theorem equal_any {w : World} {A B : Option Addr} {l m : List Int} (h : Rd w A l) (k : Rd w B m) (c1 c2 : Nat) (hl : l.length ≤ 9223372036854775807) (hm : m.length ≤ 9223372036854775807) :
    Calls Try.prog 100 #[.slice A l.length c1, .slice B m.length c2] w fun e w' => e = .returned (.bool (decide (l = m))) ∧ ∃ n, w' = w.drewN n := by
  have H := Lib.hid h
  have K := Lib.hid k
  clear h k
  by_cases he : l.length = m.length
  · obtain ⟨n, hn⟩ : ∃ n, n = l.length := ⟨_, rfl⟩
    rw [← he, ← hn]
    rw [← hn] at hl
    have HN : Hid (n = l.length ∧ n = m.length) := ⟨hn, by rw [hn, he]⟩
    clear hn he hm
    go_enter Try.func100, Try.ntmps100
    go_wp2_with fail
    go_loopw [13] (fun c13 wr => ∃ i : Nat, i ≤ n ∧ c13 = .int .i64 i ∧ ∃ q, Hid (wr = w.drewN q ∧ l.take i = m.take i)) (fun c13 _ => n - (intOf c13).toNat)
    case atStart => exact ⟨0, Nat.zero_le _, rfl, 0, rfl, rfl⟩
    case round =>
      obtain ⟨i, hi, rfl, q, HR⟩ := hrel
      by_cases hlt : i < n
      · obtain ⟨x, hx⟩ : ∃ x, l[i]? = some x := ⟨_, List.getElem?_eq_getElem (by rw [← HN.out.1]; exact hlt)⟩
        obtain ⟨y, hy⟩ : ∃ y, m[i]? = some y := ⟨_, List.getElem?_eq_getElem (by rw [← HN.out.2]; exact hlt)⟩
        have hl2 : Rd wr A l := by rw [HR.out.1]; exact H.out.drewN q
        have hm2 : Rd wr B m := by rw [HR.out.1]; exact K.out.drewN q
        obtain ⟨a, rfl, -, ha⟩ := hl2 i x hx
        obtain ⟨b, rfl, -, hb⟩ := hm2 i y hy
        have HX := Lib.hid (And.intro hx hy)
        clear hx hy hl2 hm2
        by_cases hxy : x = y
        · have e1 : (x != y) = false := by simp [hxy]
          have EX := Lib.hid hxy
          clear hxy
          go_wp2
          go_quiet (fail)
          go_wp2
          go_roundw
          case rel => exact ⟨i + 1, by omega, by go_num, q + nq, by show _ ∧ _; rw [HR.out.1]; exact ⟨drewN_two _ _ _, eq_step HX.out.1 HX.out.2 HR.out.2 EX.out⟩⟩
          case measure => simp [intOf]; omega
        · have e1 : (x != y) = true := bne_iff_ne.2 hxy
          have EX := Lib.hid hxy
          clear hxy
          go_wp2
          go_quiet (fail)
          go_wp2
          go_ret
          have hd : decide (l = m) = false := by
            apply decide_eq_false
            rintro rfl
            have := HX.out.1.symm.trans HX.out.2
            simp at this
            exact EX.out this
          rw [hd]
          exact ⟨rfl, _, by rw [HR.out.1]; exact drewN_two _ _ _⟩
      · obtain rfl : i = n := by omega
        go_wp2
        go_ret
        have hd : decide (l = m) = true := by
          apply decide_eq_true
          have h1 := HR.out.2
          rw [List.take_of_length_le (by rw [← HN.out.1]; omega), List.take_of_length_le (by rw [← HN.out.2]; omega)] at h1
          exact h1
        rw [hd]
        exact ⟨rfl, q, HR.out.1⟩
  · have hd : decide (l = m) = false := by
      apply decide_eq_false
      intro e
      exact he (by rw [e])
    rw [hd]
    have e1 : ((l.length : Int) != (m.length : Int)) = true := by rw [bne_iff_ne]; omega
    clear hd he
    generalize l.length = x at *
    generalize m.length = y at *
    go_enter Try.func100, Try.ntmps100
    go_wp2
    go_ret
    exact ⟨rfl, 0, rfl⟩

end Go.Proofs.Ytichcdoijieddaa.Pm
end

/- super.Decode. -/
section
set_option linter.unusedVariables false
set_option linter.unusedSimpArgs false
set_option maxHeartbeats 2000000
set_option maxRecDepth 100000
namespace Go.Proofs.Ytichcdoijieddaa.Su
open Go Go.RowKit
open Go.Proofs.Ytichcdoijieddaa.Ob Go.Proofs.Ytichcdoijieddaa.Ba Go.Proofs.Ytichcdoijieddaa.Ko Go.Proofs.Ytichcdoijieddaa.Ge Go.Proofs.Ytichcdoijieddaa.Cr Go.Proofs.Ytichcdoijieddaa.Cc Go.Proofs.Ytichcdoijieddaa.Oc Go.Proofs.Ytichcdoijieddaa.Pk

def pa (x : Nat) : Nat := x % 65536
def pb (x : Nat) : Nat := x / 65536 % 65536
def pc (x : Nat) : Nat := x / 4294967296 % 65536
def Good (l : List Nat) : Prop := l.length = 8 ∧ l.getD 1 0 < 281474976710656 ∧ geoOk (pa (l.getD 1 0)) (pb (l.getD 1 0)) (pc (l.getD 1 0)) = true ∧ enc (pa (l.getD 1 0)) (pb (l.getD 1 0)) (pc (l.getD 1 0)) = l

theorem rk_rd {w : World} {A : Option Addr} {l : List Int} (h : Rk .u64 w A l) : Go.Proofs.Ytichcdoijieddaa.Pm.Rd w A l := h

theorem spl3 (x : Nat) : spl x [16, 16, 16] = [pa x, pb x, pc x] := by
  simp only [spl, pa, pb, pc]
  simp
  omega

theorem dec_len {w : World} {A : Option Addr} {l : List Nat} (h : Rk .u64 w A (ints l)) (c : Nat) (hl : l.length ≠ 8) (hn : l.length ≤ 9223372036854775807) :
    Calls Try.prog 86 #[.slice A l.length c] w fun e w' => e = .returned (.tuple #[.agg #[.int .i64 0, .int .i64 0, .int .i64 0], .int .i64 2]) ∧ Below w.heap.size w w' := by
  have hu := Try.underlying65
  have e1 : ((l.length : Int) != 8) = true := by rw [bne_iff_ne]; omega
  clear h hl
  generalize l.length = n at *
  go_enter Try.func86, Try.ntmps86
  go_wp2
  exact bodyPost_ret (res_ct rfl _ _ w.heap.size 65 #[.int .i64 0, .int .i64 0, .int .i64 0] (0, 0) _ rfl (alloc_new w _) hu rfl (by kernel_rfl)) rfl ⟨rfl, bl_alloc (Below.refl _ _) _⟩

theorem dec_split {w : World} {A : Option Addr} {l : List Nat} (h : Rk .u64 w A (ints l)) (c : Nat) (hl : l.length = 8) (hlt : ∀ x ∈ l, x < 18446744073709551616) (hx : ¬ l.getD 1 0 < 281474976710656) :
    Calls Try.prog 86 #[.slice A l.length c] w fun e w' => e = .returned (.tuple #[.agg #[.int .i64 0, .int .i64 0, .int .i64 0], .int .i64 2]) ∧ Below w.heap.size w w' := by
  have hu := Try.underlying65
  obtain ⟨x, hx1⟩ := some_at (l := l) (i := 1) (by omega)
  have hxe : l.getD 1 0 = x := by rw [List.getD_eq_getElem?_getD, hx1]; rfl
  rw [hxe] at hx
  obtain ⟨a, rfl, ha0, ha⟩ := h 1 x (ints_get hx1)
  have ha : w.cell? ⟨a.block, a.off + 1, none⟩ = some (.int .u64 x) := ha
  have hx64 := hlt x (List.mem_of_getElem? hx1)
  rw [hl]
  clear h hl hlt hx1 hxe
  have hrk : Rk .i64 ((w.alloc (.cells #[.int .i64 0, .int .i64 0, .int .i64 0] 65)).alloc (.cells #[.int .i64 16, .int .i64 16, .int .i64 16] 3)) (some ⟨w.heap.size + 1, 0, none⟩) (ints [16, 16, 16]) := by
    have := alloc_new (w.alloc (.cells #[.int .i64 0, .int .i64 0, .int .i64 0] 65)) (.cells #[.int .i64 16, .int .i64 16, .int .i64 16] 3)
    rw [World.size_alloc] at this
    refine blk_rk this fun i x hx => ?_
    match i with
    | 0 => simpa [ints] using hx
    | 1 => simpa [ints] using hx
    | 2 => simpa [ints] using hx
    | i + 3 => simp [ints] at hx
  have hsp := split_ hrk x hx64 3 (by simp) (by decide) (by decide)
  have hne : ¬ x / 2 ^ [16, 16, 16].sum = 0 := by
    simp
    omega
  rw [decide_eq_false hne] at hsp
  have HS := Lib.hid hsp
  clear hrk hsp hne hx
  go_enter Try.func86, Try.ntmps86
  go_wp2_with (go_at_call 65; refine HS.out.mono ?_; rintro e w1 ⟨v, rfl, -, hb⟩; (obtain ⟨hc, hf⟩ := bcell hb); (have hz := hb.size); simp only [World.size_alloc] at hz; (have hz1 : w.heap.size < w1.heap.size := by omega); (have HB := Lib.hid hb); clear hb hz)
  refine bodyPost_ret (res_ct rfl _ _ w.heap.size 65 #[.int .i64 0, .int .i64 0, .int .i64 0] (0, 0) _ rfl ?_ hu rfl (by kernel_rfl)) rfl ⟨rfl, ?_⟩
  · exact put3 (blk_bl (alloc_old (alloc_new w _) _) HB.out) _ _ _
  · exact bl_put3 (bl_then (bl_alloc (bl_alloc (Below.refl _ _) _) _) HB.out) (Nat.le_refl _) _ _ _

def DecIs (l : List Nat) (a b d : Nat) (e : Ending) : Prop := if geoOk a b d = true ∧ enc a b d = l then e = .returned (.tuple #[.agg #[.int .i64 a, .int .i64 b, .int .i64 d], .int .i64 0]) else e = .returned (.tuple #[.agg #[.int .i64 0, .int .i64 0, .int .i64 0], .int .i64 2])
theorem dec_yes {l : List Nat} {a b d : Nat} (h : geoOk a b d = true ∧ enc a b d = l) : DecIs l a b d (.returned (.tuple #[.agg #[.int .i64 a, .int .i64 b, .int .i64 d], .int .i64 0])) := by unfold DecIs; rw [if_pos h]
theorem dec_no {l : List Nat} {a b d : Nat} (h : ¬ (geoOk a b d = true ∧ enc a b d = l)) : DecIs l a b d (.returned (.tuple #[.agg #[.int .i64 0, .int .i64 0, .int .i64 0], .int .i64 2])) := by unfold DecIs; rw [if_neg h]

theorem dec_rest {w : World} {A : Option Addr} {l : List Nat} (h : Rk .u64 w A (ints l)) (c : Nat) (hl : l.length = 8) (hlt : ∀ x ∈ l, x < 18446744073709551616) (x : Nat) (hxx : l.getD 1 0 = x) (hx : x < 281474976710656) (a b d : Nat) (h1 : a = pa x) (h2 : b = pb x) (h3 : d = pc x) :
    Calls Try.prog 86 #[.slice A l.length c] w fun e w' => DecIs l a b d e ∧ Below w.heap.size w w' := by
  have hu := Try.underlying65
  obtain ⟨x', hx1⟩ := some_at (l := l) (i := 1) (by omega)
  have hxe : x' = x := by rw [← hxx, List.getD_eq_getElem?_getD, hx1]; rfl
  subst hxe
  have H := Lib.hid h
  obtain ⟨ad, rfl, ha0, ha⟩ := h 1 x' (ints_get hx1)
  have ha : w.cell? ⟨ad.block, ad.off + 1, none⟩ = some (.int .u64 x') := ha
  have HL := Lib.hid hl
  rw [hl]
  have ha1 : a < 65536 := by rw [h1]; exact Nat.mod_lt _ (by decide)
  have hb1 : b < 65536 := by rw [h2]; exact Nat.mod_lt _ (by decide)
  have hd1 : d < 65536 := by rw [h3]; exact Nat.mod_lt _ (by decide)
  have hrk : Rk .i64 ((w.alloc (.cells #[.int .i64 0, .int .i64 0, .int .i64 0] 65)).alloc (.cells #[.int .i64 16, .int .i64 16, .int .i64 16] 3)) (some ⟨w.heap.size + 1, 0, none⟩) (ints [16, 16, 16]) := by
    have := alloc_new (w.alloc (.cells #[.int .i64 0, .int .i64 0, .int .i64 0] 65)) (.cells #[.int .i64 16, .int .i64 16, .int .i64 16] 3)
    rw [World.size_alloc] at this
    refine blk_rk this fun i x hx => ?_
    match i with
    | 0 => simpa [ints] using hx
    | 1 => simpa [ints] using hx
    | 2 => simpa [ints] using hx
    | i + 3 => simp [ints] at hx
  have hsp := split_ hrk x' (by omega) 3 (by simp) (by decide) (by decide)
  have hne : x' / 2 ^ [16, 16, 16].sum = 0 := by
    simp
    omega
  rw [decide_eq_true hne, spl3, ← h1, ← h2, ← h3, show ([16, 16, 16] : List Nat).length = 3 from rfl] at hsp
  have HS := Lib.hid (And.intro hsp hne)
  clear hrk hsp hne hx h hl hx1 hxx h1 h2 h3 hlt
  go_enter Try.func86, Try.ntmps86
  go_wp2_with fail
  refine HS.out.1.mono ?_
  rintro e w1 ⟨v, rfl, hown, hb⟩
  have hown := hown HS.out.2
  obtain ⟨A1, c1, rfl⟩ := own_slice hown
  obtain ⟨g1, rfl, hc0, hf0⟩ := own_at (i := 0) (x := (a : Nat)) hown rfl
  obtain ⟨g2, e2, hc1, hf1⟩ := own_at (i := 1) (x := (b : Nat)) hown rfl
  cases e2
  obtain ⟨g3, e3, hc2, hf2⟩ := own_at (i := 2) (x := (d : Nat)) hown rfl
  cases e3
  have hz := hb.size
  simp only [World.size_alloc] at hz
  have hz1 : w.heap.size < w1.heap.size := by omega
  have HB := Lib.hid hb
  have hq1 : Hid (w1.heap[w.heap.size]? = some (.cells #[.int .i64 0, .int .i64 0, .int .i64 0] 65 (0, 0))) := blk_bl (alloc_old (alloc_new w _) _) hb
  have HQ1 : Hid (Below w.heap.size w w1) := bl_then (bl_alloc (bl_alloc (Below.refl _ _) _) _) hb
  have hg : g1 < w1.heap.size := by
    have := hc0
    unfold World.cell? at this
    cases hq : w1.heap[g1]? with
    | none => simp [hq] at this
    | some o => exact lt_of hq
  clear hown hb hf0 hf1 hf2 ha hz
  go_wp2_with fail
  go_region
  by_cases hgeo : geoOk a b d = true
  · have HG := Lib.hid hgeo
    go_wp2_with fail
    refine (encode_yes a b d hgeo ha1 hb1 hd1 _).mono ?_
    rintro e w2 ⟨v2, rfl, hown2, hb2⟩
    have hb2' : Below w1.heap.size w1 w2 := bl_then (bl_drew (bl_alloc (Below.refl _ _) _)) hb2
    obtain ⟨A2, c2, rfl⟩ := own_slice hown2
    have hrk2 := (own_rk hown2).1
    have hlr : Rk .u64 w2 (some ad) (ints l) := H.out.below (bl_then HQ1.out hb2')
    have heq := Go.Proofs.Ytichcdoijieddaa.Pm.equal_any (rk_rd hrk2) (rk_rd hlr) c2 c (by rw [ints_length, show (enc a b d).length = 8 from rfl]; decide) (by rw [ints_length, HL.out]; decide)
    rw [ints_length, ints_length, show (enc a b d).length = 8 from rfl, HL.out] at heq
    have HE := Lib.hid heq
    have hgb := blk_bl (W := (w1.alloc (.cells #[.int .i64 a, .int .i64 b, .int .i64 d] 65)).drew) (alloc_new w1 (.cells #[.int .i64 a, .int .i64 b, .int .i64 d] 65)) hb2
    have m0 := cell_of hgb 0
    have m1 := cell_of hgb 1
    have m2 := cell_of hgb 2
    have hq2 := Lib.hid (blk_bl hq1.out hb2')
    have l0 := cell_of hq2.out 0
    have l1 := cell_of hq2.out 1
    have l2 := cell_of hq2.out 2
    have f0 := free_of hq2.out 0
    have f1 := free_of hq2.out 1
    have f2 := free_of hq2.out 2
    have HQ2 := Lib.hid (bl_then HQ1.out hb2')
    clear hgeo hown2 hb2 hb2' hrk2 hlr heq
    go_wp2_with fail
    refine HE.out.mono ?_
    rintro e w3 ⟨rfl, n3, rfl⟩
    by_cases hle : ints (enc a b d) = ints l
    · have hle' : enc a b d = l := ints_inj.1 hle
      rw [decide_eq_true hle]
      have HLE := Lib.hid (And.intro HG.out hle')
      clear hle hle'
      go_wp2_with fail
      exact bodyPost_ret (res_ct (u := 3) rfl _ _ w.heap.size 65 #[.int .i64 a, .int .i64 b, .int .i64 d] (0, 0) _ rfl (put3 hq2.out _ _ _) hu rfl (by kernel_rfl)) rfl ⟨dec_yes HLE.out, bl_put3 (bl_drewN HQ2.out _) (Nat.le_refl _) _ _ _⟩
    · rw [decide_eq_false hle]
      have HLE : Hid (¬ (geoOk a b d = true ∧ enc a b d = l)) := fun h => hle (by rw [h.2])
      clear hle
      go_wp2_with fail
      exact bodyPost_ret (res_ct (u := 3) rfl _ _ w.heap.size 65 #[.int .i64 0, .int .i64 0, .int .i64 0] (0, 0) _ rfl (put3 hq2.out _ _ _) hu rfl (by kernel_rfl)) rfl ⟨dec_no HLE.out, bl_put3 (bl_drewN HQ2.out _) (Nat.le_refl _) _ _ _⟩
  · have HG : Hid (¬ (geoOk a b d = true ∧ enc a b d = l)) := fun h => hgeo h.1
    have hgeo' : geoOk a b d = false := by simpa using hgeo
    clear hgeo
    go_wp2_with fail
    refine (encode_no a b d hgeo' _).mono ?_
    rintro e w2 ⟨rfl, hb2⟩
    have hb2' : Below w1.heap.size w1 w2 := bl_then (bl_drew (bl_alloc (Below.refl _ _) _)) hb2
    have hq2 := Lib.hid (blk_bl hq1.out hb2')
    have l0 := cell_of hq2.out 0
    have l1 := cell_of hq2.out 1
    have l2 := cell_of hq2.out 2
    have f0 := free_of hq2.out 0
    have f1 := free_of hq2.out 1
    have f2 := free_of hq2.out 2
    have HQ2 := Lib.hid (bl_then HQ1.out hb2')
    clear hb2 hb2' hgeo'
    go_wp2_with fail
    exact bodyPost_ret (res_ct (u := 3) rfl _ _ w.heap.size 65 #[.int .i64 0, .int .i64 0, .int .i64 0] (0, 0) _ rfl (put3 hq2.out _ _ _) hu rfl (by kernel_rfl)) rfl ⟨dec_no HG.out, bl_put3 HQ2.out (Nat.le_refl _) _ _ _⟩

end Go.Proofs.Ytichcdoijieddaa.Su
end

/- The chapters' examples: cantlelaw02.Lives. -/
section
set_option linter.unusedVariables false
set_option linter.unusedSimpArgs false
set_option maxHeartbeats 2000000
set_option maxRecDepth 100000
namespace Go.Proofs.Ytichcdoijieddaa.Li
open Go Go.RowKit
open Go.Proofs.Ytichcdoijieddaa.Ob Go.Proofs.Ytichcdoijieddaa.Ba Go.Proofs.Ytichcdoijieddaa.Oc Go.Proofs.Ytichcdoijieddaa.Pk Go.Proofs.Ytichcdoijieddaa.Cr Go.Proofs.Ytichcdoijieddaa.C6 Go.Proofs.Ytichcdoijieddaa.Cc Go.Proofs.Ytichcdoijieddaa.Su

def nine : List Nat := [49, 50, 51, 52, 53, 54, 55, 56, 57]

theorem lives02 (w : World) : Calls Try.prog 47 #[] w fun e w' => e = .returned (.bool true) ∧ Below w.heap.size w w' := by
  have kc := Lib.run_convert_bytes_const (P := Try.prog) w 46 5 #[.int .u8 49, .int .u8 50, .int .u8 51, .int .u8 52, .int .u8 53, .int .u8 54, .int .u8 55, .int .u8 56, .int .u8 57] 9 9 Try.underlying46 Try.underlying5
  go_enter Try.func47, Try.ntmps47
  go_wp2_with fail
  have hrk : Rk .u8 (w.alloc (.cells #[.int .u8 49, .int .u8 50, .int .u8 51, .int .u8 52, .int .u8 53, .int .u8 54, .int .u8 55, .int .u8 56, .int .u8 57] 5 (9, 10))) (some ⟨w.heap.size, 0, none⟩) (ints nine) := by
    refine blk_rk (alloc_new w (.cells #[.int .u8 49, .int .u8 50, .int .u8 51, .int .u8 52, .int .u8 53, .int .u8 54, .int .u8 55, .int .u8 56, .int .u8 57] 5 (9, 10))) fun i x hx => ?_
    match i with
    | 0 | 1 | 2 | 3 | 4 | 5 | 6 | 7 | 8 => simpa [ints, nine] using hx
    | i + 9 => simp [ints, nine] at hx
  have hps : ∀ W, Below (w.alloc (.cells #[.int .u8 49, .int .u8 50, .int .u8 51, .int .u8 52, .int .u8 53, .int .u8 54, .int .u8 55, .int .u8 56, .int .u8 57] 5 (9, 10))).heap.size (w.alloc (.cells #[.int .u8 49, .int .u8 50, .int .u8 51, .int .u8 52, .int .u8 53, .int .u8 54, .int .u8 55, .int .u8 56, .int .u8 57] 5 (9, 10))) W → PsAt (W.alloc (.cells #[.slice (some ⟨w.heap.size, 0, none⟩) 9 9] 46)) (some ⟨W.heap.size, 0, none⟩) [⟨some ⟨w.heap.size, 0, none⟩, 9, nine⟩] := by
    intro W hb i p hp
    match i with
    | 0 =>
      simp at hp
      subst hp
      exact ⟨⟨hrk.below (bl_alloc hb _), (by decide : ∀ x ∈ nine, x < 256), by simp [nine]⟩, _, rfl, one_at _ _ _ 0 _ rfl⟩
    | i + 1 => simp at hp
  have h32 := sum32_ (hps _ (Below.refl _ _)) 1 (by simp)
  rw [show (4294967295 - (sumB 4294967295 (allOf [(⟨some ⟨w.heap.size, 0, none⟩, 9, nine⟩ : Part)]) : Nat) : Int) = 3421780262 from by
    rw [show allOf [(⟨some ⟨w.heap.size, 0, none⟩, 9, nine⟩ : Part)] = nine from by simp [allOf]]
    decide] at h32
  have h16 := sum16_ (hps _ (bl_alloc (Below.refl _ _) (.cells #[.slice (some ⟨w.heap.size, 0, none⟩) 9 9] 46))) 1 (by simp)
  rw [show (sum6 65535 (allOf [(⟨some ⟨w.heap.size, 0, none⟩, 9, nine⟩ : Part)])) = 10673 from by
    rw [show allOf [(⟨some ⟨w.heap.size, 0, none⟩, 9, nine⟩ : Part)] = nine from by simp [allOf]]
    decide] at h16
  simp only [World.size_alloc] at h32 h16
  have H16 := Lib.hid h16
  refine (show Calls _ _ #[.slice (some ⟨w.heap.size + 1, 0, none⟩) 1 1] _ _ from h32).mono ?_
  rintro e w1 ⟨rfl, rfl⟩
  clear h32 h16 hps hrk kc
  go_wp2_with fail
  refine (show Calls _ _ #[.slice (some ⟨w.heap.size + 1 + 1, 0, none⟩) 1 1] _ _ from H16.out).mono ?_
  rintro e w2 ⟨rfl, rfl⟩
  go_wp2_with fail
  go_ret
  exact ⟨rfl, bl_alloc (bl_alloc (bl_alloc (Below.refl _ _) _) _) _⟩

theorem lives03 (w : World) : Calls Try.prog 48 #[] w fun e w' => e = .returned (.bool true) ∧ Below w.heap.size w w' := by
  have hfs : FsAt (w.alloc (.cells #[.int .i64 4, .int .u64 5, .int .i64 8, .int .u64 7] 111)) (some ⟨w.heap.size, 0, none⟩) [(4, 5), (8, 7)] := by
    refine fields_at (T := 111) (fr := (0, 0)) (alloc_new _ _) ?_
    intro p hp
    simp only [List.mem_cons, List.not_mem_nil, or_false] at hp
    rcases hp with rfl | rfl
    · exact ⟨by decide, by decide, by decide⟩
    · exact ⟨by decide, by decide, by decide⟩
  have hpk := pack_ hfs 2 (by decide) (by decide)
  rw [show pv [(4, 5), (8, 7)] = 117 from by decide] at hpk
  have HPK := Lib.hid hpk
  clear hfs hpk
  go_enter Try.func48, Try.ntmps48
  go_wp2_with fail
  refine (show Calls _ _ #[.slice (some ⟨w.heap.size, 0, none⟩) 2 2] _ _ from HPK.out).mono ?_
  rintro e w1 ⟨rfl, hb1⟩
  have HB1 := Lib.hid (bl_then (bl_alloc (Below.refl _ _) _) hb1)
  clear hb1 HPK
  have hrk : Rk .i64 (w1.alloc (.cells #[.int .i64 4, .int .i64 8] 3)) (some ⟨w1.heap.size, 0, none⟩) (ints [4, 8]) := by
    refine blk_rk (alloc_new w1 (.cells #[.int .i64 4, .int .i64 8] 3)) fun i x hx => ?_
    match i with
    | 0 | 1 => simpa [ints] using hx
    | i + 2 => simp [ints] at hx
  have hsp := split_ hrk 117 (by decide) 2 (by simp) (by decide) (by decide)
  rw [show decide (117 / 2 ^ [4, 8].sum = 0) = true from by decide] at hsp
  have HSP := Lib.hid hsp
  clear hrk hsp
  go_wp2_with fail
  refine (show Calls _ _ #[.int .u64 117, .slice (some ⟨w1.heap.size, 0, none⟩) 2 2] _ _ from HSP.out).mono ?_
  rintro e w2 ⟨v, rfl, hown, hb2⟩
  have hown := hown (by decide)
  obtain ⟨A2, c2, rfl⟩ := own_slice hown
  obtain ⟨g2, rfl, hc0, -⟩ := own_at (i := 0) (x := 5) hown rfl
  obtain ⟨_, e2, hc1, -⟩ := own_at (i := 1) (x := 7) hown rfl
  cases e2
  have HB2 := Lib.hid (bl_then (bl_alloc HB1.out _) hb2)
  have HOWN := Lib.hid hown
  clear hown hb2
  go_wp2_with fail
  go_ret
  exact ⟨rfl, HB2.out⟩

end Go.Proofs.Ytichcdoijieddaa.Li
end

/- The fifth chapter's example. -/
section
set_option linter.unusedVariables false
set_option linter.unusedSimpArgs false
set_option maxHeartbeats 2000000
set_option maxRecDepth 100000
namespace Go.Proofs.Ytichcdoijieddaa.Li
open Go Go.RowKit
open Go.Proofs.Ytichcdoijieddaa.Ob Go.Proofs.Ytichcdoijieddaa.Ba Go.Proofs.Ytichcdoijieddaa.Oc Go.Proofs.Ytichcdoijieddaa.Pk

theorem lives05 (w : World) : Calls Try.prog 16 #[] w fun e w' => e = .returned (.bool true) ∧ Below w.heap.size w w' := by
  have hen := Su.encode_yes 10 3 64 (by decide) (by decide) (by decide) (by decide) w
  have hl1 : (ints (Su.enc 10 3 64))[1]? = some 274878103562 := by decide
  have HL := Lib.hid hl1
  generalize Su.enc 10 3 64 = l at *
  have HE := Lib.hid hen
  clear hen hl1
  go_enter Try.func16, Try.ntmps16
  go_wp2_with (first | (go_at_call 45; refine HE.out.mono ?_; rintro e w1 ⟨v, rfl, hown, hb1⟩; (obtain ⟨A1, c1, rfl⟩ := own_slice hown); (obtain ⟨q1, rfl, -, -⟩ := own_at hown HL.out); (have HO := Lib.hid hown); (have HB1 := Lib.hid hb1); clear hb1 hown) |
    (go_at_call 46; refine (Pm.lives_any _).mono ?_; rintro e w2 ⟨rfl, hb2⟩; (have HB2 := Lib.hid hb2); clear hb2) |
    (go_at_call 47; refine (lives02 _).mono ?_; rintro e w3 ⟨rfl, hb3⟩; (have HB3 := Lib.hid (bl_then HB2.out hb3)); clear hb3) |
    (go_at_call 48; refine (lives03 _).mono ?_; rintro e w4 ⟨rfl, hb4⟩; (have HB4 := Lib.hid (bl_then HB3.out hb4)); clear hb4) |
    (go_at_call 49; refine (lives04 _).mono ?_; rintro e w5 ⟨rfl, hb5⟩; (have HB5 := Lib.hid (bl_then HB4.out hb5)); clear hb5; (obtain ⟨_, e5, hc5, -⟩ := own_at (own_bl HO.out HB5.out) HL.out); cases e5))
  go_ret
  exact ⟨rfl, bl_then HB1.out HB5.out⟩

end Go.Proofs.Ytichcdoijieddaa.Li
end

/- package inode: what a file is, in a line. -/
section
set_option linter.unusedVariables false
set_option linter.unusedSimpArgs false
set_option maxHeartbeats 2000000
set_option maxRecDepth 100000
namespace Go.Proofs.Ytichcdoijieddaa.In
open Go Go.RowKit
open Go.Proofs.Ytichcdoijieddaa.Ob Go.Proofs.Ytichcdoijieddaa.Ba Go.Proofs.Ytichcdoijieddaa.Oc Go.Proofs.Ytichcdoijieddaa.Pk Go.Proofs.Ytichcdoijieddaa.Su Go.Proofs.Ytichcdoijieddaa.Cc Go.Proofs.Ytichcdoijieddaa.Cr

/-- a file or a directory may be -/
def iOk (k h z : Int) : Prop := (k = 1 ∨ k = 2) ∧ 0 ≤ z ∧ z ≤ 268435456 ∧ -1 ≤ h ∧ h < 65534 ∧ (h < 0 ↔ z = 0) ∧ (k = 1 ∨ z % 64 = 0)

theorem may_yes (k h z : Int) (hk : iOk k h z) (w : World) : Calls Try.prog 79 #[.agg #[.int .i64 k, .int .i64 h, .int .i64 z]] w fun e w' => e = .returned (.bool true) ∧ Below w.heap.size w w' := by
  have hu := Try.underlying93
  obtain ⟨h1, h2, h3, h4, h5, h6, h7⟩ := hk
  have he : ((decide (h < 0)) == (z == 0)) = true := by
    by_cases hn : h < 0
    · have := h6.1 hn; simp [hn, this]
    · have h8 : ¬ z = 0 := fun e => hn (h6.2 e)
      simp [hn, h8]
  rcases h1 with rfl | rfl
  · clear h7 h6
    go_enter Try.func79, Try.ntmps79
    go_wp2
    go_ret
    exact ⟨rfl, bl_alloc (Below.refl _ _) _⟩
  · have h8 : z % 64 = 0 := by omega
    clear h7 h6
    go_enter Try.func79, Try.ntmps79
    go_wp2
    go_ret
    exact ⟨rfl, bl_alloc (Below.refl _ _) _⟩

theorem encode_file (k p z : Nat) (h : Int) (hp : (p : Int) = h + 1) (hk : iOk k h z) (w : World) :
    Calls Try.prog 50 #[.agg #[.int .i64 k, .int .i64 h, .int .i64 z]] w fun e w' => ∃ v, e = .returned (.tuple #[v, .int .i64 0]) ∧ w'.ownsRow w.heap.size 35 1 v 8 (ivs .u64 (ints (line (k + 65536 * p) z))) ∧ Below w.heap.size w w' := by
  have hu := Try.underlying93
  have HM := Lib.hid (may_yes k h z hk)
  obtain ⟨h1, h2, h3, h4, h5, h6, h7⟩ := hk
  have hk9 : k < 65536 := by omega
  have hp9 : p < 65536 := by omega
  have hz9 : z < 18446744073709551616 := by omega
  have e0 : ((k : Int) == 0) = false := by rw [beq_eq_false_iff_ne]; omega
  have HF := Lib.hid (And.intro (f16 hk9) (f16 hp9))
  obtain ⟨x, hx⟩ : ∃ x, x = k + 65536 * p := ⟨_, rfl⟩
  have hpv : pv [(16, k), (16, p)] = x := by simp [pv, hx]
  have hx9 : x < 18446744073709551616 := by omega
  have HPV := Lib.hid hpv
  have HP := Lib.hid hp
  rw [← hx]
  have hzz : (z : Int) ≤ 268435456 := h3
  clear h1 h2 h6 h7 hpv hx
  go_enter Try.func50, Try.ntmps50
  go_wp2_with (first | (at_make; refine Go.Proofs.Ytichcdoijieddaa.Wl.wpl_make rfl _ 22 35 rfl (.int .u64 0) 8 Try.underlying22 info_u64 rfl 8 .i64 _ rfl rfl (by decide) (by decide) ?_) | (go_at_call 79; refine (HM.out _).mono ?_; rintro e w1 ⟨rfl, hb⟩; (have hq := blk_bl (alloc_new w (.cells #[.int .i64 k, .int .i64 h, .int .i64 z] 93)) hb); (have HQ := Lib.hid hq); (have k0 := cell_of hq 0); (have k1 := cell_of hq 1); (have k2 := cell_of hq 2); (have hlt := lt_of hq); (have HB := Lib.hid (bl_then (bl_alloc (Below.refl _ _) _) hb)); clear hb hq))
  rw [← HP.out]
  have hfs : FsAt ((w1.alloc (.cells (Array.replicate 8 (.int .u64 0)) 35)).alloc (.cells #[.int .i64 16, .int .u64 k, .int .i64 16, .int .u64 p] 111)) (some ⟨w1.heap.size + 1, 0, none⟩) [(16, k), (16, p)] := by
    have := alloc_new (w1.alloc (.cells (Array.replicate 8 (.int .u64 0)) 35)) (.cells #[.int .i64 16, .int .u64 k, .int .i64 16, .int .u64 p] 111)
    rw [World.size_alloc] at this
    refine fields_at (T := 111) (fr := (0, 0)) this ?_
    intro u hu
    simp only [List.mem_cons, List.not_mem_nil, or_false] at hu
    rcases hu with rfl | rfl
    · exact HF.out.1
    · exact HF.out.2
  have hpk := pack_ hfs 2 (by simp [wid]) (by simp)
  rw [HPV.out] at hpk
  refine (show Calls _ _ #[.slice (some ⟨w1.heap.size + 1, 0, none⟩) 2 2] _ _ from hpk).mono ?_
  rintro e w3 ⟨rfl, hb3⟩
  have hL3 : w3.heap[w1.heap.size]? = some (.cells (Array.replicate 8 (.int .u64 0)) 35 (0, 0)) := blk_bl (alloc_old (alloc_new w1 _) _) hb3
  have hz3 := hb3.size
  simp only [World.size_alloc] at hz3
  have HB3 := Lib.hid (bl_then (bl_alloc (bl_alloc (Below.refl _ _) _) _) hb3)
  have hq3 := blk_bl HQ.out HB3.out
  clear k0 k1 k2
  have k0 := cell_of hq3 0
  have k1 := cell_of hq3 1
  have k2 := cell_of hq3 2
  have l0 := cell_of hL3 0
  have l1 := cell_of hL3 1
  have f0 := free_of hL3 0
  have f1 := free_of hL3 1
  simp only [Array.getElem?_replicate] at l0 l1
  have hL4 := set_same (set_same hL3 0 (.int .u64 x)) 1 (.int .u64 z)
  have hr4 := fill_line hL4
  have hr5 := words32_ hr4 (head7_lt (a := x) (b := z) hx9 hz9) 8 (by simp [head7])
  rw [show (head7 x z).length = 7 from rfl] at hr5
  have HR4 := Lib.hid hr5
  have HL4 := Lib.hid hL4
  have HB := Lib.hid HB.out
  clear hfs hpk hb3 hL3 hL4 hr4 hr5 hq3
  go_wp2_with fail
  refine HR4.out.mono ?_
  rw [sum7_int]
  rintro e w5 ⟨rfl, hb5⟩
  have hL5 := (hb5.block _ (lt_of HL4.out)).trans HL4.out
  have l7 : w5.cell? ⟨w1.heap.size, 7, none⟩ = some (.int .u64 0) := cell_of hL5 7
  have f7 := free_of hL5 7
  have hs7 := sum7_lt x z
  have HL5 := Lib.hid hL5
  have HB5 := Lib.hid hb5
  clear hL5 hb5 l0 l1 f0 f1
  go_wp2_with fail
  go_ret2
  have hfin := set_same HL5.out 7 (.int .u64 (sum7 x z : Nat))
  have h1 := HB.out.size
  refine ⟨_, rfl, own_new (q := w1.heap.size) hfin h1 rfl (by unfold maxLen; omega), ?_⟩
  have u1 : Below w.heap.size w w3 := bl_then HB.out HB3.out
  have u2 := bl_set (o := 1) (bl_set (o := 0) u1 h1 (.int .u64 x)) h1 (.int .u64 z)
  exact bl_set (o := 7) (bl_then u2 HB5.out) h1 _

end Go.Proofs.Ytichcdoijieddaa.In
end

/- The sixth chapter's example. -/
section
set_option linter.unusedVariables false
set_option linter.unusedSimpArgs false
set_option maxHeartbeats 2000000
set_option maxRecDepth 100000
namespace Go.Proofs.Ytichcdoijieddaa.Li
open Go Go.RowKit
open Go.Proofs.Ytichcdoijieddaa.Ob Go.Proofs.Ytichcdoijieddaa.Ba Go.Proofs.Ytichcdoijieddaa.Oc Go.Proofs.Ytichcdoijieddaa.Pk

theorem lives06 (w : World) : Calls Try.prog 17 #[] w fun e w' => e = .returned (.bool true) ∧ Below w.heap.size w w' := by
  have hen := In.encode_file 1 3 5 2 (by decide) ⟨.inl rfl, by decide, by decide, by decide, by decide, by decide, .inl rfl⟩ w
  have hl0 : (ints (Su.line (1 + 65536 * 3) 5))[0]? = some 196609 := by decide
  have HL := Lib.hid hl0
  generalize Su.line (1 + 65536 * 3) 5 = l at *
  have HE := Lib.hid hen
  clear hen hl0
  go_enter Try.func17, Try.ntmps17
  go_wp2_with (first | (go_at_call 50; refine (show Calls _ _ #[.agg #[.int .i64 1, .int .i64 2, .int .i64 5]] _ _ from HE.out).mono ?_; rintro e w1 ⟨v, rfl, hown, hb1⟩; (obtain ⟨A1, c1, rfl⟩ := own_slice hown); (obtain ⟨q1, rfl, -, -⟩ := own_at hown HL.out); (have HO := Lib.hid hown); (have HB1 := Lib.hid hb1); clear hb1 hown) |
    (go_at_call 47; refine (lives02 _).mono ?_; rintro e w3 ⟨rfl, hb3⟩; (have HB3 := Lib.hid hb3); clear hb3) |
    (go_at_call 48; refine (lives03 _).mono ?_; rintro e w4 ⟨rfl, hb4⟩; (have HB4 := Lib.hid (bl_then HB3.out hb4)); clear hb4; (obtain ⟨_, e5, hc5, -⟩ := own_at (own_bl HO.out HB4.out) HL.out); cases e5))
  go_ret
  exact ⟨rfl, bl_then HB1.out HB4.out⟩

end Go.Proofs.Ytichcdoijieddaa.Li
end

/- Words in bytes: the third chapter's function. -/
section
set_option linter.unusedVariables false
set_option linter.unusedSimpArgs false
set_option maxHeartbeats 1000000
set_option maxRecDepth 100000
namespace Go.Proofs.Ytichcdoijieddaa.Cc
open Go Go.RowKit
open Go.Proofs.Ytichcdoijieddaa.Ob Go.Proofs.Ytichcdoijieddaa.Ba Go.Proofs.Ytichcdoijieddaa.Cr Go.Proofs.Ytichcdoijieddaa.C6 Go.Proofs.Ytichcdoijieddaa.Oc

set_option maxHeartbeats 2000000 in
theorem bytes_ {w : World} {A : Option Addr} {l : List Nat} (h : Rk .u64 w A (ints l)) (hl : ∀ x ∈ l, x < 18446744073709551616) (c : Nat) (hn : l.length ≤ 1000000000) :
    Calls Try.prog 38 #[.slice A l.length c] w fun e w' => ∃ v, e = .returned v ∧ w'.ownsRow w.heap.size 5 1 v (8 * l.length) (ivs .u8 (ints (octs l))) ∧ Below w.heap.size w w' := by
  have H := Lib.hid h
  have HL := Lib.hid hl
  obtain ⟨n, hnn⟩ : ∃ n, n = l.length := ⟨_, rfl⟩
  rw [← hnn]
  rw [← hnn] at hn
  have HN := Lib.hid hnn
  clear h hl hnn
  obtain ⟨i0, hinf, hz0, hz1, hz2⟩ := info_parts (show (Try.prog.info? 5).map (fun i => (i.zero, i.size, i.bytes)) = some (some (.int .u8 0), 1, 1) by kernel_rfl)
  go_enter Try.func38, Try.ntmps38
  go_wp2_with fail
  go_loopw [9, 3] (fun c9 c3 wr => ∃ i : Nat, i ≤ n ∧ c9 = .int .i64 i ∧ Hid (Below w.heap.size w wr ∧ wr.ownsRow w.heap.size 5 1 c3 (8 * i) (ivs .u8 (ints (octs (l.take i)))))) (fun c9 _ _ => n - (intOf c9).toNat)
  case atStart => exact ⟨0, Nat.zero_le _, rfl, Below.refl _ _, own_nil0 _ _ _ _⟩
  case round =>
    obtain ⟨i, hi, rfl, HR⟩ := hrel
    by_cases hlt : i < n
    · obtain ⟨x, hx⟩ := some_at (l := l) (i := i) (by rw [← HN.out]; exact hlt)
      obtain ⟨a, rfl, -, ha⟩ := (H.out.below HR.out.1) i x (ints_get hx)
      have HX := Lib.hid (And.intro hx (HL.out x (List.mem_of_getElem? hx)))
      clear hx
      generalize wr = wA at *
      go_wp2_with fail
      go_loopw [13, 3] (fun c13 c3 wq => ∃ j : Nat, j ≤ 8 ∧ c13 = .int .i64 j ∧ Hid (Below w.heap.size w wq ∧ wq.ownsRow w.heap.size 5 1 c3 (8 * i + j) (ivs .u8 (ints (octs (l.take i) ++ (oct x).take j))))) (fun c13 _ _ => 8 - (intOf c13).toNat)
      case atStart => exact ⟨0, Nat.zero_le _, rfl, HR.out.1, by simpa using HR.out.2⟩
      case round =>
        obtain ⟨j, hj, rfl, HQ⟩ := hrel
        by_cases hl8 : j < 8
        · have hv := shr_at x j hl8
          have HB := Lib.hid (oct_at x j hl8)
          have hlt2 : x / 256 ^ j % 256 < 256 := Nat.mod_lt _ (by decide)
          generalize x / 256 ^ j % 256 = y at *
          have HOW := Lib.hid (fun o => own_kp (W' := wr.alloc o) HQ.out.2 (fun k _ hk => Below.heap_alloc _ _ k hk))
          go_wp2_with (at_builtin; refine wpList_append_own _ rfl (.tmp 16) (.tmp 22) 46 rfl w.heap.size 5 i0 (.int .u8 0) 1 1 Try.underlying46 hinf hz0 hz1 hz2 rfl (by decide) _ (8 * i + j) _ rfl (HOW.out _) ⟨wr.heap.size, 0, none⟩ 1 1 [.int .u8 y] rfl rfl (one_at _ _ _) (by intro u hu; simp at hu; subst hu; rfl) (by unfold maxLen; omega) (by omega) (by have h1 := HQ.out.1.size; simp; omega) ?_; intro v' w7 hown' hgrow _; (have HO := Lib.hid hown'); (have HG := Lib.hid hgrow); clear hown' hgrow)
          have hx1 : Below w.heap.size w w7 := bl_grown (bl_alloc HQ.out.1 _) HG.out (own_lo HQ.out.2)
          have hx2 : w7.ownsRow w.heap.size 5 1 v' (8 * i + (j + 1)) (ivs .u8 (ints (octs (l.take i) ++ (oct x).take (j + 1)))) := by
            rw [take_next HB.out, ← List.append_assoc, ints_append, ivs_append]
            exact HO.out
          have HZ := Lib.hid (And.intro hx1 hx2)
          clear hx1 hx2
          go_roundw
          case rel => exact ⟨j + 1, by omega, by go_num, HZ.out⟩
          case measure => simp [intOf]; omega
        · obtain rfl : j = 8 := by omega
          have hz : Below w.heap.size w wr ∧ wr.ownsRow w.heap.size 5 1 u3 (8 * (i + 1)) (ivs .u8 (ints (octs (l.take (i + 1))))) := by
            refine ⟨HQ.out.1, ?_⟩
            have := HQ.out.2
            rw [List.take_of_length_le (l := oct x) (by rw [oct_len]; omega), ← octs_snoc, ← take_next HX.out.1] at this
            exact this
          have HZ := Lib.hid hz
          clear hz
          go_wp2_with fail
          go_roundw
          case rel => exact ⟨i + 1, by omega, by go_num, HZ.out⟩
          case measure => simp [intOf]; omega
    · obtain rfl : i = n := by omega
      go_wp2_with fail
      go_ret
      have h2 := HR.out.2
      rw [List.take_of_length_le (by rw [← HN.out]; omega)] at h2
      exact ⟨_, rfl, h2, HR.out.1⟩

end Go.Proofs.Ytichcdoijieddaa.Cc
end
