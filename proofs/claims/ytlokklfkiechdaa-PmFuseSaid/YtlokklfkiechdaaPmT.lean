/- A device's words, as they are seen: the call. -/
import Derived.Test.YtlokklfkiechdaaPmS
import Derived.RegionTactic
import Derived.ChangeAlike
set_option linter.unusedVariables false
set_option linter.unusedSimpArgs false
set_option maxHeartbeats 1000000
namespace Go.Proofs.Ytlokklfkiechdaa.Pm
open Go Go.RowKit
open Go.ChangeMaps (setBlock)
open Go.Proofs.Ytlokklfkiechdaa.Ob Go.Proofs.Ytlokklfkiechdaa.Mp Go.Proofs.Ytlokklfkiechdaa.Dv Go.Proofs.Ytlokklfkiechdaa.Wl

/-- where the loop stands -/
structure WoRel (w : World) (b : Nat) (d : Dev) (g : Lay) (v : Value) (r : Nat) (wr : World) (seen : Array Nat) : Prop where
  dev : DevIs wr b d g
  below : Below w.heap.size w wr
  it : wr.heap[r]? = some (.mapIter (some g.M) g.clock seen g.clock)
  own : wr.ownsRow w.heap.size 26 1 v d.las.length (u64s (wo g.es seen d.las))

theorem wo_turn {w wr W : World} {b : Nat} {d : Dev} {g : Lay} {r q c n : Nat} {seen : Array Nat} {pre post : List Ent} {y : Ent} (h : WoRel w b d g (.slice (some ⟨q, 0, none⟩) d.las.length c) r wr seen) (h0 : DevIs w b d g) (hr : w.heap.size ≤ r)
    (hW : Only r (.mapIter (some g.M) g.clock (seen.push y.born) g.clock) wr W) (he : g.es = pre ++ y :: post) (hns : y.born ∉ seen) (hn : y.key = (n : Int)) :
    WoRel w b d g (.slice (some ⟨q, 0, none⟩) d.las.length c) r (W.setCell ⟨q, n, none⟩ (.int .u64 (lastOf y.pen))) (seen.push y.born) ∧ (W.setCell ⟨q, n, none⟩ (.int .u64 (lastOf y.pen))).rangeLeft g.M r < wr.rangeLeft g.M r := by
  have hsz := h.below.size
  have hq : w.heap.size ≤ q := own_lo h.own q rfl
  have hrq : r ≠ q := by
    intro e
    subst e
    obtain ⟨_, ⟨h2, _⟩ | ⟨g', cap, cur, hv, hg, hb, _⟩⟩ := h.own
    · cases h2
    · simp only [Value.slice.injEq, Option.some.injEq, Addr.mk.injEq, and_true, true_and] at hv
      obtain ⟨rfl, rfl⟩ := hv
      rw [h.it] at hb
      cases hb
  have hfoot : ∀ k ∈ g.foot b, k < w.heap.size := h0.lt
  have hdW : DevIs W b d g := h.dev.keep (fun k hk => hW.far k (fun e => by have := hfoot k hk; omega))
  have hd2 : DevIs (W.setCell ⟨q, n, none⟩ (.int .u64 (lastOf y.pen))) b d g := hdW.keep (fun k hk => Below.heap_setCell _ _ _ _ (fun e => by have := hfoot k hk; simp at e; omega))
  have hk := h.dev.wf.keys
  rw [h.dev.opn, List.map_map] at hk
  have hym : (y.key, y.pen) ∈ d.opn := by rw [h.dev.opn, he]; simp
  have hnl : n < d.las.length := by have := h.dev.wf.hi _ hym; simp only at this; omega
  have hbW : Below w.heap.size w W := h.below.trans ((hW.upd [r] (by simp)).belowB hsz (by simp; omega))
  have hown : W.ownsRow w.heap.size 26 1 (.slice (some ⟨q, 0, none⟩) d.las.length c) d.las.length (u64s (wo g.es seen d.las)) := by
    obtain ⟨h1, ⟨h2, _⟩ | ⟨g', cap, cur, hv, hg, hb, rest⟩⟩ := h.own
    · cases h2
    · simp only [Value.slice.injEq, Option.some.injEq, Addr.mk.injEq, and_true, true_and] at hv
      obtain ⟨rfl, rfl⟩ := hv
      exact ⟨h1, .inr ⟨_, _, cur, rfl, hg, (hW.far _ (fun e => hrq e.symm)).trans hb, rest⟩⟩
  have hit := set_other hW.here (a := ⟨q, n, none⟩) hrq (.int .u64 (lastOf y.pen))
  refine ⟨⟨hd2, hbW.setCell hq _, hit, ?_⟩, ?_⟩
  · rw [wo_step he hk h.dev.bnd hn hnl, u64s, List.map_set]
    exact own_set hown hnl _
  · rw [left_eq h.it h.dev.map, left_eq hit hd2.map, he]
    exact left_lt (pre := pre.map Ent.en) (post := post.map Ent.en) (x := y.en) (by simp) hns [y.en] (by simp) (by simp)

theorem wo_cell {w wr W : World} {b : Nat} {d : Dev} {g : Lay} {r c n : Nat} {A : Option Addr} {seen : Array Nat} {ob : Obj} (h : WoRel w b d g (.slice A d.las.length c) r wr seen) (hW : Only r ob wr W) (hr : w.heap.size ≤ r) (hn : n < d.las.length) :
    ∃ q, A = some ⟨q, 0, none⟩ ∧ ∃ u, W.cell? ⟨q, n, none⟩ = some u ∧ W.frozen? ⟨q, n, none⟩ = false := by
  obtain ⟨h1, ⟨h2, h3⟩ | ⟨g', cap, cur, hv, hg, hb, hc, _, hs, ht⟩⟩ := h.own
  · omega
  · simp only [Value.slice.injEq, true_and] at hv
    obtain ⟨rfl, rfl⟩ := hv
    have hne : g' ≠ r := by
      intro e
      subst e
      have := h.it
      rw [hb] at this
      cases this
    have hb' := hW.blk hb hne
    exact ⟨g', rfl, cur[n]'(by omega), by rw [cell_of hb']; exact Array.getElem?_eq_getElem _, free_of hb' n⟩

theorem WoRel.drew {w wr : World} {b : Nat} {d : Dev} {g : Lay} {v : Value} {r : Nat} {seen : Array Nat} (h : WoRel w b d g v r wr seen) : WoRel w b d g v r wr.drew seen :=
  ⟨h.dev.keep (fun _ _ => rfl), ⟨h.below.os, h.below.tape, h.below.output, h.below.size, h.below.block⟩, h.it, h.own⟩

set_option maxRecDepth 100000 in
theorem words_any {w : World} {b : Nat} {d : Dev} {g : Lay} (h : DevIs w b d g) (hA : g.A = none → g.c = 0) :
    Calls Try.prog 57 #[.pointer (some ⟨b, 0, none⟩)] w fun e w' => ∃ v, e = .returned v ∧ w'.ownsRow w.heap.size 26 1 v d.las.length (u64s (wordsOf d)) ∧ Below w.heap.size w w' := by
  obtain ⟨c0, c1, c2, c3, c4, c5⟩ := dev_cells h
  have hblt := lt_of h.blk
  have hcl := clone_any (sl_rd h.las) g.c h.wf.len (fun e => by
    refine ⟨?_, hA e⟩
    obtain ⟨_, ⟨h1, _⟩ | ⟨q, off, cs, h1, _⟩⟩ := h.las
    · simpa [u64s] using h1
    · rw [e] at h1; cases h1)
  have H := Lib.hid h
  have HCL := Lib.hid hcl
  have hlen := h.wf.len
  clear h hcl c0 c1 c4 c5 hA
  go_enter Try.func57, Try.ntmps57
  go_wp2_with (first | (go_at_call 56; refine HCL.out.mono ?_; rintro e w1 ⟨v, rfl, ho, hb⟩; (obtain ⟨A1, c1, q1, rfl, -, -⟩ := Sl.of_own ho); (have HO := Lib.hid ho); (have HB := Lib.hid hb); (obtain ⟨d0, d1, d2, d3, d4, d5⟩ := dev_cells (H.out.below hb)); clear ho hb d0 d1 d2 d4 d5) |
    (at_range; refine wpl_range (kInt .i64) (g.es.map Ent.en) rfl _ _ rfl Try.underlying71 rfl (H.out.below HB.out).map ?_))
  go_frame
  go_loopw [17] (fun c wr => ∃ seen, Hid (WoRel w b d g (.slice A1 d.las.length c1) w1.heap.size wr seen)) (fun _ wr => wr.rangeLeft g.M w1.heap.size)
  case atStart =>
    refine ⟨#[], (H.out.below HB.out).keep (fun k hk => Below.heap_alloc _ _ _ ((H.out.below HB.out).lt k hk)), bl_al HB.out _, alloc_new _ _, ?_⟩
    rw [wo_start]
    exact own_kp HO.out (fun k _ hk => Below.heap_alloc _ _ _ hk)
  case round =>
    obtain ⟨seen, HR⟩ := hrel
    go_wp2_with (first | (at_next; refine wpl_next (kInt .i64) (g.es.map Ent.en) w1.heap.size seen rfl _ rfl rfl HR.out.it HR.out.dev.map (by simp only [List.mem_map]; rintro _ ⟨x, hx, rfl⟩; exact HR.out.dev.old x hx) (by rw [List.map_map]; exact HR.out.dev.bnd) ?_ ?_))
    · intro hall
      have HA := Lib.hid hall
      clear hall
      go_wp2_with fail
      go_ret
      have hall' : ∀ x ∈ g.es, x.born ∈ seen := HA.out
      have := HR.out.own
      rw [wo_end HR.out.dev.opn hall'] at this
      exact ⟨_, rfl, this, HR.out.below⟩
    · intro y hy hns W hW hen
      obtain ⟨pre, post, he⟩ := List.append_of_mem hy
      have hyo : (y.key, y.pen) ∈ d.opn := by rw [HR.out.dev.opn]; exact List.mem_map.2 ⟨y, hy, rfl⟩
      have hk0 := HR.out.dev.wf.lo _ hyo
      have hk1 := HR.out.dev.wf.hi _ hyo
      have hne : y.pen.l ≠ [] := HR.out.dev.wf.ne _ hyo
      simp only at hk0 hk1
      obtain ⟨n, hn⟩ : ∃ n : Nat, y.key = n := ⟨y.key.toNat, by omega⟩
      have hnl : n < d.las.length := by omega
      have hWd : DevIs W b d g := HR.out.dev.keep (fun k hk => hW.far k (fun e => by have := H.out.lt k hk; have := HB.out.size; omega))
      obtain ⟨p0, p1, q0, q1', po, ps, pc⟩ := ent_facts (hWd.ents y hy)
      have hpl := pen_len hWd hy
      have hpos : 0 < y.pen.l.length := List.length_pos_iff.2 hne
      have hv := po (y.pen.l.length - 1) (.int .u64 (lastOf y.pen)) (by rw [u64s, List.getElem?_map, List.getElem?_eq_getElem (by omega)]; simp [lastOf, List.getD_eq_getElem?_getD, List.getElem?_eq_getElem (show y.pen.l.length - 1 < y.pen.l.length by omega)])
      obtain ⟨q, rfl, u, hc, hf⟩ := wo_cell HR.out hW HB.out.size hnl
      have hen' : (Instr.entry (.pointer (some ⟨w1.heap.size, 0, none⟩))).run Try.prog W = .ok (.tuple #[.int .i64 n, .pointer (some ⟨y.p, 0, none⟩)]) W := by rw [← hn]; exact hen
      have HT := Lib.hid (wo_turn HR.out H.out HB.out.size hW he hns hn)
      clear hy hns hW hen he hyo hk0 hk1 hne hn hWd p1 q0 q1' po ps pc
      generalize lastOf y.pen = z at *
      generalize y.pen.l.length = m at *
      go_wp2_with fail
      go_region
      go_wp2
      go_roundw
      case rel => exact ⟨_, HT.out.1.drew⟩
      case measure => exact HT.out.2

end Go.Proofs.Ytlokklfkiechdaa.Pm
