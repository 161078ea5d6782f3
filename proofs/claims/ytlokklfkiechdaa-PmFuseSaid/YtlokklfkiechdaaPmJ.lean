/- A device's fence. -/
import Derived.Test.YtlokklfkiechdaaPmI
import Derived.RegionTactic
import Derived.ChangeAlike
import Derived.Maps.RangeWalk
set_option linter.unusedVariables false
set_option linter.unusedSimpArgs false
set_option maxHeartbeats 400000
namespace Go.Proofs.Ytlokklfkiechdaa.Pm
open Go Go.RowKit
open Go.ChangeMaps (setBlock)
open Go.Proofs.Ytlokklfkiechdaa.Ob Go.Proofs.Ytlokklfkiechdaa.Mp Go.Proofs.Ytlokklfkiechdaa.Dv Go.Proofs.Ytlokklfkiechdaa.Wl

/-- where the loop of a fence stands -/
structure FeRel (w : World) (b : Nat) (d : Dev) (g : Lay) (r : Nat) (wr : World) (dk : Dev) (gk : Lay) (seen : Array Nat) : Prop where
  dev : DevIs wr b dk gk
  foot : ∀ x ∈ gk.foot b, x ∈ g.foot b
  upd : Upd (g.foot b) w wr
  it : wr.heap[r]? = some (.mapIter (some gk.M) gk.clock seen gk.clock)
  new : w.heap.size ≤ r
  opn : finOpn gk.es seen = d.opn.filterMap fencePen
  las : finLas gk.es seen dk.las = d.las.mapIdx (fenceWord d.opn)
  cnt : dk.steps = d.steps + 1 ∧ dk.stores = d.stores ∧ dk.fuse = (d.stepped false).fuse
  M : gk.M = g.M

theorem ne_foot {w : World} {b : Nat} {d : Dev} {g : Lay} (h : DevIs w b d g) {x : Ent} (hx : x ∈ g.es) : b ≠ x.p ∧ b ≠ x.q ∧ g.M ≠ x.p ∧ g.M ≠ x.q ∧ b ≠ g.M := by
  have hnd := h.nd
  have hm := mem_ents hx
  simp only [Lay.foot, List.nodup_cons, List.mem_cons, List.mem_append, not_or] at hnd
  obtain ⟨⟨h1, h2, h3⟩, ⟨h4, h5⟩, _⟩ := hnd
  exact ⟨fun e => h3 (e ▸ hm.1), fun e => h3 (e ▸ hm.2), fun e => h5 (e ▸ hm.1), fun e => h5 (e ▸ hm.2), h1⟩

theorem FeRel.far {w wr : World} {b : Nat} {d dk : Dev} {g gk : Lay} {r : Nat} {seen : Array Nat} (h : FeRel w b d g r wr dk gk seen) (h0 : DevIs w b d g) : ∀ k ∈ gk.foot b, k ≠ r := by
  intro k hk e
  have := h0.lt k (h.foot k hk)
  have := h.new
  omega

theorem fe_keep {w wr W : World} {b : Nat} {d dk : Dev} {g gk : Lay} {r : Nat} {seen : Array Nat} (h : FeRel w b d g r wr dk gk seen) (h0 : DevIs w b d g) {pre post : List Ent} {y : Ent}
    (hW : Only r (.mapIter (some gk.M) gk.clock (seen.push y.born) gk.clock) wr W) (he : gk.es = pre ++ y :: post) (hns : y.born ∉ seen) (hfl : y.pen.fl = 0) :
    FeRel w b d g r W dk gk (seen.push y.born) ∧ W.rangeLeft g.M r < wr.rangeLeft g.M r := by
  have hf := h.far h0
  have hd : DevIs W b dk gk := h.dev.keep (fun k hk => hW.far k (hf k hk))
  have hk := h.dev.wf.keys
  rw [h.dev.opn, List.map_map] at hk
  have hb := h.dev.bnd
  rw [he] at hk hb
  have hmid : ([y].map fun x => (x.key, x.pen)) = (fencePen (y.key, y.pen)).toList := by simp [fencePen, hfl]
  have hlo := h.dev.wf.lo (y.key, y.pen) (by rw [h.dev.opn, he]; simp)
  obtain ⟨e1, e2⟩ := fin_step hns hk hb [y] (.inr ⟨y, rfl, rfl⟩) hmid dk.las dk.las (by simp [hfl]) hlo
  simp only [List.cons_append, List.nil_append] at e1 e2
  refine ⟨⟨hd, h.foot, ?_, hW.here, h.new, by rw [he, e1, ← he]; exact h.opn, by rw [he, e2, ← he]; exact h.las, h.cnt, h.M⟩, ?_⟩
  · exact h.upd.trans (hW.upd [r] (by simp)) (by simp [h.new])
  · have hm1 := h.dev.map
    have hm2 := hd.map
    have hi1 := h.it
    have hi2 := hW.here
    rw [h.M] at hm1 hm2 hi1 hi2
    rw [left_eq hi1 hm1, left_eq hi2 hm2, he]
    exact left_lt (pre := pre.map Ent.en) (post := post.map Ent.en) (x := y.en) (by simp) hns [y.en] (by simp) (by simp)

theorem fe_turn {w wr W W3 : World} {b : Nat} {d dk : Dev} {g gk : Lay} {r : Nat} {seen : Array Nat} (h : FeRel w b d g r wr dk gk seen) (h0 : DevIs w b d g) {pre post : List Ent} {y : Ent}
    (hW : Only r (.mapIter (some gk.M) gk.clock (seen.push y.born) gk.clock) wr W) (he : gk.es = pre ++ y :: post) (hns : y.born ∉ seen) (hfl : y.pen.fl ≠ 0)
    {qL offL n : Nat} (hA : gk.A = some ⟨qL, offL, none⟩) (hq : gk.Ls = [qL]) (hn : n < dk.las.length) (hkey : y.key = n)
    (mid : List Ent) (hmid : (mid = [] ∧ y.pen.l.length ≤ y.pen.fl ∧ W3.heap[gk.M]? = some (obj (kInt .i64) ((pre ++ post).map Ent.en) gk.clock) ∧ Upd [gk.M, y.p, y.q] (W.setCell ⟨qL, offL + n, none⟩ (.int .u64 (y.pen.l.getD (y.pen.fl - 1) 0))) W3) ∨
      (∃ y', mid = [y'] ∧ y' = { y with off := y.off + y.pen.fl, cap := y.cap - y.pen.fl, pen := ⟨y.pen.l.drop y.pen.fl, 0⟩ } ∧ y.pen.fl < y.pen.l.length ∧ Upd [y.p, y.q] (W.setCell ⟨qL, offL + n, none⟩ (.int .u64 (y.pen.l.getD (y.pen.fl - 1) 0))) W3 ∧ EntAt W3 y'))
    (hit : W3.heap[r]? = some (.mapIter (some gk.M) gk.clock (seen.push y.born) gk.clock)) :
    ∃ dk' gk', FeRel w b d g r W3 dk' gk' (seen.push y.born) ∧ W3.rangeLeft g.M r < wr.rangeLeft g.M r := by
  have hf := h.far h0
  have hd : DevIs W b dk gk := h.dev.keep (fun k hk => hW.far k (hf k hk))
  have hk := h.dev.wf.keys
  rw [h.dev.opn, List.map_map] at hk
  have hb := h.dev.bnd
  rw [he] at hk hb
  have hlo := h.dev.wf.lo (y.key, y.pen) (by rw [h.dev.opn, he]; simp)
  obtain ⟨hd2, hqf⟩ := dev_las hd hA hq hn (y.pen.l.getD (y.pen.fl - 1) 0) (wf_las hd.wf n _)
  have hym : y ∈ gk.es := by rw [he]; simp
  have hmid' : (mid.map fun x => (x.key, x.pen)) = (fencePen (y.key, y.pen)).toList := by
    rcases hmid with ⟨rfl, hle, _⟩ | ⟨y', rfl, rfl, hlt, _⟩
    · simp [fencePen, hfl, hle]
    · have : ¬ y.pen.l.length ≤ y.pen.fl := by omega
      simp [fencePen, hfl, this]
  have hmb : mid = [] ∨ ∃ x', mid = [x'] ∧ x'.born = y.born := by
    rcases hmid with ⟨rfl, _⟩ | ⟨y', rfl, rfl, _⟩
    · exact .inl rfl
    · exact .inr ⟨_, rfl, rfl⟩
  obtain ⟨e1, e2⟩ := fin_step hns hk hb mid hmb hmid' dk.las (dk.las.set n (y.pen.l.getD (y.pen.fl - 1) 0)) (by simp [hfl, hkey]) hlo
  have hu0 : Upd (g.foot b) w (W.setCell ⟨qL, offL + n, none⟩ (.int .u64 (y.pen.l.getD (y.pen.fl - 1) 0))) :=
    (h.upd.trans (hW.upd [r] (by simp)) (by simp [h.new])).setCell (.inl (h.foot _ hqf)) _
  have hM : gk.M ∈ g.foot b := h.foot _ (by simp [Lay.foot])
  have hp : y.p ∈ g.foot b := h.foot _ (by simp [Lay.foot, (mem_ents hym).1])
  have hq' : y.q ∈ g.foot b := h.foot _ (by simp [Lay.foot, (mem_ents hym).2])
  have hleft : ∀ es', (es' = pre ++ (mid ++ post)) → W3.heap[gk.M]? = some (obj (kInt .i64) (es'.map Ent.en) gk.clock) → W3.rangeLeft g.M r < wr.rangeLeft g.M r := by
    intro es' hes hm2
    have hm1 := h.dev.map
    have hi1 := h.it
    rw [h.M] at hm1 hm2 hi1 hit
    rw [left_eq hi1 hm1, left_eq hit hm2, he, hes]
    refine left_lt (pre := pre.map Ent.en) (post := post.map Ent.en) (x := y.en) (by simp) hns (mid.map Ent.en) ?_ (by simp)
    rcases hmb with rfl | ⟨x', rfl, e⟩
    · simp
    · intro z hz; simp at hz; subst hz; exact e
  rcases hmid with ⟨rfl, hle, hm3, hu3⟩ | ⟨y', rfl, hy', hlt, hu3, hent⟩
  · obtain ⟨r1, r2⟩ := dev_del (d' := { dk with las := dk.las.set n (y.pen.l.getD (y.pen.fl - 1) 0), opn := (pre ++ post).map fun x => (x.key, x.pen) }) hd2 he hm3 hu3 rfl rfl rfl
      (wf_sub hd2.wf (pre := pre) (post := post) (x := y) (mid := []) (by rw [← he]; exact hd2.opn) (by simp) (.inl rfl) rfl rfl rfl rfl)
    refine ⟨_, _, ⟨r1, fun k hk => h.foot k (r2 k hk), ?_, hit, h.new, ?_, ?_, h.cnt, h.M⟩, hleft _ (by simp) r1.map⟩
    · refine hu0.trans hu3 fun x hx => .inl ?_
      simp only [List.mem_cons, List.not_mem_nil, or_false] at hx
      rcases hx with rfl | rfl | rfl
      · exact hM
      · exact hp
      · exact hq'
    · simp only [List.nil_append] at e1
      rw [e1, ← he]; exact h.opn
    · simp only [List.nil_append] at e2
      rw [e2, ← he]; exact h.las
  · subst hy'
    obtain ⟨r1, r2⟩ := dev_ent (d' := { dk with las := dk.las.set n (y.pen.l.getD (y.pen.fl - 1) 0), opn := (pre ++ { y with off := y.off + y.pen.fl, cap := y.cap - y.pen.fl, pen := ⟨y.pen.l.drop y.pen.fl, 0⟩ } :: post).map fun x => (x.key, x.pen) }) hd2 he hu3 hent rfl rfl rfl (.inl rfl) rfl rfl rfl
      (wf_sub hd2.wf (pre := pre) (post := post) (x := y) (mid := [{ y with off := y.off + y.pen.fl, cap := y.cap - y.pen.fl, pen := ⟨y.pen.l.drop y.pen.fl, 0⟩ }]) (by rw [← he]; exact hd2.opn) (by simp) (.inr ⟨_, rfl, rfl, by simp [hlt], by simp, by simp⟩) rfl rfl rfl rfl)
    refine ⟨_, _, ⟨r1, fun k hk => ?_, ?_, hit, h.new, ?_, ?_, h.cnt, h.M⟩, hleft _ (by simp) r1.map⟩
    · apply h.foot
      simp only [Lay.foot, Lay.ents, he, List.mem_cons, List.mem_append, List.flatMap_append, List.flatMap_cons] at hk ⊢
      exact hk
    · refine hu0.trans hu3 fun x hx => .inl ?_
      simp only [List.mem_cons, List.not_mem_nil, or_false] at hx
      rcases hx with rfl | rfl
      · exact hp
      · exact hq'
    · simp only [List.cons_append, List.nil_append] at e1
      simp only
      rw [e1, ← he]; exact h.opn
    · simp only [List.cons_append, List.nil_append] at e2
      simp only
      rw [e2, ← he]; exact h.las

set_option maxRecDepth 100000 in
theorem fence_go {w : World} {b : Nat} {d : Dev} {g : Lay} (h : DevIs w b d g) (hd : d.down = false) (hlim : d.steps < 1099511627776) :
    Calls Try.prog 34 #[.pointer (some ⟨b, 0, none⟩)] w fun e w' => e = .returned (.bool true) ∧ DevTo w w' b g d.fenced := by
  have hs := step_go h hd hlim false
  have H := Lib.hid h
  have HS := Lib.hid hs
  have HF := Lib.hid hd
  clear h hs hd
  go_enter Try.func34, Try.ntmps34
  go_wp2_with (first | (go_at_call 36; refine HS.out.mono ?_; rintro e w1 ⟨rfl, hu1, hd1⟩; (have HU1 := Lib.hid hu1); (have HD1 := Lib.hid hd1); (obtain ⟨c0, c1, c2, c3, c4, c5⟩ := dev_cells hd1); (have hblt := lt_of hd1.blk); clear hu1 hd1 c0 c1 c2 c4 c5) |
    (at_range; refine wpl_range (kInt .i64) (g.es.map Ent.en) rfl _ _ rfl Try.underlying71 rfl HD1.out.map ?_))
  go_frame
  go_loopw [13] (fun c wr => ∃ dk gk seen, FeRel w b d g w1.heap.size wr dk gk seen) (fun _ wr => wr.rangeLeft g.M w1.heap.size)
  case atStart =>
    obtain ⟨e1, e2⟩ := fin_start (d := d) H.out.opn
    refine ⟨d.stepped false, g, #[], HD1.out.keep (fun k hk => Below.heap_alloc _ _ _ (HD1.out.lt k hk)), fun _ hx => hx, (HU1.out.mono fun x hx => ?_).alloc _, alloc_new _ _, HU1.out.size, e1, e2, ⟨rfl, by simp [Dev.stepped], rfl⟩, rfl⟩
    simp at hx; subst hx; simp [Lay.foot]
  case round =>
    obtain ⟨dk, gk, seen, hr⟩ := hrel
    have HR := Lib.hid hr
    obtain ⟨c0, c1, c2, c3, c4, c5⟩ := dev_cells hr.dev
    have f0 := dev_free hr.dev
    clear hr c0 c1 c4 c5 c3
    go_wp2_with (first | (at_next; refine wpl_next (kInt .i64) (gk.es.map Ent.en) w1.heap.size seen rfl _ rfl rfl HR.out.it HR.out.dev.map (by simp only [List.mem_map]; rintro _ ⟨x, hx, rfl⟩; exact HR.out.dev.old x hx) (by rw [List.map_map]; exact HR.out.dev.bnd) ?_ ?_))
    · intro hall
      have HA := Lib.hid hall
      clear hall f0
      go_wp2_with fail
      go_ret
      have hall' : ∀ x ∈ gk.es, x.born ∈ seen := HA.out
      obtain ⟨e1, e2⟩ := fin_end (l := dk.las) hall'
      refine ⟨rfl, gk, ?_, fun k hk => .inl (HR.out.foot k hk), HR.out.upd⟩
      have : d.fenced = dk := by
        unfold Dev.fenced
        rw [if_neg (by simp [HF.out]), ← HR.out.opn, ← HR.out.las, e1, e2, ← HR.out.dev.opn]
        obtain ⟨q1, q2, q3⟩ := HR.out.cnt
        cases dk
        simp only at q1 q2 q3
        simp [Dev.stepped, q1, q2, q3]
      rw [this]
      exact HR.out.dev
    · intro y hy hns W hW hen
      obtain ⟨pre, post, he⟩ := List.append_of_mem hy
      have hWd : DevIs W b dk gk := HR.out.dev.keep (fun k hk => hW.far k (fun e => by have := H.out.lt k (HR.out.foot k hk); have := HR.out.new; omega))
      obtain ⟨p0, p1, q0, q1, po, ps, pc⟩ := ent_facts (hWd.ents y hy)
      have hpl := pen_len hWd hy
      by_cases hfl : y.pen.fl = 0
      · rw [hfl] at p1
        have HHW := Lib.hid hW
        have HN := Lib.hid hns
        have HE := Lib.hid he
        have HD := Lib.hid hWd
        have HZ := Lib.hid hfl
        clear hW hns he hWd hy po ps q0 q1 f0 p0 hfl
        have hen' : (Instr.entry (.pointer (some ⟨w1.heap.size, 0, none⟩))).run Try.prog W = .ok (.tuple #[.int .i64 y.key, .pointer (some ⟨y.p, 0, none⟩)]) W := hen
        clear hen
        go_wp2_with fail
        obtain ⟨r1, r2⟩ := fe_keep HR.out H.out HHW.out HE.out HN.out HZ.out
        have R1 := Lib.hid r1
        have R2 := Lib.hid r2
        clear r1 r2
        go_roundw
        case rel => exact ⟨_, _, _, R1.out⟩
        case measure => exact R2.out
      · have hyo : (y.key, y.pen) ∈ dk.opn := by rw [HR.out.dev.opn]; exact List.mem_map.2 ⟨y, hy, rfl⟩
        have hk0 := HR.out.dev.wf.lo _ hyo
        have hk1 := HR.out.dev.wf.hi _ hyo
        have hfle := HR.out.dev.wf.fl _ hyo
        simp only at hk0 hk1 hfle
        obtain ⟨n, hn⟩ : ∃ n : Nat, y.key = n := ⟨y.key.toNat, by omega⟩
        have hnl : n < dk.las.length := by omega
        obtain ⟨qL, offL, csL, hA, hLs, hbL, hcL, hcellL, hfrL⟩ := hWd.las.at_ (i := n) (v := .int .u64 (dk.las.getD n 0)) (by simp [u64s, hnl])
        obtain ⟨c0, c1, c2, c3, c4, c5⟩ := dev_cells hWd
        clear c0 c1 c3 c4 c5
        rw [hA] at c2
        have hrow := po (y.pen.fl - 1) (.int .u64 (y.pen.l.getD (y.pen.fl - 1) 0)) (by rw [u64s, List.getElem?_map, List.getElem?_eq_getElem (by omega), List.getD_eq_getElem?_getD, List.getElem?_eq_getElem (by omega)]; rfl)
        have hlen := HR.out.dev.wf.len
        have HHW := Lib.hid hW
        have HN := Lib.hid hns
        have HE := Lib.hid he
        have HD := Lib.hid hWd
        have HZ := Lib.hid hfl
        have HK := Lib.hid hn
        have HAL := Lib.hid (And.intro hA (And.intro hLs hnl))
        have hen' : (Instr.entry (.pointer (some ⟨w1.heap.size, 0, none⟩))).run Try.prog W = .ok (.tuple #[.int .i64 n, .pointer (some ⟨y.p, 0, none⟩)]) W := by rw [← hn]; exact hen
        have hfl1 : 1 ≤ y.pen.fl := by omega
        have hflz : ((y.pen.fl : Int) == 0) = false := beq_eq_false_iff_ne.2 (by omega)
        clear hW hns he hWd hy hyo po ps f0 hk0 hk1 hA hLs hbL hcL hn hfl hen
        generalize hg1 : y.pen.l.getD (y.pen.fl - 1) 0 = v at *
        generalize hg2 : y.pen.fl = fl at *
        generalize hg3 : y.pen.l.length = len at *
        have HG := Lib.hid (And.intro hg1 (And.intro hg2 hg3))
        clear hg1 hg2 hg3
        have hne : y.p ≠ qL := by
          intro e
          have h1 := (HD.out.ents y (by rw [HE.out]; simp)).1
          have h2 := HD.out.las.at_ (i := n) (v := .int .u64 (dk.las.getD n 0)) (by simp [u64s, HAL.out.2.2])
          obtain ⟨q', o', cs', hA', _, hb', _⟩ := h2
          rw [HAL.out.1] at hA'
          simp only [Option.some.injEq, Addr.mk.injEq, and_true] at hA'
          rw [← hA'.1, ← e, h1] at hb'
          simp at hb'
        have hrq : w1.heap.size ≠ qL := fun e => HR.out.far H.out qL (by simp [Lay.foot, HAL.out.2.1]) e.symm
        have hrp : w1.heap.size ≠ y.p := fun e => HR.out.far H.out y.p (by simp [Lay.foot, (mem_ents (show y ∈ gk.es by rw [HE.out]; simp)).1]) e.symm
        have P0 : (W.setCell ⟨qL, offL + n, none⟩ (.int .u64 v)).cell? ⟨y.p, 0, none⟩ = some (.slice (some ⟨y.q, y.off, none⟩) len y.cap) := (World.cell?_setCell_other _ _ _ _ (by intro e; simp only [Addr.mk.injEq] at e; exact hne e.1.symm)).trans p0
        have P1 : (W.setCell ⟨qL, offL + n, none⟩ (.int .u64 v)).cell? ⟨y.p, 1, none⟩ = some (.int .i64 fl) := (World.cell?_setCell_other _ _ _ _ (by intro e; simp only [Addr.mk.injEq] at e; exact hne e.1.symm)).trans p1
        have F0 : (W.setCell ⟨qL, offL + n, none⟩ (.int .u64 v)).frozen? ⟨y.p, 0, none⟩ = false := by rw [World.frozen?_setCell]; exact q0
        have F1 : (W.setCell ⟨qL, offL + n, none⟩ (.int .u64 v)).frozen? ⟨y.p, 1, none⟩ = false := by rw [World.frozen?_setCell]; exact q1
        have D2 : DevIs (W.setCell ⟨qL, offL + n, none⟩ (.int .u64 v)) b { dk with las := dk.las.set n v } gk := (dev_las HD.out HAL.out.1 HAL.out.2.1 HAL.out.2.2 v (wf_las HD.out.wf n v)).1
        obtain ⟨d0, d1, d2, C3, d4, d5⟩ := dev_cells D2
        have HP := Lib.hid (And.intro P0 (And.intro P1 (And.intro F0 (And.intro F1 C3))))
        have HD2 := Lib.hid D2
        clear P0 P1 F0 F1 d0 d1 d2 C3 d4 d5 D2
        go_wp2_with fail
        go_region
        clear p0 p1 q0 q1 c2 hrow hen' hflz hcellL hfrL
        obtain ⟨P0, P1, F0, F1, C3⟩ := HP.out
        generalize hW2 : W.setCell ⟨qL, offL + n, none⟩ (.int .u64 v) = W2 at *
        have HW2 := Lib.hid hW2
        clear hW2
        by_cases hlt : fl < len
        · have hcp : ¬ y.cap = fl := by omega
          go_wp2_with fail
          go_region
          go_wp2_with fail
          obtain ⟨hg1, hg2, hg3⟩ := HG.out
          have hD2 := HD2.out.ents y (by rw [HE.out]; simp)
          obtain ⟨k1, cs, k2, k3, k4, k5⟩ := hD2
          have hWW := HW2.out
          subst hg1
          have hT := fe_turn (W3 := ((W2.setCell ⟨y.p, 0, none⟩ (.slice (some ⟨y.q, y.off + fl, none⟩) (len - fl) (y.cap - fl))).setCell ⟨y.p, 1, none⟩ (.int .i64 0)).drew.drew) HR.out H.out HHW.out HE.out HN.out (by rw [hg2]; exact HZ.out) HAL.out.1 HAL.out.2.1 HAL.out.2.2 HK.out [_]
            (.inr ⟨_, rfl, rfl, by omega, by
              rw [hg2, hWW]
              exact (((Upd.refl _ _).setCell (by simp) _).setCell (by simp) _).drew.drew, by
              refine ⟨?_, cs, ?_, ?_, ?_, ?_⟩
              · have e1 : (y.pen.l.drop y.pen.fl).length = len - fl := by simp; omega
                simp only [e1]
                rw [hg2]
                exact set_b (set_b k1 0 _ rfl) 1 _ rfl
              · exact set_other (set_other k2 (fun e => ne_pq HD.out (by rw [HE.out]; simp) e.symm) _) (fun e => ne_pq HD.out (by rw [HE.out]; simp) e.symm) _
              · simp only; omega
              · simp only [List.length_drop]; omega
              · intro j u hj
                simp only [List.getElem?_drop] at hj
                simp only
                rw [Nat.add_assoc]
                exact k5 _ u hj⟩)
            (by
              have : W2.heap[w1.heap.size]? = some (.mapIter (some gk.M) gk.clock (seen.push y.born) gk.clock) := by
                rw [← hWW]
                exact set_other HHW.out.here hrq _
              exact set_other (set_other this hrp _) hrp _)
          obtain ⟨dk', gk', r1, r2⟩ := hT
          exact ⟨⟨dk', gk', _, r1⟩, r2⟩
        · obtain rfl : fl = len := by omega
          have hgo : ∀ (S : Value) (W3 : World), W3 = ((W2.setCell ⟨y.p, 0, none⟩ S).setCell ⟨y.p, 1, none⟩ (.int .i64 0)).drew.drew →
              (W3.cell? ⟨b, 3, none⟩ = some (.map (some gk.M)) ∧ W3.cell? ⟨y.p, 0, none⟩ = some S ∧ W3.heap[gk.M]? = some (obj (kInt .i64) (gk.es.map Ent.en) gk.clock) ∧
               ∀ W4, Only gk.M (obj (kInt .i64) ((pre ++ post).map Ent.en) gk.clock) W3 W4 → ∃ dk' gk', FeRel w b d g w1.heap.size W4 dk' gk' (seen.push y.born) ∧ W4.rangeLeft g.M w1.heap.size < wr.rangeLeft g.M w1.heap.size) := by
            rintro S W3 rfl
            obtain ⟨hg1, hg2, hg3⟩ := HG.out
            have hWW := HW2.out
            obtain ⟨nb1, nb2, nb3, nb4, nb5⟩ := ne_foot HD.out (x := y) (by rw [HE.out]; simp)
            obtain ⟨k1, cs, k2, k3, k4, k5⟩ := HD2.out.ents y (by rw [HE.out]; simp)
            have km := HD2.out.map
            have kb := HD2.out.blk
            have hm3 := set_other (set_other km (a := ⟨y.p, 0, none⟩) nb3 S) (a := ⟨y.p, 1, none⟩) nb3 (.int .i64 0)
            refine ⟨?_, ?_, hm3, fun W4 hW4 => ?_⟩
            · have := set_other (set_other kb (a := ⟨y.p, 0, none⟩) nb1 S) (a := ⟨y.p, 1, none⟩) nb1 (.int .i64 0)
              exact (cell_of this 3)
            · have := set_same (set_same k1 0 S) 1 (.int .i64 0)
              exact (cell_of this 0)
            · refine fe_turn (W3 := W4) HR.out H.out HHW.out HE.out HN.out (by rw [hg2]; exact HZ.out) HAL.out.1 HAL.out.2.1 HAL.out.2.2 HK.out []
                (.inl ⟨rfl, by omega, hW4.here, ?_⟩) ?_
              · rw [hg2, hg1, hWW]
                exact ((((Upd.refl _ _).setCell (by simp) _).setCell (by simp) _).drew.drew).trans (hW4.upd [gk.M] (by simp)) (by simp)
              · have : W2.heap[w1.heap.size]? = some (.mapIter (some gk.M) gk.clock (seen.push y.born) gk.clock) := by
                  rw [← hWW]
                  exact set_other HHW.out.here hrq _
                refine hW4.blk (set_other (set_other this hrp _) hrp _) (fun e => ?_)
                exact HR.out.far H.out gk.M (by simp [Lay.foot]) e.symm
          have HGO := Lib.hid hgo
          clear hgo hrq hrp
          by_cases hcp : y.cap = fl
          · go_wp2_with fail
            go_region
            obtain ⟨M0, M1, M2, M3⟩ := HGO.out (.slice (some ⟨y.q, y.off, none⟩) 0 0) _ rfl
            have HM := Lib.hid (And.intro M2 M3)
            clear M2 M3 P0 P1 F0 F1 C3
            generalize ((W2.setCell ⟨y.p, 0, none⟩ (.slice (some ⟨y.q, y.off, none⟩) 0 0)).setCell ⟨y.p, 1, none⟩ (.int .i64 0)).drew.drew = W3 at *
            go_wp2_with (at_delete; refine wpl_delete_some (kInt .i64) (pre.map Ent.en) (post.map Ent.en) (.pointer (some ⟨y.p, 0, none⟩)) y.born rfl _ _ _ _ rfl Try.underlying71 Try.underlying3 rfl (n : Int) rfl (by have := HM.out.1; rw [HE.out, List.map_append, List.map_cons, show y.en = ((n : Int), Value.pointer (some ⟨y.p, 0, none⟩), y.born) from by rw [← HK.out]; rfl] at this; exact this) (by have := HR.out.dev.wf.keys; rw [HR.out.dev.opn, HE.out, List.map_map, List.map_append, List.map_cons] at this; have := (List.nodup_append.1 this).2.2; simp only [List.mem_map]; rintro _ ⟨z, hz, rfl⟩; rw [← HK.out]; exact this _ (List.mem_map.2 ⟨z, hz, rfl⟩) _ (by simp)) ?_; intro W4 hW4; (have HW4 := Lib.hid hW4); clear hW4)
            obtain ⟨dk', gk', r1, r2⟩ := HM.out.2 W4 (by rw [List.map_append]; exact HW4.out)
            go_frame
            go_roundw
            case rel => exact ⟨dk', gk', _, r1⟩
            case measure => exact r2
          · go_wp2_with fail
            go_region
            obtain ⟨M0, M1, M2, M3⟩ := HGO.out (.slice (some ⟨y.q, y.off + fl, none⟩) 0 (y.cap - fl)) _ rfl
            have HM := Lib.hid (And.intro M2 M3)
            clear M2 M3 P0 P1 F0 F1 C3
            generalize ((W2.setCell ⟨y.p, 0, none⟩ (.slice (some ⟨y.q, y.off + fl, none⟩) 0 (y.cap - fl))).setCell ⟨y.p, 1, none⟩ (.int .i64 0)).drew.drew = W3 at *
            go_wp2_with (at_delete; refine wpl_delete_some (kInt .i64) (pre.map Ent.en) (post.map Ent.en) (.pointer (some ⟨y.p, 0, none⟩)) y.born rfl _ _ _ _ rfl Try.underlying71 Try.underlying3 rfl (n : Int) rfl (by have := HM.out.1; rw [HE.out, List.map_append, List.map_cons, show y.en = ((n : Int), Value.pointer (some ⟨y.p, 0, none⟩), y.born) from by rw [← HK.out]; rfl] at this; exact this) (by have := HR.out.dev.wf.keys; rw [HR.out.dev.opn, HE.out, List.map_map, List.map_append, List.map_cons] at this; have := (List.nodup_append.1 this).2.2; simp only [List.mem_map]; rintro _ ⟨z, hz, rfl⟩; rw [← HK.out]; exact this _ (List.mem_map.2 ⟨z, hz, rfl⟩) _ (by simp)) ?_; intro W4 hW4; (have HW4 := Lib.hid hW4); clear hW4)
            obtain ⟨dk', gk', r1, r2⟩ := HM.out.2 W4 (by rw [List.map_append]; exact HW4.out)
            go_frame
            go_roundw
            case rel => exact ⟨dk', gk', _, r1⟩
            case measure => exact r2

theorem fence_any {w : World} {b : Nat} {d : Dev} {g : Lay} (h : DevIs w b d g) (hlim : d.steps < 1099511627776) :
    Calls Try.prog 34 #[.pointer (some ⟨b, 0, none⟩)] w fun e w' => e = .returned (.bool !d.down) ∧ DevTo w w' b g d.fenced := by
  cases hd : d.down with
  | false => exact fence_go h hd hlim
  | true =>
    have hs := step_down h hd false
    have hf : d.fenced = d := by unfold Dev.fenced; rw [if_pos hd]
    rw [hf]
    have H := Lib.hid h
    have HS := Lib.hid hs
    clear h hs hd hf
    go_enter Try.func34, Try.ntmps34
    go_wp2_with (go_at_call 36; refine HS.out.mono ?_; rintro e w1 ⟨rfl, rfl⟩)
    go_ret
    exact ⟨rfl, g, H.out, fun k hk => .inl hk, Upd.refl _ _⟩

end Go.Proofs.Ytlokklfkiechdaa.Pm
