/- A device's geometry, read from its first words. -/
import Derived.Test.YtlokklfkiechdaaPFx7
import Derived.Test.YtlokklfkiechdaaPFx5
import Derived.Test.YtlokklfkiechdaaPmL
import Derived.Deep.RegionWith
import Derived.Deep.QuietTactic
import Derived.BigQuiet
set_option linter.unusedVariables false
set_option linter.unusedSimpArgs false
set_option maxHeartbeats 400000
namespace Go.Proofs.Ytlokklfkiechdaa.Rd
open Go Go.RowKit Go.Proofs.Ytlokklfkiechdaa.PF Go.Proofs.YtlokklfkiechdaaW.PrintWords Go.Proofs.YtlokklfkiechdaaW.PrintLast Go.Proofs.YtlokklfkiechdaaW.PrintMore
open Go.Proofs.Ytlokklfkiechdaa.Ob Go.Proofs.Ytlokklfkiechdaa.Mp Go.Proofs.Ytlokklfkiechdaa.Dv Go.Proofs.Ytlokklfkiechdaa.Wl Go.Proofs.Ytlokklfkiechdaa.Pm

def loads (d : Dev) (n : Nat) : List Int := (List.range n).map fun i : Nat => d.load (i : Int)
theorem loads_succ (d : Dev) (n : Nat) : loads d (n + 1) = loads d n ++ [d.load n] := by
  unfold loads
  rw [List.range_succ, List.map_append]
  rfl
theorem loads_length (d : Dev) (n : Nat) : (loads d n).length = n := by simp [loads]

theorem mine_dr {w W W' : World} {b : Nat} {d : Dev} {g : Lay} (h : DevIs W b d g) (k : ∃ n, W' = W.drewN n) : DevIs W' b d g := by
  obtain ⟨n, rfl⟩ := k
  exact h.drewN n

theorem below_below {n : Nat} {w w1 w2 : World} (hs : n ≤ w1.heap.size) (h : Below n w w1) (h2 : Below w1.heap.size w1 w2) : Below n w w2 := h.trans (h2.mono hs)

theorem R_dr {W W' : World} {e base : Nat} {ok : Nat → Prop} {v : Value} {xs : List Int} (h : Kd.R (Kd.int .u64) e W base ok v xs) (k : ∃ n, W' = W.drewN n) : Kd.R (Kd.int .u64) e W' base ok v xs := by
  obtain ⟨n, rfl⟩ := k
  apply Kd.R_drewN
  exact h
theorem below_dr {W W' w : World} {s : Nat} (h : Below s w W) (k : ∃ n, W' = W.drewN n) : Below s w W' := by
  obtain ⟨n, rfl⟩ := k
  apply pw_below_drewN
  exact h

set_option maxHeartbeats 4000000 in
set_option maxRecDepth 100000 in
theorem read_at {w : World} {b : Nat} {d : Dev} {g : Lay} (h : DevIs w b d g) (k : Nat) (r1 r2 r3 r4 wd : Int) (q1 q2 q3 q4 : Int) (m : Nat) (n lim : Int) (hn : n = d.las.length) (hlim : (8 ≤ n ∧ Hid (lim = 8)) ∨ (n < 8 ∧ Hid (lim = n))) (hm : (m : Int) = lim) (hdec : super_Decode.f k (loads d m) = some (r1, r2, r3, r4))
    (hwd : geometry_Geometry_Words.f r1 r2 r3 = some wd) (hres : (r4 = 0 ∧ wd = n ∧ Hid (r1 = q1 ∧ r2 = q2 ∧ r3 = q3 ∧ 0 = q4)) ∨ (r4 = 0 ∧ wd ≠ n ∧ Hid (0 = q1 ∧ 0 = q2 ∧ 0 = q3 ∧ 2 = q4)) ∨ (r4 = 2 ∧ Hid (wd = wd) ∧ Hid (0 = q1 ∧ 0 = q2 ∧ 0 = q3 ∧ 2 = q4))) :
    Calls Try.prog 23 #[.pointer (some ⟨b, 0, none⟩)] w fun e w' => e = .returned (.tuple #[.agg #[.int .i64 q1, .int .i64 q2, .int .i64 q3], .int .i64 q4]) ∧ Below w.heap.size w w' := by
  have HD := Aside0.mk h
  clear h
  have HL : ∀ W, DevIs W b d g → Calls Try.prog 12 #[.pointer (some ⟨b, 0, none⟩)] W fun e w' => e = .returned (.int .i64 n) ∧ W = w' := by
    intro W hW
    rw [hn]
    exact len_any hW
  have hHn := Lib.hid hn
  have hHm := Lib.hid hm
  have hHdec := Lib.hid hdec
  have hHwd := Lib.hid hwd
  clear hn hm hdec hwd
  rcases hlim with ⟨h8, hlim⟩ | ⟨h8, hlim⟩
  all_goals
    go_enter Try.func23, Try.ntmps23
    go_wp2_with (first |
      ((with_reducible refine gate_dst (N := 2) rfl ?_); refine box_event ?hg (N := 2) ?hd (cs := #[.int .i64 0, .int .i64 0, .int .i64 0]) (t := 31) ?hr ?_; (case hd => rfl); (case hg => rfl); (case hr => first | (go_simp; done) | (go_simp; rfl)); intro gb hg w1 hbox hb; have HX := Aside0.mk (DevIs.below HD.out hb); have HB0 := Aside0.mk hb; have BK0 := Aside0.mk hbox; have HG := Aside0.mk hg; clear HD hb hbox hg; have hl := HL _ HX.out) |
      (go_at_call 12; refine hl.mono ?_; rintro e w2 ⟨rfl, rfl⟩; clear hl))
    go_loopw [4, 11] (fun c4 c11 wr => ∃ i : Nat, i ≤ m ∧ c11 = .int .i64 i ∧ Hid (Kd.R (Kd.int .u64) 26 wr w1.heap.size (fun _ => True) c4 (loads d i)) ∧ Hid (Below w1.heap.size w1 wr)) (fun _ c11 _ => (8 - intOf c11).toNat)
    case atStart => exact ⟨0, Nat.zero_le _, rfl, Kd.R_nil _ _ _ _ _, Below.refl _ _⟩
    case round =>
      obtain ⟨i, hi, rfl, HR, HB⟩ := hrel
      by_cases hlt : i < m
      · have cb : decide ((i : Int) < lim) = true := decide_eq_true (by rw [← hHm.out]; omega)
        rw [hlim.out] at cb
        have HI := Lib.hid hlt
        have H8 : Hid (i < 8) := by
          have h1 := hHm.out
          have h2 := hlim.out
          show i < 8
          omega
        clear hlt hi
        have hld := load_any (DevIs.below HX.out HB.out) (i : Int)
        obtain ⟨Ao, co, eo⟩ := Kd.R_slice HR.out
        subst eo
        obtain ⟨y, hy⟩ : ∃ y, y = d.load (i : Int) := ⟨_, rfl⟩
        rw [← hy] at hld
        have HY := Lib.hid hy
        clear hy
        go_wp2_with (first |
          (go_at_call 13; refine hld.mono ?_; rintro e w3 ⟨rfl, hw3⟩; have HR3 := Lib.hid (R_dr HR.out hw3); have HB3 := Lib.hid (below_dr HB.out hw3); clear HR HB hw3 hld) |
          ((with_reducible refine gate_builtin (b := .append) (xs := #[.tmp 14, .tmp 18]) rfl ?_); at_builtin; refine Kd.R_append (Kd.int .u64) (w0 := w1) w1.heap.size rfl (.tmp 14) (.tmp 18) 32 26 (.int .u64 0) 8 rfl Try.underlying32 info26 rfl (by decide) (by omega) (.slice Ao (loads d i).length co) (loads d i) y [.int .u64 y] (fun _ => True) (fun _ => False) rfl rfl ?aP (fun _ hk => hk.elim) ?aF ?aO ?aB ?aS ?aL ?_; (case aP => exact rfl); (case aB => exact HB3.out); (case aF => exact (fun _ _ => trivial)); (case aO => exact HR3.out); (case aS => exact HB3.out.size); (case aL => have := H8.out; rw [loads_length]; omega); intro v148 w16 ho hb hg hat; have HR4 := Lib.hid ho; have HB4 := Lib.hid hb; clear HR3 HB3 ho hb hg hat))
        have hw : wrap64 ((i : Int) + 1) = ((i + 1 : Nat) : Int) := by
          have := H8.out
          unfold wrap64
          omega
        have hme : (8 - ((i + 1 : Nat) : Int)).toNat < (8 - (i : Int)).toNat := by
          have := H8.out
          omega
        go_roundw
        case rel => exact ⟨i + 1, HI.out, by rw [hw], by show Kd.R _ _ _ _ _ _ _; rw [loads_succ, ← HY.out]; exact HR4.out, HB4⟩
        case measure =>
          rw [hw]
          exact hme
      · obtain rfl : i = m := by omega
        have cb : decide ((i : Int) < lim) = false := decide_eq_false (by rw [← hHm.out]; omega)
        rw [hlim.out] at cb
        clear hlt hi
        obtain ⟨Ao, co, eo⟩ := Kd.R_slice HR.out
        subst eo
        have HC := Lib.hid (Kd.R_reads' HR.out).2
        go_upto_region 8 with (first |
          (go_at_call 20; (with_reducible refine (super_Decode.calls k _ _ (loads d i) r1 r2 r3 r4 _ ?side1 ?side2 hHdec.out).mono ?_); (case side1 => exact HC.out.2); (case side2 => exact HC.out.1); rintro e w5 ⟨rfl, hb⟩; have HB5 := Lib.hid (below_below HB.out.size HB.out hb); clear HR HB HC hb))
        obtain ⟨w6, hw6⟩ : ∃ w6, w6 = w5.alloc (.cells #[.int .i64 r1, .int .i64 r2, .int .i64 r3] 31) := ⟨_, rfl⟩
        have HB6 : Hid (Below w1.heap.size w1 w6) := by
          rw [hw6]
          apply below_alloc HB5.out
        have BK6 : Aside0 (w6.heap[w5.heap.size]? = some (.cells #[.int .i64 r1, .int .i64 r2, .int .i64 r3] 31 (0, 0))) := ⟨by rw [hw6]; exact alloc_new _ _⟩
        have BR6 := Aside0.mk (blk_below (g := gb) BK0.out HB6.out)
        have g65 : Hid (w1.heap.size ≤ w5.heap.size) := HB5.out.size
        rw [← hw6]
        clear hw6 HB5
        generalize w5.heap.size = g6 at *
        have hcz0 : w6.cell? ⟨g6, 0, none⟩ = some (.int .i64 r1) := (blk_cell BK6.out 0).trans rfl
        have hcz1 : w6.cell? ⟨g6, 1, none⟩ = some (.int .i64 r2) := (blk_cell BK6.out 1).trans rfl
        have hcz2 : w6.cell? ⟨g6, 2, none⟩ = some (.int .i64 r3) := (blk_cell BK6.out 2).trans rfl
        rcases hres with ⟨h0, hwn, hq⟩ | ⟨h0, hwn, hq⟩ | ⟨h0, hwn, hq⟩
        · obtain ⟨rfl, rfl, rfl, rfl⟩ := hq.out
          have hne : (n != wd) = false := bne_eq_false_iff_eq.mpr hwn.symm
          subst h0
          clear hwn hq
          go_region_with (first |
            (go_at_call 12; refine (HL _ ?hX).mono ?_; (case hX => exact DevIs.below HX.out (by repeat (first | (with_reducible first | exact HB6.out | apply below_alloc | apply pw_below_drewN | apply below_drew1) | exact HB6.out))); rintro e w7 ⟨rfl, rfl⟩) |
            (go_at_call 49; refine (geometry_Geometry_Words.calls r1 r2 r3 wd _ hHwd.out).mono ?_; rintro e w8 ⟨rfl, hb⟩; have BK8 := Aside0.mk (blk_below (g := g6) (by (with_reducible repeat (first | refine blk_drewN ?_ _ | refine blk_drew ?_ | refine blk_alloc ?_ _)); exact BK6.out) hb); have HB8 := Lib.hid (below_step (w := w1) (by repeat (first | (with_reducible first | exact HB6.out | apply below_alloc | apply pw_below_drewN | apply below_drew1) | exact HB6.out)) hb); have BR8 := Aside0.mk (blk_below (g := gb) (by (with_reducible repeat (first | refine blk_drewN ?_ _ | refine blk_drew ?_ | refine blk_alloc ?_ _)); exact BR6.out) hb); clear hb BK6 HB6 BR6 hcz0 hcz1 hcz2; have hcz0 : w8.cell? ⟨g6, 0, none⟩ = some (.int .i64 r1) := (blk_cell BK8.out 0).trans rfl; have hcz1 : w8.cell? ⟨g6, 1, none⟩ = some (.int .i64 r2) := (blk_cell BK8.out 1).trans rfl; have hcz2 : w8.cell? ⟨g6, 2, none⟩ = some (.int .i64 r3) := (blk_cell BK8.out 2).trans rfl; have hgz0 : w8.cell? ⟨gb, 0, none⟩ = some (.int .i64 0) := (blk_cell BR8.out 0).trans rfl; have hgz1 : w8.cell? ⟨gb, 1, none⟩ = some (.int .i64 0) := (blk_cell BR8.out 1).trans rfl; have hgz2 : w8.cell? ⟨gb, 2, none⟩ = some (.int .i64 0) := (blk_cell BR8.out 2).trans rfl; have hfz0 := blk_frozen BR8.out 0; have hfz1 := blk_frozen BR8.out 1; have hfz2 := blk_frozen BR8.out 2))
          all_goals
            have GE : w.heap.size ≤ gb := by rw [HG.out]; exact Nat.le_refl _
            have HBZ := below_below HB0.out.size HB0.out HB8.out
            go_wp2
            refine bodyPost_ret (results_ct rfl _ _ gb 31 #[.int .i64 r1, .int .i64 r2, .int .i64 r3] (0, 0) _ rfl (by (with_reducible repeat (first | refine blk_drewN ?_ _ | refine blk_drew ?_ | refine blk_alloc ?_ _)); refine blk_put (cs := #[.int .i64 r1, .int .i64 r2, .int .i64 0]) ?_ 2 _ rfl; (with_reducible repeat (first | refine blk_drewN ?_ _ | refine blk_drew ?_ | refine blk_alloc ?_ _)); refine blk_put (cs := #[.int .i64 r1, .int .i64 0, .int .i64 0]) ?_ 1 _ rfl; (with_reducible repeat (first | refine blk_drewN ?_ _ | refine blk_drew ?_ | refine blk_alloc ?_ _)); refine blk_put (cs := #[.int .i64 0, .int .i64 0, .int .i64 0]) ?_ 0 _ rfl; (with_reducible repeat (first | refine blk_drewN ?_ _ | refine blk_drew ?_ | refine blk_alloc ?_ _)); exact BR8.out) Try.underlying31 rfl (by kernel_rfl)) rfl ?_
            exact ⟨by first | rfl | (simp [*]; done), by repeat (first | (with_reducible first | exact HBZ | apply below_alloc | apply pw_below_drewN | apply below_drew1 | refine below_set ?_ GE) | exact HBZ)⟩
        · obtain ⟨rfl, rfl, rfl, rfl⟩ := hq.out
          have hne : (n != wd) = true := bne_iff_ne.mpr (fun e => hwn e.symm)
          subst h0
          clear hwn hq
          go_region_with (first |
            (go_at_call 12; refine (HL _ ?hX).mono ?_; (case hX => exact DevIs.below HX.out (by repeat (first | (with_reducible first | exact HB6.out | apply below_alloc | apply pw_below_drewN | apply below_drew1) | exact HB6.out))); rintro e w7 ⟨rfl, rfl⟩) |
            (go_at_call 49; refine (geometry_Geometry_Words.calls r1 r2 r3 wd _ hHwd.out).mono ?_; rintro e w8 ⟨rfl, hb⟩; have BK8 := Aside0.mk (blk_below (g := g6) (by (with_reducible repeat (first | refine blk_drewN ?_ _ | refine blk_drew ?_ | refine blk_alloc ?_ _)); exact BK6.out) hb); have HB8 := Lib.hid (below_step (w := w1) (by repeat (first | (with_reducible first | exact HB6.out | apply below_alloc | apply pw_below_drewN | apply below_drew1) | exact HB6.out)) hb); have BR8 := Aside0.mk (blk_below (g := gb) (by (with_reducible repeat (first | refine blk_drewN ?_ _ | refine blk_drew ?_ | refine blk_alloc ?_ _)); exact BR6.out) hb); clear hb BK6 HB6 BR6 hcz0 hcz1 hcz2; have hcz0 : w8.cell? ⟨g6, 0, none⟩ = some (.int .i64 r1) := (blk_cell BK8.out 0).trans rfl; have hcz1 : w8.cell? ⟨g6, 1, none⟩ = some (.int .i64 r2) := (blk_cell BK8.out 1).trans rfl; have hcz2 : w8.cell? ⟨g6, 2, none⟩ = some (.int .i64 r3) := (blk_cell BK8.out 2).trans rfl; have hgz0 : w8.cell? ⟨gb, 0, none⟩ = some (.int .i64 0) := (blk_cell BR8.out 0).trans rfl; have hgz1 : w8.cell? ⟨gb, 1, none⟩ = some (.int .i64 0) := (blk_cell BR8.out 1).trans rfl; have hgz2 : w8.cell? ⟨gb, 2, none⟩ = some (.int .i64 0) := (blk_cell BR8.out 2).trans rfl; have hfz0 := blk_frozen BR8.out 0; have hfz1 := blk_frozen BR8.out 1; have hfz2 := blk_frozen BR8.out 2))
          all_goals
            have GE : w.heap.size ≤ gb := by rw [HG.out]; exact Nat.le_refl _
            have HBZ := below_below HB0.out.size HB0.out HB8.out
            go_wp2
            refine bodyPost_ret (results_ct rfl _ _ gb 31 #[.int .i64 0, .int .i64 0, .int .i64 0] (0, 0) _ rfl (by (with_reducible repeat (first | refine blk_drewN ?_ _ | refine blk_drew ?_ | refine blk_alloc ?_ _)); refine blk_put (cs := #[.int .i64 0, .int .i64 0, .int .i64 0]) ?_ 2 _ rfl; (with_reducible repeat (first | refine blk_drewN ?_ _ | refine blk_drew ?_ | refine blk_alloc ?_ _)); refine blk_put (cs := #[.int .i64 0, .int .i64 0, .int .i64 0]) ?_ 1 _ rfl; (with_reducible repeat (first | refine blk_drewN ?_ _ | refine blk_drew ?_ | refine blk_alloc ?_ _)); refine blk_put (cs := #[.int .i64 0, .int .i64 0, .int .i64 0]) ?_ 0 _ rfl; (with_reducible repeat (first | refine blk_drewN ?_ _ | refine blk_drew ?_ | refine blk_alloc ?_ _)); exact BR8.out) Try.underlying31 rfl (by kernel_rfl)) rfl ?_
            exact ⟨by first | rfl | (simp [*]; done), by repeat (first | (with_reducible first | exact HBZ | apply below_alloc | apply pw_below_drewN | apply below_drew1 | refine below_set ?_ GE) | exact HBZ)⟩
        · obtain ⟨rfl, rfl, rfl, rfl⟩ := hq.out
          subst h0
          clear hwn hq
          have hgz0 : w6.cell? ⟨gb, 0, none⟩ = some (.int .i64 0) := (blk_cell BR6.out 0).trans rfl
          have hgz1 : w6.cell? ⟨gb, 1, none⟩ = some (.int .i64 0) := (blk_cell BR6.out 1).trans rfl
          have hgz2 : w6.cell? ⟨gb, 2, none⟩ = some (.int .i64 0) := (blk_cell BR6.out 2).trans rfl
          have hfz0 := blk_frozen BR6.out 0
          have hfz1 := blk_frozen BR6.out 1
          have hfz2 := blk_frozen BR6.out 2
          go_quiet (fail)
          all_goals
            have GE : w.heap.size ≤ gb := by rw [HG.out]; exact Nat.le_refl _
            have HBZ := below_below HB0.out.size HB0.out HB6.out
            go_wp2
            refine bodyPost_ret (results_ct rfl _ _ gb 31 #[.int .i64 0, .int .i64 0, .int .i64 0] (0, 0) _ rfl (by (with_reducible repeat (first | refine blk_drewN ?_ _ | refine blk_drew ?_ | refine blk_alloc ?_ _)); refine blk_put (cs := #[.int .i64 0, .int .i64 0, .int .i64 0]) ?_ 2 _ rfl; (with_reducible repeat (first | refine blk_drewN ?_ _ | refine blk_drew ?_ | refine blk_alloc ?_ _)); refine blk_put (cs := #[.int .i64 0, .int .i64 0, .int .i64 0]) ?_ 1 _ rfl; (with_reducible repeat (first | refine blk_drewN ?_ _ | refine blk_drew ?_ | refine blk_alloc ?_ _)); refine blk_put (cs := #[.int .i64 0, .int .i64 0, .int .i64 0]) ?_ 0 _ rfl; (with_reducible repeat (first | refine blk_drewN ?_ _ | refine blk_drew ?_ | refine blk_alloc ?_ _)); exact BR6.out) Try.underlying31 rfl (by kernel_rfl)) rfl ?_
            exact ⟨by first | rfl | (simp [*]; done), by repeat (first | (with_reducible first | exact HBZ | apply below_alloc | apply pw_below_drewN | apply below_drew1 | refine below_set ?_ GE) | exact HBZ)⟩

end Go.Proofs.Ytlokklfkiechdaa.Rd
