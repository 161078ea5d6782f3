/- Parts of the proof, one behind the other: Vo, Vr, Rc, Rg, Rh, Wp, Ma, Lx, Lv, Ly, Lp, Lw, Lq, Lr, Ri, Ls, Vt, Md, Is, Jh. -/
import Derived.Test.YtgnagbbdnlmgeaaGreatL11
import Derived.Test.YtgnagbbdnlmgeaaGreatL08
import Derived.Test.YtgnagbbdnlmgeaaGreatL05
import Derived.Test.YtgnagbbdnlmgeaaGreatL10
import Derived.Test.YtgnagbbdnlmgeaaGreatL03
import Derived.Test.YtgnagbbdnlmgeaaGreatL02
import Derived.RegionTactic
import Derived.BigRegion
import Derived.Test.YtgnagbbdnlmgeaaGreatL06
import Derived.Test.YtgnagbbdnlmgeaaGreatL07
import Derived.Test.YtgnagbbdnlmgeaaGreatL04
import Derived.Test.YtgnagbbdnlmgeaaGreatL09
import Derived.Test.YtgnagbbdnlmgeaaGreatL01
import Derived.Lib.AppendZerosOnto
import Derived.Deep.RegionHeld3
set_option linter.unusedVariables false
set_option linter.unusedSimpArgs false
set_option linter.unusedSectionVars false
section
set_option maxHeartbeats 2000000
set_option maxRecDepth 100000
namespace Go.Proofs.YtgnagbbdnlmgeaaGreat.Vo
open Go Go.RowKit
open Ob Ba Oc Pk Dv Su Mp Ge Lo Ko
def volObj (b n m s : Nat) : Obj := .cells #[.pointer (some ⟨b, 0, none⟩), .int .i64 n, .int .i64 m, .int .i64 s] 140 (0, 0)
structure VolIs (w : World) (v b n m s : Nat) (d : Dev) (g : Lay) : Prop where
  blk : w.heap[v]? = some (volObj b n m s)
  dev : DevIs w b d g
  ok : geoOk n m s = true
  len : (d.las.length : Int) = tot n m s
theorem VolIs.cells {w : World} {v b n m s : Nat} {d : Dev} {g : Lay} (h : VolIs w v b n m s d g) :
    w.cell? ⟨v, 0, none⟩ = some (.pointer (some ⟨b, 0, none⟩)) ∧ w.cell? ⟨v, 1, none⟩ = some (.int .i64 n) ∧ w.cell? ⟨v, 2, none⟩ = some (.int .i64 m) ∧ w.cell? ⟨v, 3, none⟩ = some (.int .i64 s) :=
  ⟨cell_of h.blk 0, cell_of h.blk 1, cell_of h.blk 2, cell_of h.blk 3⟩
theorem VolIs.below {w w' : World} {v b n m s : Nat} {d : Dev} {g : Lay} (h : VolIs w v b n m s d g) (hb : Below w.heap.size w w') : VolIs w' v b n m s d g :=
  ⟨blk_bl h.blk hb, h.dev.below hb, h.ok, h.len⟩
theorem VolIs.apart {w : World} {v b n m s : Nat} {d : Dev} {g : Lay} (h : VolIs w v b n m s d g) : v ∉ g.foot b := not_foot h.dev h.blk (by decide) (by decide) (by decide)
theorem VolIs.to {w w' : World} {v b n m s : Nat} {d d' : Dev} {g : Lay} (h : VolIs w v b n m s d g) (k : DevTo w w' b g d') (hl : d'.las.length = d.las.length) : ∃ g', VolIs w' v b n m s d' g' ∧ (∀ q ∈ g'.foot b, q ∈ g.foot b ∨ w.heap.size ≤ q) ∧ Upd (g.foot b) w w' := by
  obtain ⟨g', h1, h2, h3⟩ := k
  exact ⟨g', ⟨h3.blk h.blk h.apart, h1, h.ok, by rw [hl]; exact h.len⟩, h2, h3⟩
theorem device_ {w : World} {v b n m s : Nat} {d : Dev} {g : Lay} (h : VolIs w v b n m s d g) :
    Calls Tryz.prog 16 #[.pointer (some ⟨v, 0, none⟩)] w fun e w' => e = .returned (.pointer (some ⟨b, 0, none⟩)) ∧ w' = w := by
  obtain ⟨c0, c1, c2, c3⟩ := h.cells
  clear h
  go_enter Tryz.func16, Tryz.ntmps16
  go_wp2
  go_ret
  exact ⟨rfl, rfl⟩
theorem open_ok {w : World} {b : Nat} {d : Dev} {g : Lay} (h : DevIs w b d g) (n m s : Nat) (hok : geoOk n m s = true) (hn : n < 65536) (hm : m < 65536) (hs : s < 65536) (hlen : (d.las.length : Int) = tot n m s) (h8 : 8 ≤ d.las.length)
    (hl : ∀ (i : Nat) x, (enc n m s)[i]? = some x → d.load i = (x : Int)) :
    Calls Tryz.prog 74 #[.pointer (some ⟨b, 0, none⟩)] w fun e w' => ∃ v, e = .returned (.tuple #[.pointer (some ⟨v, 0, none⟩), .int .i64 0]) ∧ w.heap.size ≤ v ∧ VolIs w' v b n m s d g ∧ Below w.heap.size w w' := by
  have hu := Tryz.underlying140
  have HR := Lib.hid (read_ok h n m s hok hn hm hs hlen h8 hl)
  have HD := Lib.hid h
  have HO := Lib.hid (And.intro hok hlen)
  clear h hok hn hm hs hlen h8 hl
  go_enter Tryz.func74, Tryz.ntmps74
  go_wp2_with fail
  refine HR.out.mono ?_
  rintro e w1 ⟨rfl, hb⟩
  have HB := Lib.hid hb
  clear hb HR
  go_wp2_with fail
  go_ret2
  have hb2 : Below w1.heap.size w1 (w1.alloc (.cells #[.int .i64 n, .int .i64 m, .int .i64 s] 34)) := bl_alloc (Below.refl _ _) _
  refine ⟨w1.heap.size + 1, rfl, by have := HB.out.size; omega, ⟨?_, ?_, HO.out.1, HO.out.2⟩, bl_alloc (bl_alloc HB.out _) _⟩
  · have := alloc_new (w1.alloc (.cells #[.int .i64 n, .int .i64 m, .int .i64 s] 34)) (volObj b n m s)
    rw [World.size_alloc] at this
    exact this
  · exact HD.out.below (bl_alloc (bl_alloc HB.out _) _)
theorem plc_no {a i k : Int} (h : i < 0 ∨ k ≤ i) : plc a i k = -1 := by
  unfold plc
  rw [if_neg]
  omega
theorem plc_yes {a i k : Int} (h : 0 ≤ i ∧ i < k) : plc a i k = a := by
  unfold plc
  rw [if_pos h]
theorem setslot_yes {w : World} {v b n m s : Nat} {d : Dev} {g : Lay} (h : VolIs w v b n m s d g) (hst : d.steps ≤ 1000000000) (i x y z : Int) (hi : 0 ≤ i ∧ i < (n : Int)) (hmay : sMay x y z = true) (k : Nat) (hk : (k : Int) = 16 + 8 * (m : Int) + i)
    (R : Dev × Option Nat) (hR : putGo true [(sEnc x y z : Int)] k ⟨d, 0, []⟩ = R) :
    Calls Tryz.prog 41 #[.pointer (some ⟨v, 0, none⟩), .int .i64 i, .agg #[.int .i64 x, .int .i64 y, .int .i64 z]] w fun e w' => e = .returned (.int .i64 (ecode R)) ∧ DevTo w w' b g R.1 := by
  have hu := Tryz.underlying51
  have hsl := slot_ n m s i h.ok
  rw [plc_yes hi, ← hk] at hsl
  have hin := inB_out (ok_out h.ok).1
  have hk9 : k ≤ 1000000000 := by omega
  have HS := Lib.hid hsl
  have HE := Lib.hid (encode_yes x y z hmay)
  have HV := Lib.hid h
  have HST := Lib.hid hst
  have HR := Lib.hid hR
  have HK9 := Lib.hid hk9
  have h2 := h.below (bl_alloc (Below.refl _ _) (.cells #[.int .i64 x, .int .i64 y, .int .i64 z] 51))
  obtain ⟨c0, c1, c2, c3⟩ := h2.cells
  clear h h2 hi hsl hk hmay hin hst hR hk9
  generalize sEnc x y z = t at *
  go_enter Tryz.func41, Tryz.ntmps41
  go_wp2_with (first | (go_at_call 80; refine (HS.out _).mono ?_; rintro e w1 ⟨rfl, hb⟩; (have hq := blk_bl (alloc_new w (.cells #[.int .i64 x, .int .i64 y, .int .i64 z] 51)) hb); (have m0 := cell_of hq 0); (have m1 := cell_of hq 1); (have m2 := cell_of hq 2); (have HB := Lib.hid hb); clear hb hq) |
    (go_at_call 103; refine (HE.out _).mono ?_; rintro e w2 ⟨rfl, hb⟩; (have HB2 := Lib.hid (bl_then (bl_then (bl_alloc (Below.refl _ _) _) HB.out) hb)); (have HV2 := Lib.hid (HV.out.below HB2.out)); (have n0 := HV2.out.cells.1); clear hb HB))
  have hb3 : Below w2.heap.size w2 (w2.alloc (.cells #[.int .u64 t] 94)) := bl_alloc (Below.refl _ _) _
  have hrk : Rk .u64 (w2.alloc (.cells #[.int .u64 t] 94)) (some ⟨w2.heap.size, 0, none⟩) [(t : Int)] := by
    refine blk_rk (alloc_new w2 (.cells #[.int .u64 t] 94)) fun j u hu => ?_
    match j with
    | 0 => simpa using hu
    | j + 1 => simp at hu
  have hput := put_all (HV2.out.below hb3).dev hrk (fun p hp hm => by
    cases hp
    exact Nat.lt_irrefl _ (HV2.out.dev.lt _ hm)) k 1 HK9.out (by simp) HST.out R HR.out
  refine hput.mono ?_
  rintro e w4 ⟨rfl, hto⟩
  have HTO := Lib.hid hto
  clear hput hto
  go_wp2_with fail
  go_ret
  exact ⟨rfl, by
    obtain ⟨g2, q1, q2, q3⟩ := HTO.out
    have hbb := bl_then HB2.out hb3
    refine ⟨g2, q1, fun u hu => ?_, (Upd.of_below (F := g.foot b) hbb).trans q3 (fun u hu => .inl hu)⟩
    rcases q2 u hu with r | r
    · exact .inl r
    · exact .inr (Nat.le_trans hbb.size r)⟩
end Go.Proofs.YtgnagbbdnlmgeaaGreat.Vo
end
section
set_option maxHeartbeats 2000000
set_option maxRecDepth 100000
namespace Go.Proofs.YtgnagbbdnlmgeaaGreat.Vo
open Go Go.RowKit
open Ob Ba Oc Pk Dv Su Mp Ge Lo Ko
theorem slot_get {w : World} {v b n m s : Nat} {d : Dev} {g : Lay} (h : VolIs w v b n m s d g) (i : Int) (hi : 0 ≤ i ∧ i < (n : Int)) (k : Nat) (hk : (k : Int) = 16 + 8 * (m : Int) + i) (x : Nat) (hx : x < 18446744073709551616) (hl : d.load k = (x : Int)) (S : Int × Int × Int × Int)
    (hS : ∀ e, SDec x (pa x) (pb x) (pc x) e → e = .returned (.tuple #[.agg #[.int .i64 S.1, .int .i64 S.2.1, .int .i64 S.2.2.1], .int .i64 S.2.2.2])) :
    Calls Tryz.prog 21 #[.pointer (some ⟨v, 0, none⟩), .int .i64 i] w fun e w' => e = .returned (.tuple #[.agg #[.int .i64 S.1, .int .i64 S.2.1, .int .i64 S.2.2.1], .int .i64 S.2.2.2]) ∧ Below w.heap.size w w' := by
  have hu := Tryz.underlying51
  have hsl := slot_ n m s i h.ok
  rw [plc_yes hi, ← hk] at hsl
  have HS := Lib.hid hsl
  have HV := Lib.hid h
  have HDC : Hid (∀ w, Calls Tryz.prog 81 #[.int .u64 x] w fun e w' => e = .returned (.tuple #[.agg #[.int .i64 S.1, .int .i64 S.2.1, .int .i64 S.2.2.1], .int .i64 S.2.2.2]) ∧ Below w.heap.size w w') :=
    fun w => (decode_ x hx _ _ _ rfl rfl rfl w).mono fun e w' he => ⟨hS e he.1, he.2⟩
  have HLD : Hid (∀ W, DevIs W b d g → Calls Tryz.prog 82 #[.pointer (some ⟨b, 0, none⟩), .int .i64 k] W fun e w' => e = .returned (.int .u64 x) ∧ ∃ n, w' = W.drewN n) := by
    intro W hW
    have h9 := Go.Proofs.YtgnagbbdnlmgeaaGreat.Pm.load_any hW (k : Int)
    rw [hl] at h9
    exact h9
  have h2 := h.below (bl_alloc (Below.refl _ _) (.cells #[.int .i64 0, .int .i64 0, .int .i64 0] 51))
  obtain ⟨c0, c1, c2, c3⟩ := h2.cells
  clear h h2 hi hsl hk hS hl
  obtain ⟨s1, s2, s3, s4⟩ := S
  go_enter Tryz.func21, Tryz.ntmps21
  go_wp2_with (first | (go_at_call 80; refine (HS.out _).mono ?_; rintro e w1 ⟨rfl, hb⟩; (have hq := blk_bl (alloc_new w (.cells #[.int .i64 0, .int .i64 0, .int .i64 0] 51)) hb); (have HQ := Lib.hid hq); (have HB := Lib.hid (bl_then (bl_alloc (Below.refl _ _) _) hb)); (have HV2 := Lib.hid (HV.out.below HB.out)); (have n0 := HV2.out.cells.1); clear hb hq) |
    (go_at_call 82; refine (HLD.out _ HV2.out.dev).mono ?_; rintro e w2 ⟨rfl, q, hw2⟩; (have HW2 : Hid (Below w1.heap.size w1 w2) := by rw [hw2]; exact bl_drewN (Below.refl _ _) q); clear hw2) |
    (go_at_call 81; refine (HDC.out _).mono ?_; rintro e w3 ⟨rfl, hb⟩; (have HB3 := Lib.hid (bl_then HW2.out hb)); (have hq3 := blk_bl HQ.out HB3.out); (have l0 := cell_of hq3 0); (have l1 := cell_of hq3 1); (have l2 := cell_of hq3 2); (have f0 := free_of hq3 0); (have f1 := free_of hq3 1); (have f2 := free_of hq3 2); (have HQ3 := Lib.hid hq3); clear hb hq3))
  exact bodyPost_ret (res_ct (u := 5) rfl _ _ w.heap.size 51 #[.int .i64 s1, .int .i64 s2, .int .i64 s3] (0, 0) _ rfl (put3 HQ3.out _ _ _) hu rfl (by kernel_rfl)) rfl ⟨rfl, bl_put3 (bl_then HB.out HB3.out) (Nat.le_refl _) _ _ _⟩
theorem slot_out {w : World} {v b n m s : Nat} {d : Dev} {g : Lay} (h : VolIs w v b n m s d g) (i : Int) (hi : i < 0 ∨ (n : Int) ≤ i) :
    Calls Tryz.prog 21 #[.pointer (some ⟨v, 0, none⟩), .int .i64 i] w fun e w' => e = .returned (.tuple #[.agg #[.int .i64 0, .int .i64 0, .int .i64 0], .int .i64 9]) ∧ Below w.heap.size w w' := by
  have hu := Tryz.underlying51
  have hsl := slot_ n m s i h.ok
  rw [plc_no hi] at hsl
  have HS := Lib.hid hsl
  have h2 := h.below (bl_alloc (Below.refl _ _) (.cells #[.int .i64 0, .int .i64 0, .int .i64 0] 51))
  obtain ⟨c0, c1, c2, c3⟩ := h2.cells
  clear h h2 hi hsl
  go_enter Tryz.func21, Tryz.ntmps21
  go_wp2_with (first | (go_at_call 80; refine (HS.out _).mono ?_; rintro e w1 ⟨rfl, hb⟩; (have hq := blk_bl (alloc_new w (.cells #[.int .i64 0, .int .i64 0, .int .i64 0] 51)) hb); (have l0 := cell_of hq 0); (have l1 := cell_of hq 1); (have l2 := cell_of hq 2); (have f0 := free_of hq 0); (have f1 := free_of hq 1); (have f2 := free_of hq 2); (have HQ3 := Lib.hid hq); (have HB := Lib.hid (bl_then (bl_alloc (Below.refl _ _) _) hb)); clear hb hq))
  exact bodyPost_ret (res_ct (u := 5) rfl _ _ w.heap.size 51 #[.int .i64 0, .int .i64 0, .int .i64 0] (0, 0) _ rfl (put3 HQ3.out _ _ _) hu rfl (by kernel_rfl)) rfl ⟨rfl, bl_put3 HB.out (Nat.le_refl _) _ _ _⟩
end Go.Proofs.YtgnagbbdnlmgeaaGreat.Vo
end
section
set_option maxHeartbeats 2000000
set_option maxRecDepth 100000
namespace Go.Proofs.YtgnagbbdnlmgeaaGreat.Ra
open Go Go.RowKit
open Ob Ba Ko Ge Oc Pk Su Rf Dv Vo
theorem devOf_load {L : List Int} {i : Nat} {x : Int} (h : L[i]? = some x) : (Pm.devOf L).load (i : Int) = x := by
  have hi := (List.getElem?_eq_some_iff.1 h).1
  unfold Dev.load Dev.lasting Dev.inn Dev.find Pm.devOf
  simp [hi, h]
  exact (List.getElem?_eq_some_iff.1 h).2
theorem _root_.Go.Proofs.YtgnagbbdnlmgeaaGreat.Vo.VolIs.keep {w w' : World} {v b n m s : Nat} {d : Dev} {g : Lay} (h : VolIs w v b n m s d g) (hv : w'.heap[v]? = w.heap[v]?) (hk : ∀ k ∈ g.foot b, w'.heap[k]? = w.heap[k]?) : VolIs w' v b n m s d g :=
  ⟨hv.trans h.blk, h.dev.keep hk, h.ok, h.len⟩
theorem drew_heap (W : World) (k : Nat) : W.drew.heap[k]? = W.heap[k]? := rfl
structure Opn (w W : World) (v b n m s T : Nat) (L : List Int) (g : Lay) (vw : Value) : Prop where
  vol : VolIs W v b n m s (Pm.devOf L) g
  foot : ∀ k ∈ g.foot b, w.heap.size ≤ k
  row : W.ownsRow w.heap.size 94 1 vw T (ivs .u64 L)
  apart : ∀ k, vw.ownBlock = some k → k ∉ g.foot b
  vlo : w.heap.size ≤ v
  below : Below w.heap.size w W
end Go.Proofs.YtgnagbbdnlmgeaaGreat.Ra
end
section
set_option maxHeartbeats 2000000
set_option maxRecDepth 100000
namespace Go.Proofs.YtgnagbbdnlmgeaaGreat.Ra
open Go Go.RowKit
open Ob Ba Ko Ge Oc Pk Su Rf Dv Vo
theorem stores_any {w : World} {b : Nat} {d : Dev} {g : Lay} (h : DevIs w b d g) :
    Calls Tryz.prog 39 #[.pointer (some ⟨b, 0, none⟩)] w fun e w' => e = .returned (.int .i64 d.stores) ∧ w = w' := by
  obtain ⟨c0, c1, c2, c3, c4, c5⟩ := Pm.dev_cells h
  go_enter Tryz.func39, Tryz.ntmps39
  go_wp2
  go_ret
  exact ⟨rfl, rfl⟩
end Go.Proofs.YtgnagbbdnlmgeaaGreat.Ra
end
section
namespace Go.Proofs.YtgnagbbdnlmgeaaGreat.Ra
open Go Go.RowKit
open Ob Ba Oc Pk Rf Dv Vo
def one (L : List Int) (k : Nat) (x : Int) : Dev := ⟨2, 1, L, [((k : Int), ⟨[x], 1⟩)], none⟩
theorem put_one (L : List Int) (k : Nat) (x : Int) (hk : k < L.length) : putGo true [x] k ⟨Pm.devOf L, 0, []⟩ = (one L k x, some 1) := by
  have h1 : (Pm.devOf L).storeOk k = true := by simp [Dev.storeOk, Dev.inn, Dev.down, Pm.devOf, hk]
  have h2 : (Pm.devOf L).stored k x = ⟨1, 1, L, [((k : Int), ⟨[x], 0⟩)], none⟩ := by
    unfold Dev.stored
    rw [h1]
    simp [Dev.stepped, Pm.devOf, Dev.find]
  rw [putGo_store rfl h1, h2]
  have h3 : (⟨1, 1, L, [((k : Int), ⟨[x], 0⟩)], none⟩ : Dev).flushOk ((k / 8 : Nat) : Int) = true := by
    simp [Dev.flushOk, Dev.down]
    omega
  show flushGo (addLn [] (k / 8)) _ _ = _
  show (if Dev.flushOk _ ((k / 8 : Nat) : Int) then flushGo [] (Dev.flushed _ ((k / 8 : Nat) : Int)) _ else _) = _
  rw [if_pos h3]
  show ((Dev.flushed _ ((k / 8 : Nat) : Int)), some 1) = _
  unfold Dev.flushed
  rw [h3]
  simp [Dev.stepped, flushPen, one]
end Go.Proofs.YtgnagbbdnlmgeaaGreat.Ra
end
section
namespace Go.Proofs.YtgnagbbdnlmgeaaGreat.Wp
open Go Go.RowKit
open Ob Ba Oc Pk Rf Dv Vo
theorem find_put (k x : Int) (l : List (Int × Pen)) (j : Int) : ((putPen k x l).find? fun y => decide (y.1 = j)) = (l.find? fun y => decide (y.1 = j)).map fun y => if y.1 = k then (y.1, ⟨y.2.l ++ [x], y.2.fl⟩) else y := by
  induction l with
  | nil => rfl
  | cons y l ih =>
    unfold putPen at ih ⊢
    rw [List.map_cons, List.find?_cons, List.find?_cons, ih]
    have e : (if y.1 = k then (y.1, (⟨y.2.l ++ [x], y.2.fl⟩ : Pen)) else y).1 = y.1 := by split <;> rfl
    rw [e]
    cases decide (y.1 = j) <;> rfl
theorem find_flush (ln : Int) (l : List (Int × Pen)) (j : Int) : ((l.map (flushPen ln)).find? fun y => decide (y.1 = j)) = (l.find? fun y => decide (y.1 = j)).map (flushPen ln) := by
  induction l with
  | nil => rfl
  | cons y l ih =>
    rw [List.map_cons, List.find?_cons, List.find?_cons, ih]
    have e : (flushPen ln y).1 = y.1 := by unfold flushPen; split <;> rfl
    rw [e]
    cases decide (y.1 = j) <;> rfl
theorem stored_load {d : Dev} {a : Int} {x : Int} (h : d.storeOk a = true) (j : Int) : (d.stored a x).load j = if j = a then x else d.load j := by
  have hopn : (d.stored a x).opn = if (d.find a).isSome then putPen a x d.opn else d.opn ++ [(a, ⟨[x], 0⟩)] := by unfold Dev.stored; rw [if_pos h]
  have hlas : ∀ j, (d.stored a x).lasting j = d.lasting j := by intro j; unfold Dev.stored Dev.lasting Dev.inn; rw [if_pos h]; rfl
  unfold Dev.load
  rw [hlas]
  by_cases hf : (d.find a).isSome
  · rw [if_pos hf] at hopn
    have hfj : (d.stored a x).find j = (d.opn.find? fun y => decide (y.1 = j)).map fun y => (if y.1 = a then (y.1, (⟨y.2.l ++ [x], y.2.fl⟩ : Pen)) else y).2 := by
      unfold Dev.find; rw [hopn, find_put, Option.map_map]; rfl
    rw [hfj]
    unfold Dev.find
    cases hq : d.opn.find? fun y => decide (y.1 = j) with
    | none =>
      by_cases hj : j = a
      · subst hj
        unfold Dev.find at hf
        rw [hq] at hf
        cases hf
      · rw [if_neg hj]; rfl
    | some y =>
      have hy : y.1 = j := by simpa using List.find?_some hq
      by_cases hj : j = a
      · rw [if_pos hj]
        simp [hy, hj]
      · rw [if_neg hj]
        simp [hy, hj]
  · rw [if_neg hf] at hopn
    have hfj : (d.stored a x).find j = ((d.opn.find? fun y => decide (y.1 = j)).or (if a = j then some (a, ⟨[x], 0⟩) else none)).map (·.2) := by
      unfold Dev.find; rw [hopn, List.find?_append]
      by_cases hj : a = j <;> simp [hj]
    rw [hfj]
    by_cases hj : j = a
    · subst hj
      have : d.opn.find? (fun y => decide (y.1 = j)) = none := by
        unfold Dev.find at hf
        cases hq : d.opn.find? fun y => decide (y.1 = j) with
        | none => rfl
        | some y => rw [hq] at hf; exact absurd rfl hf
      rw [this]
      simp
    · rw [if_neg hj, if_neg (fun e => hj e.symm)]
      unfold Dev.find
      cases d.opn.find? fun y => decide (y.1 = j) <;> rfl
theorem flushed_load (d : Dev) (ln j : Int) : (d.flushed ln).load j = d.load j := by
  unfold Dev.flushed
  split
  · unfold Dev.load Dev.find Dev.lasting Dev.inn
    show (match ((d.opn.map (flushPen ln)).find? fun y => decide (y.1 = j)).map (·.2) with | some p => _ | none => _) = _
    rw [find_flush, Option.map_map]
    cases d.opn.find? fun y => decide (y.1 = j) with
    | none => rfl
    | some y =>
      show (flushPen ln y).2.l.getD ((flushPen ln y).2.l.length - 1) 0 = y.2.l.getD (y.2.l.length - 1) 0
      have e : (flushPen ln y).2.l = y.2.l := by unfold flushPen; split <;> rfl
      rw [e]
  · rfl
theorem flushed_words (d : Dev) (ln : Int) : Pm.wordsOf (d.flushed ln) = Pm.wordsOf d := by
  rw [Pm.wordsOf_eq, Pm.wordsOf_eq]
  have e : (d.flushed ln).las = d.las := by unfold Dev.flushed; split <;> rfl
  rw [e]
  congr 1
  funext i
  exact flushed_load d ln i
theorem ok_store {d : Dev} (hf : d.fuse = none) {a : Nat} (ha : a < d.las.length) : d.storeOk a = true := by
  have h2 : d.down = false := by unfold Dev.down; rw [hf]; rfl
  unfold Dev.storeOk Dev.inn
  rw [h2]
  simp [ha]
theorem ok_flush {d : Dev} (hf : d.fuse = none) {a : Nat} (ha : 8 * a < d.las.length) : d.flushOk a = true := by
  have h2 : d.down = false := by unfold Dev.down; rw [hf]; rfl
  unfold Dev.flushOk
  rw [h2]
  simp
  omega
theorem stored_words {d : Dev} (hf : d.fuse = none) {a : Nat} (ha : a < d.las.length) (x : Int) : Pm.wordsOf (d.stored a x) = (Pm.wordsOf d).set a x := by
  have hok := ok_store hf ha
  rw [Pm.wordsOf_eq, Pm.wordsOf_eq]
  have e : (d.stored a x).las = d.las := by unfold Dev.stored; rw [if_pos hok]; rfl
  rw [e]
  apply List.ext_getElem?
  intro i
  rw [List.getElem?_set, List.getElem?_map, List.getElem?_map]
  by_cases hi : i < d.las.length
  · rw [List.getElem?_range hi]
    show some ((d.stored a x).load (i : Int)) = _
    rw [stored_load hok]
    by_cases hj : a = i
    · rw [if_pos (by rw [hj]), if_pos hj]
      simp [ha]
    · rw [if_neg (by omega), if_neg hj]; rfl
  · rw [List.getElem?_eq_none (by simp; omega)]
    by_cases hj : a = i
    · omega
    · rw [if_neg hj]; rfl
structure Pt (d0 d : Dev) (L : List Int) (c q : Nat) : Prop where
  las : d.las = d0.las
  fuse : d.fuse = none
  words : Pm.wordsOf d = L
  stores : d.stores = d0.stores + c
  steps : d.steps = d0.steps + c + q
theorem Pt.stored {d0 d : Dev} {L : List Int} {c q : Nat} (h : Pt d0 d L c q) {a : Nat} (ha : a < d0.las.length) (x : Int) : Pt d0 (d.stored a x) (L.set a x) (c + 1) q := by
  have ha' : a < d.las.length := by rw [h.las]; exact ha
  have hok := ok_store h.fuse ha'
  refine ⟨?_, ?_, by rw [stored_words h.fuse ha', h.words], ?_, ?_⟩ <;> (unfold Dev.stored; rw [if_pos hok])
  · exact h.las
  · show d.fuse.map _ = none
    rw [h.fuse]; rfl
  · show d.stores + 1 = _
    rw [h.stores]; omega
  · show d.steps + 1 = _
    rw [h.steps]; omega
theorem Pt.flushed {d0 d : Dev} {L : List Int} {c q : Nat} (h : Pt d0 d L c q) {a : Nat} (ha : 8 * a < d0.las.length) : Pt d0 (d.flushed a) L c (q + 1) := by
  have hok := ok_flush h.fuse (a := a) (by rw [h.las]; exact ha)
  refine ⟨?_, ?_, by rw [flushed_words, h.words], ?_, ?_⟩ <;> (unfold Dev.flushed; rw [if_pos hok])
  · exact h.las
  · show d.fuse.map _ = none
    rw [h.fuse]; rfl
  · show d.stores + 0 = _
    rw [h.stores]; omega
  · show d.steps + 1 = _
    rw [h.steps]; omega
theorem flush_all {d0 : Dev} {L : List Int} {c : Nat} : ∀ (ls : List Nat) (d : Dev) (q k : Nat), Pt d0 d L c q → (∀ x ∈ ls, 8 * x < d0.las.length) → ∃ d', flushGo ls d k = (d', some k) ∧ Pt d0 d' L c (q + ls.length)
  | [], d, q, k, h, _ => ⟨d, rfl, h⟩
  | x :: r, d, q, k, h, hl => by
    have hx := hl x (List.mem_cons_self)
    have hok := ok_flush h.fuse (a := x) (by rw [h.las]; exact hx)
    obtain ⟨d', e, h'⟩ := flush_all r _ _ k (h.flushed hx) (fun y hy => hl y (List.mem_cons_of_mem _ hy))
    refine ⟨d', ?_, by rw [show q + (x :: r).length = q + 1 + r.length from by simp; omega]; exact h'⟩
    show (if d.flushOk x then _ else _) = _
    rw [if_pos hok, e]
def pgo (all : Bool) : List Int → Nat → List Int × Nat × List Nat → List Int × Nat × List Nat
  | [], _, s => s
  | x :: r, a, s => if !all && decide (s.1.getD a 0 = x) then pgo all r (a + 1) s else pgo all r (a + 1) (s.1.set a x, s.2.1 + 1, addLn s.2.2 (a / 8))
theorem addLn_mem {ls : List Nat} {k x : Nat} (h : x ∈ addLn ls k) : x ∈ ls ∨ x = k := by
  unfold addLn at h
  split at h
  · exact .inl h
  · simpa using h
theorem words_load {d : Dev} {a : Nat} (ha : a < d.las.length) : (Pm.wordsOf d).getD a 0 = d.load a := by
  rw [List.getD_eq_getElem?_getD, Pm.wordsOf_get d a ha]; rfl
theorem put_gen (d0 : Dev) (all : Bool) : ∀ (xs : List Int) (a : Nat) (d : Dev) (L : List Int) (c : Nat) (ls : List Nat), Pt d0 d L c 0 → a + xs.length ≤ d0.las.length → (∀ x ∈ ls, 8 * x < d0.las.length) →
    ∃ d', putGo all xs a ⟨d, c, ls⟩ = (d', some (pgo all xs a (L, c, ls)).2.1) ∧ Pt d0 d' (pgo all xs a (L, c, ls)).1 (pgo all xs a (L, c, ls)).2.1 (pgo all xs a (L, c, ls)).2.2.length
  | [], a, d, L, c, ls, h, ha, hl => by
    obtain ⟨d', e, h'⟩ := flush_all ls d 0 c h hl
    exact ⟨d', e, by rw [Nat.zero_add] at h'; exact h'⟩
  | x :: r, a, d, L, c, ls, h, ha, hl => by
    have ha1 : a < d0.las.length := by simp at ha; omega
    have hload : L.getD a 0 = d.load a := by rw [← h.words]; exact words_load (by rw [h.las]; exact ha1)
    have hk : keepW all d a x = (!all && decide (L.getD a 0 = x)) := by unfold keepW; rw [hload]
    by_cases hb : (!all && decide (L.getD a 0 = x)) = true
    · rw [putGo_keep (hk.trans hb)]
      have e : pgo all (x :: r) a (L, c, ls) = pgo all r (a + 1) (L, c, ls) := by
        show (if (!all && decide (L.getD a 0 = x)) = true then _ else _) = _
        rw [if_pos hb]
      rw [e]
      exact put_gen d0 all r (a + 1) d L c ls h (by simp at ha; omega) hl
    · have hb' : (!all && decide (L.getD a 0 = x)) = false := by simpa using hb
      rw [putGo_store (hk.trans hb') (ok_store h.fuse (by rw [h.las]; exact ha1))]
      have e : pgo all (x :: r) a (L, c, ls) = pgo all r (a + 1) (L.set a x, c + 1, addLn ls (a / 8)) := by
        show (if (!all && decide (L.getD a 0 = x)) = true then _ else _) = _
        rw [if_neg hb]
      rw [e]
      refine put_gen d0 all r (a + 1) _ _ _ _ (h.stored ha1 x) (by simp at ha; omega) (fun y hy => ?_)
      rcases addLn_mem hy with h1 | h1
      · exact hl y h1
      · omega
def lnsG (k : Nat) : Nat → List Nat
  | 0 => []
  | i + 1 => addLn (lnsG k i) ((k + i) / 8)
theorem lnsG_last (k i : Nat) : (lnsG k (i + 1)).getLast? = some ((k + i) / 8) := by
  show (addLn (lnsG k i) ((k + i) / 8)).getLast? = _
  unfold addLn
  split
  · assumption
  · simp
theorem lnsG_len (k : Nat) : ∀ i, (lnsG k i).length = nline k i
  | 0 => rfl
  | i + 1 => by
    show (addLn (lnsG k i) ((k + i) / 8)).length = nline k i + _
    rw [← lnsG_len k i]
    cases i with
    | zero => rfl
    | succ i =>
      unfold addLn
      rw [lnsG_last]
      by_cases h : (k + (i + 1)) % 8 = 0
      · rw [if_neg (by rw [Option.some.injEq]; omega), if_pos (.inr h)]; simp
      · rw [if_pos (by rw [Option.some.injEq]; omega), if_neg (by omega)]; rfl
theorem pgo_all (k : Nat) (L : List Int) : ∀ (xs : List Int) (i : Nat) (M : List Int), pgo true xs (k + i) (M, i, lnsG k i) = (wput M (k + i) xs, i + xs.length, lnsG k (i + xs.length))
  | [], i, M => rfl
  | x :: r, i, M => by
    show pgo true r (k + i + 1) (M.set (k + i) x, i + 1, lnsG k (i + 1)) = _
    have := pgo_all k L r (i + 1) (M.set (k + i) x)
    rw [show k + i + 1 = k + (i + 1) from rfl, this]
    rw [show i + (x :: r).length = i + 1 + r.length from by simp; omega]
    rfl
theorem put_many (d : Dev) (hf : d.fuse = none) (xs : List Int) (k : Nat) (hk : k + xs.length ≤ d.las.length) :
    ∃ d', putGo true xs k ⟨d, 0, []⟩ = (d', some xs.length) ∧ Pt d d' (wput (Pm.wordsOf d) k xs) xs.length (nline k xs.length) := by
  obtain ⟨d', e, h⟩ := put_gen d true xs k d (Pm.wordsOf d) 0 [] ⟨rfl, hf, rfl, rfl, rfl⟩ hk (by simp)
  have hp := pgo_all k (Pm.wordsOf d) xs 0 (Pm.wordsOf d)
  rw [Nat.zero_add, Nat.add_zero] at hp
  rw [show (Pm.wordsOf d, 0, ([] : List Nat)) = (Pm.wordsOf d, 0, lnsG k 0) from rfl, hp] at e h
  exact ⟨d', e, by rw [lnsG_len] at h; exact h⟩
end Go.Proofs.YtgnagbbdnlmgeaaGreat.Wp
end
section
namespace Go.Proofs.YtgnagbbdnlmgeaaGreat.Ma
open Go Go.RowKit
open Ob Ba Oc Pk Rf Dv Vo Bm Wp
def bitsOf (n x : Nat) : List Bool := (List.range n).map fun b => x.testBit b
end Go.Proofs.YtgnagbbdnlmgeaaGreat.Ma
end
section
set_option maxHeartbeats 2000000
set_option maxRecDepth 100000
namespace Go.Proofs.YtgnagbbdnlmgeaaGreat.Li
open Go Go.RowKit
open Ob Ba Ge Ko
theorem lives04 (w : World) : Calls Tryz.prog 129 #[] w fun e w' => e = .returned (.bool true) ∧ Below w.heap.size w w' := by
  have hu := Tryz.underlying34
  have hok : geoOk 10 3 64 = true := by decide
  have H1 : Hid (∀ w, Calls Tryz.prog 88 #[.agg #[.int .i64 10, .int .i64 3, .int .i64 64]] w fun e w' => e = .returned (.tuple #[.int .i64 56, .int .i64 1]) ∧ Below w.heap.size w w') := fun w => bmap_ 10 3 64 hok w
  have H2 : Hid (∀ w, Calls Tryz.prog 76 #[.agg #[.int .i64 10, .int .i64 3, .int .i64 64], .int .i64 2] w fun e w' => e = .returned (.int .i64 32) ∧ Below w.heap.size w w') := fun w => inode_ 10 3 64 2 hok w
  have H3 : Hid (∀ w, Calls Tryz.prog 80 #[.agg #[.int .i64 10, .int .i64 3, .int .i64 64], .int .i64 0] w fun e w' => e = .returned (.int .i64 40) ∧ Below w.heap.size w w') := fun w => slot_ 10 3 64 0 hok w
  have H4 : Hid (∀ w, Calls Tryz.prog 84 #[.agg #[.int .i64 10, .int .i64 3, .int .i64 64], .int .i64 0] w fun e w' => e = .returned (.int .i64 64) ∧ Below w.heap.size w w') := fun w => block_ 10 3 64 0 hok w
  have H5 : Hid (∀ w, Calls Tryz.prog 167 #[.agg #[.int .i64 10, .int .i64 3, .int .i64 64]] w fun e w' => e = .returned (.int .i64 144) ∧ Below w.heap.size w w') := fun w => words_ 10 3 64 hok w
  clear hok
  go_enter Tryz.func129, Tryz.ntmps129
  go_wp2_with (first | (go_at_call 88; refine (H1.out _).mono ?_; rintro e w1 ⟨rfl, hb1⟩; (have hq := blk_bl (alloc_new w (.cells #[.int .i64 10, .int .i64 3, .int .i64 64] 34)) hb1); (have k10 : w1.cell? ⟨w.heap.size, 0, none⟩ = some (.int .i64 10) := cell_of hq 0); (have k11 : w1.cell? ⟨w.heap.size, 1, none⟩ = some (.int .i64 3) := cell_of hq 1); (have k12 : w1.cell? ⟨w.heap.size, 2, none⟩ = some (.int .i64 64) := cell_of hq 2); (have HB1 : Hid (Bx w w1) := ⟨bl_then (bl_alloc (Below.refl _ _) _) hb1, lt_of hq⟩); clear hb1 hq) |
    (go_at_call 76; refine (H2.out _).mono ?_; rintro e w2 ⟨rfl, hb2⟩; (obtain ⟨k20, k21, k22, hx2⟩ := bx_keep ⟨k10, k11, k12, HB1.out⟩ hb2); (have HB2 := Lib.hid hx2); clear hb2 hx2) |
    (go_at_call 80; refine (H3.out _).mono ?_; rintro e w3 ⟨rfl, hb3⟩; (obtain ⟨k30, k31, k32, hx3⟩ := bx_keep ⟨k20, k21, k22, HB2.out⟩ hb3); (have HB3 := Lib.hid hx3); clear hb3 hx3) |
    (go_at_call 84; refine (H4.out _).mono ?_; rintro e w4 ⟨rfl, hb4⟩; (obtain ⟨k40, k41, k42, hx4⟩ := bx_keep ⟨k30, k31, k32, HB3.out⟩ hb4); (have HB4 := Lib.hid hx4); clear hb4 hx4) |
    (go_at_call 167; refine (H5.out _).mono ?_; rintro e w5 ⟨rfl, hb5⟩; (obtain ⟨k50, k51, k52, hx5⟩ := bx_keep ⟨k40, k41, k42, HB4.out⟩ hb5); (have HB5 := Lib.hid hx5); clear hb5 hx5))
  go_ret
  exact ⟨rfl, HB5.out.below⟩
end Go.Proofs.YtgnagbbdnlmgeaaGreat.Li
end
section
set_option maxHeartbeats 2000000
set_option maxRecDepth 100000
namespace Go.Proofs.YtgnagbbdnlmgeaaGreat.Li
open Go Go.RowKit
open Ob Ba Oc Pk Cr C6 Cc Su
def nine : List Nat := [49, 50, 51, 52, 53, 54, 55, 56, 57]
theorem lives02 (w : World) : Calls Tryz.prog 127 #[] w fun e w' => e = .returned (.bool true) ∧ Below w.heap.size w w' := by
  have kc := Lib.run_convert_bytes_const (P := Tryz.prog) w 59 5 #[.int .u8 49, .int .u8 50, .int .u8 51, .int .u8 52, .int .u8 53, .int .u8 54, .int .u8 55, .int .u8 56, .int .u8 57] 9 9 Tryz.underlying59 Tryz.underlying5
  go_enter Tryz.func127, Tryz.ntmps127
  go_wp2_with fail
  have hrk : Rk .u8 (w.alloc (.cells #[.int .u8 49, .int .u8 50, .int .u8 51, .int .u8 52, .int .u8 53, .int .u8 54, .int .u8 55, .int .u8 56, .int .u8 57] 5 (9, 10))) (some ⟨w.heap.size, 0, none⟩) (ints nine) := by
    refine blk_rk (alloc_new w (.cells #[.int .u8 49, .int .u8 50, .int .u8 51, .int .u8 52, .int .u8 53, .int .u8 54, .int .u8 55, .int .u8 56, .int .u8 57] 5 (9, 10))) fun i x hx => ?_
    match i with
    | 0 | 1 | 2 | 3 | 4 | 5 | 6 | 7 | 8 => simpa [ints, nine] using hx
    | i + 9 => simp [ints, nine] at hx
  have hps : ∀ W, Below (w.alloc (.cells #[.int .u8 49, .int .u8 50, .int .u8 51, .int .u8 52, .int .u8 53, .int .u8 54, .int .u8 55, .int .u8 56, .int .u8 57] 5 (9, 10))).heap.size (w.alloc (.cells #[.int .u8 49, .int .u8 50, .int .u8 51, .int .u8 52, .int .u8 53, .int .u8 54, .int .u8 55, .int .u8 56, .int .u8 57] 5 (9, 10))) W → PsAt (W.alloc (.cells #[.slice (some ⟨w.heap.size, 0, none⟩) 9 9] 59)) (some ⟨W.heap.size, 0, none⟩) [⟨some ⟨w.heap.size, 0, none⟩, 9, nine⟩] := by
    intro W hb i p hp
    match i with
    | 0 =>
      simp at hp
      subst hp
      exact ⟨⟨hrk.below (bl_alloc hb _), (by decide : ∀ x ∈ nine, x < 256), by simp [nine]⟩, _, rfl, one_at _ _ _ 0 _ rfl⟩
    | i + 1 => simp at hp
  have h32 := sum32_ (hps _ (Below.refl _ _)) 1 (by simp)
  rw [show (4294967295 - (sumB 4294967295 (allOf [(⟨some ⟨w.heap.size, 0, none⟩, 9, nine⟩ : Part)]) : Nat) : Int) = 3421780262 from by
    rw [show allOf [(⟨some ⟨w.heap.size, 0, none⟩, 9, nine⟩ : Part)] = nine from by simp [allOf]]
    decide] at h32
  have h16 := sum16_ (hps _ (bl_alloc (Below.refl _ _) (.cells #[.slice (some ⟨w.heap.size, 0, none⟩) 9 9] 59))) 1 (by simp)
  rw [show (sum6 65535 (allOf [(⟨some ⟨w.heap.size, 0, none⟩, 9, nine⟩ : Part)])) = 10673 from by
    rw [show allOf [(⟨some ⟨w.heap.size, 0, none⟩, 9, nine⟩ : Part)] = nine from by simp [allOf]]
    decide] at h16
  simp only [World.size_alloc] at h32 h16
  have H16 := Lib.hid h16
  refine (show Calls _ _ #[.slice (some ⟨w.heap.size + 1, 0, none⟩) 1 1] _ _ from h32).mono ?_
  rintro e w1 ⟨rfl, rfl⟩
  clear h32 h16 hps hrk kc
  go_wp2_with fail
  refine (show Calls _ _ #[.slice (some ⟨w.heap.size + 1 + 1, 0, none⟩) 1 1] _ _ from H16.out).mono ?_
  rintro e w2 ⟨rfl, rfl⟩
  go_wp2_with fail
  go_ret
  exact ⟨rfl, bl_alloc (bl_alloc (bl_alloc (Below.refl _ _) _) _) _⟩
theorem lives03 (w : World) : Calls Tryz.prog 128 #[] w fun e w' => e = .returned (.bool true) ∧ Below w.heap.size w w' := by
  have hfs : FsAt (w.alloc (.cells #[.int .i64 4, .int .u64 5, .int .i64 8, .int .u64 7] 215)) (some ⟨w.heap.size, 0, none⟩) [(4, 5), (8, 7)] := by
    refine fields_at (T := 215) (fr := (0, 0)) (alloc_new _ _) ?_
    intro p hp
    simp only [List.mem_cons, List.not_mem_nil, or_false] at hp
    rcases hp with rfl | rfl
    · exact ⟨by decide, by decide, by decide⟩
    · exact ⟨by decide, by decide, by decide⟩
  have hpk := pack_ hfs 2 (by decide) (by decide)
  rw [show pv [(4, 5), (8, 7)] = 117 from by decide] at hpk
  have HPK := Lib.hid hpk
  clear hfs hpk
  go_enter Tryz.func128, Tryz.ntmps128
  go_wp2_with fail
  refine (show Calls _ _ #[.slice (some ⟨w.heap.size, 0, none⟩) 2 2] _ _ from HPK.out).mono ?_
  rintro e w1 ⟨rfl, hb1⟩
  have HB1 := Lib.hid (bl_then (bl_alloc (Below.refl _ _) _) hb1)
  clear hb1 HPK
  have hrk : Rk .i64 (w1.alloc (.cells #[.int .i64 4, .int .i64 8] 3)) (some ⟨w1.heap.size, 0, none⟩) (ints [4, 8]) := by
    refine blk_rk (alloc_new w1 (.cells #[.int .i64 4, .int .i64 8] 3)) fun i x hx => ?_
    match i with
    | 0 | 1 => simpa [ints] using hx
    | i + 2 => simp [ints] at hx
  have hsp := split_ hrk 117 (by decide) 2 (by simp) (by decide) (by decide)
  rw [show decide (117 / 2 ^ [4, 8].sum = 0) = true from by decide] at hsp
  have HSP := Lib.hid hsp
  clear hrk hsp
  go_wp2_with fail
  refine (show Calls _ _ #[.int .u64 117, .slice (some ⟨w1.heap.size, 0, none⟩) 2 2] _ _ from HSP.out).mono ?_
  rintro e w2 ⟨v, rfl, hown, hb2⟩
  have hown := hown (by decide)
  obtain ⟨A2, c2, rfl⟩ := own_slice hown
  obtain ⟨g2, rfl, hc0, -⟩ := own_at (i := 0) (x := 5) hown rfl
  obtain ⟨_, e2, hc1, -⟩ := own_at (i := 1) (x := 7) hown rfl
  cases e2
  have HB2 := Lib.hid (bl_then (bl_alloc HB1.out _) hb2)
  have HOWN := Lib.hid hown
  clear hown hb2
  go_wp2_with fail
  go_ret
  exact ⟨rfl, HB2.out⟩
end Go.Proofs.YtgnagbbdnlmgeaaGreat.Li
end
section
set_option maxHeartbeats 2000000
set_option maxRecDepth 100000
namespace Go.Proofs.YtgnagbbdnlmgeaaGreat.Li
open Go Go.RowKit
open Ob Ba Oc Pk
theorem lives05 (w : World) : Calls Tryz.prog 69 #[] w fun e w' => e = .returned (.bool true) ∧ Below w.heap.size w w' := by
  have hen := Su.encode_yes 10 3 64 (by decide) (by decide) (by decide) (by decide) w
  have hl1 : (ints (Su.enc 10 3 64))[1]? = some 274878103562 := by decide
  have HL := Lib.hid hl1
  generalize Su.enc 10 3 64 = l at *
  have HE := Lib.hid hen
  clear hen hl1
  go_enter Tryz.func69, Tryz.ntmps69
  go_wp2_with (first | (go_at_call 125; refine HE.out.mono ?_; rintro e w1 ⟨v, rfl, hown, hb1⟩; (obtain ⟨A1, c1, rfl⟩ := own_slice hown); (obtain ⟨q1, rfl, -, -⟩ := own_at hown HL.out); (have HO := Lib.hid hown); (have HB1 := Lib.hid hb1); clear hb1 hown) |
    (go_at_call 126; refine (Pm.lives_any _).mono ?_; rintro e w2 ⟨rfl, hb2⟩; (have HB2 := Lib.hid hb2); clear hb2) |
    (go_at_call 127; refine (lives02 _).mono ?_; rintro e w3 ⟨rfl, hb3⟩; (have HB3 := Lib.hid (bl_then HB2.out hb3)); clear hb3) |
    (go_at_call 128; refine (lives03 _).mono ?_; rintro e w4 ⟨rfl, hb4⟩; (have HB4 := Lib.hid (bl_then HB3.out hb4)); clear hb4) |
    (go_at_call 129; refine (lives04 _).mono ?_; rintro e w5 ⟨rfl, hb5⟩; (have HB5 := Lib.hid (bl_then HB4.out hb5)); clear hb5; (obtain ⟨_, e5, hc5, -⟩ := own_at (own_bl HO.out HB5.out) HL.out); cases e5))
  go_ret
  exact ⟨rfl, bl_then HB1.out HB5.out⟩
end Go.Proofs.YtgnagbbdnlmgeaaGreat.Li
end
section
set_option maxHeartbeats 2000000
set_option maxRecDepth 100000
namespace Go.Proofs.YtgnagbbdnlmgeaaGreat.Li
open Go Go.RowKit
open Ob Ba Oc Pk
theorem lives06 (w : World) : Calls Tryz.prog 70 #[] w fun e w' => e = .returned (.bool true) ∧ Below w.heap.size w w' := by
  have hen := In.encode_file 1 3 5 2 (by decide) ⟨.inl rfl, by decide, by decide, by decide, by decide, by decide, .inl rfl⟩ w
  have hl0 : (ints (Su.line (1 + 65536 * 3) 5))[0]? = some 196609 := by decide
  have HL := Lib.hid hl0
  generalize Su.line (1 + 65536 * 3) 5 = l at *
  have HE := Lib.hid hen
  clear hen hl0
  go_enter Tryz.func70, Tryz.ntmps70
  go_wp2_with (first | (go_at_call 108; refine (show Calls _ _ #[.agg #[.int .i64 1, .int .i64 2, .int .i64 5]] _ _ from HE.out).mono ?_; rintro e w1 ⟨v, rfl, hown, hb1⟩; (obtain ⟨A1, c1, rfl⟩ := own_slice hown); (obtain ⟨q1, rfl, -, -⟩ := own_at hown HL.out); (have HO := Lib.hid hown); (have HB1 := Lib.hid hb1); clear hb1 hown) |
    (go_at_call 127; refine (lives02 _).mono ?_; rintro e w3 ⟨rfl, hb3⟩; (have HB3 := Lib.hid hb3); clear hb3) |
    (go_at_call 128; refine (lives03 _).mono ?_; rintro e w4 ⟨rfl, hb4⟩; (have HB4 := Lib.hid (bl_then HB3.out hb4)); clear hb4; (obtain ⟨_, e5, hc5, -⟩ := own_at (own_bl HO.out HB4.out) HL.out); cases e5))
  go_ret
  exact ⟨rfl, bl_then HB1.out HB4.out⟩
end Go.Proofs.YtgnagbbdnlmgeaaGreat.Li
end
section
set_option maxHeartbeats 2000000
set_option maxRecDepth 100000
namespace Go.Proofs.YtgnagbbdnlmgeaaGreat.Li
open Go Go.RowKit
open Ob Ba Oc
theorem lives07 (w : World) : Calls Tryz.prog 71 #[] w fun e w' => e = .returned (.bool true) ∧ Below w.heap.size w w' := by
  have HE := Lib.hid (Lo.encode_yes 1 2 3 (by decide) w)
  have hx : bits .and .u64 ((Lo.sEnc 1 2 3 : Nat) : Int) 281474976710655 = 12885032961 := by decide
  generalize Lo.sEnc 1 2 3 = x at *
  go_enter Tryz.func71, Tryz.ntmps71
  go_wp2_with (first | (go_at_call 103; refine HE.out.mono ?_; rintro e w1 ⟨rfl, hb1⟩; (have HB1 := Lib.hid hb1); clear hb1) |
    (go_at_call 127; refine (lives02 _).mono ?_; rintro e w2 ⟨rfl, hb2⟩; (have HB2 := Lib.hid hb2); clear hb2) |
    (go_at_call 128; refine (lives03 _).mono ?_; rintro e w3 ⟨rfl, hb3⟩; (have HB3 := Lib.hid hb3); clear hb3))
  go_ret
  exact ⟨rfl, bl_then (bl_then HB1.out HB2.out) HB3.out⟩
end Go.Proofs.YtgnagbbdnlmgeaaGreat.Li
end
section
set_option maxHeartbeats 2000000
set_option maxRecDepth 100000
namespace Go.Proofs.YtgnagbbdnlmgeaaGreat.Li
open Go Go.RowKit
open Ob Ba Oc Pk
theorem lives09 (w : World) : Calls Tryz.prog 72 #[] w fun e w' => e = .returned (.bool true) ∧ Below w.heap.size w w' := by
  have hen := Rj.encode_yes 2 3 4 5 ⟨⟨by decide, by decide⟩, ⟨by decide, by decide⟩, ⟨by decide, by decide⟩, by decide, by decide⟩ w
  have hpv : pv (Rj.f16s [1, 2, 3, 4]) = 1125912791875585 := by decide
  rw [hpv] at hen
  have hl0 : (ints (Su.line 1125912791875585 5))[0]? = some 1125912791875585 := rfl
  have HL := Lib.hid hl0
  generalize Su.line 1125912791875585 5 = l at *
  have HE := Lib.hid hen
  clear hen hl0 hpv
  go_enter Tryz.func72, Tryz.ntmps72
  go_wp2_with (first | (go_at_call 130; refine (show Calls _ _ #[.agg #[.int .i64 2, .int .i64 3, .int .i64 4, .int .i64 5]] _ _ from HE.out).mono ?_; rintro e w1 ⟨v, rfl, hown, hb1⟩; (obtain ⟨A1, c1, rfl⟩ := own_slice hown); (obtain ⟨q1, rfl, -, -⟩ := own_at hown HL.out); (have HO := Lib.hid hown); (have HB1 := Lib.hid hb1); clear hb1 hown) |
    (go_at_call 127; refine (lives02 _).mono ?_; rintro e w3 ⟨rfl, hb3⟩; (have HB3 := Lib.hid hb3); clear hb3) |
    (go_at_call 128; refine (lives03 _).mono ?_; rintro e w4 ⟨rfl, hb4⟩; (have HB4 := Lib.hid (bl_then HB3.out hb4)); clear hb4; (obtain ⟨_, e5, hc5, -⟩ := own_at (own_bl HO.out HB4.out) HL.out); cases e5))
  go_ret
  exact ⟨rfl, bl_then HB1.out HB4.out⟩
end Go.Proofs.YtgnagbbdnlmgeaaGreat.Li
end
section
set_option maxHeartbeats 2000000
set_option maxRecDepth 100000
namespace Go.Proofs.YtgnagbbdnlmgeaaGreat.Li
open Go Go.RowKit
open Ob Ba Oc Pk Bm
theorem rk_rd {w : World} {A : Option Addr} {l : List Int} (h : Rk .u64 w A l) : Pm.Rd w A l := h
theorem next65 {r : Int} (h : NextIs 70 [1, 2] 1 true r) : r = 65 := by
  have key : ∀ k : Nat, k < 70 → 1 ≤ k → k < 65 → bget [1, 2] k ≠ true := by decide
  rcases h with ⟨_, h⟩ | ⟨j, rfl, h1, h2, h3, h4⟩
  · exact absurd (by decide : bget [1, 2] 65 = true) (h 65 (by decide) (by decide))
  · by_cases h5 : j < 65
    · exact absurd h3 (key j h2 (by omega) h5)
    · by_cases h6 : 65 < j
      · exact absurd (by decide : bget [1, 2] 65 = true) (h4 65 (by decide) h6)
      · omega
theorem next1 {r : Int} (h : NextIs 70 [1, 2] 0 false r) : r = 1 := by
  rcases h with ⟨_, h⟩ | ⟨j, rfl, h1, h2, h3, h4⟩
  · exact absurd (by decide : bget [1, 2] 1 = false) (h 1 (by decide) (by decide))
  · by_cases h5 : j < 1
    · obtain rfl : j = 0 := by omega
      revert h3; decide
    · by_cases h6 : 1 < j
      · exact absurd (by decide : bget [1, 2] 1 = false) (h4 1 (by decide) h6)
      · omega
theorem three_rk {W : World} {q T : Nat} {fr : Nat × Nat} {k : IntKind} {x y z : Int} (h : W.heap[q]? = some (.cells #[.int k x, .int k y, .int k z] T fr)) : Rk k W (some ⟨q, 0, none⟩) [x, y, z] := by
  refine blk_rk h ?_
  intro i u hu
  match i, hu with
  | 0, hu => simp at hu; subst hu; rfl
  | 1, hu => simp at hu; subst hu; rfl
  | 2, hu => simp at hu; subst hu; rfl
  | i + 3, hu => simp at hu
theorem two_rk {W : World} {q T : Nat} {fr : Nat × Nat} {k : IntKind} {x y : Int} (h : W.heap[q]? = some (.cells #[.int k x, .int k y] T fr)) : Rk k W (some ⟨q, 0, none⟩) [x, y] := by
  refine blk_rk h ?_
  intro i u hu
  match i, hu with
  | 0, hu => simp at hu; subst hu; rfl
  | 1, hu => simp at hu; subst hu; rfl
  | i + 2, hu => simp at hu
theorem lives10 (w : World) : Calls Tryz.prog 73 #[] w fun e w' => e = .returned (.bool true) ∧ Below w.heap.size w w' := by
  go_enter Tryz.func73, Tryz.ntmps73
  go_wp2_with fail
  refine (show Calls _ _ #[.int .i64 70] _ _ from new_ 70 (by decide) w).mono ?_
  rintro e w1 ⟨b, rfl, hm1, hb1⟩
  have HM1 := Lib.hid hm1
  have HB1 := Lib.hid hb1
  clear hm1 hb1
  go_wp2_with fail
  refine (lives03 w1).mono ?_
  rintro e w2 ⟨rfl, hb2⟩
  have HM2 := Lib.hid (HM1.out.keep hb2)
  have HB2 := Lib.hid (bl_then HB1.out hb2)
  have hlt2 : w1.heap.size ≤ w2.heap.size := hb2.size
  have hq1 : w.heap.size < w1.heap.size := by
    have := own_at (l := ints (List.replicate ((70 + 63) / 64) 0)) (i := 0) (x := 0) HM1.out.row (by simp [ints])
    obtain ⟨q, hq, hc, -⟩ := this
    cases hq
    by_cases h : w.heap.size < w1.heap.size
    · exact h
    · rw [show w1.cell? ⟨w.heap.size, 0, none⟩ = none from by simp [World.cell?, Array.getElem?_eq_none (Nat.le_of_not_lt h)]] at hc
      cases hc
  clear hb2
  go_wp2_with fail
  have hlt3 : w.heap.size < w2.heap.size := by omega
  have hput := put_ (xs := [0, 65, 70]) (HM2.out.keep (bl_alloc (Below.refl _ _) (.cells #[.int .i64 0, .int .i64 65, .int .i64 70] 3))) (three_rk (alloc_new w2 _)) (by intro a a' h1 h2; cases h1; cases h2; exact Nat.ne_of_lt hlt3) 3 (by decide)
  rw [show turnL 70 false (List.replicate ((70 + 63) / 64) 0) [0, 65, 70] = ([1, 2], 2) from by decide] at hput
  have HPU := Lib.hid hput
  clear hput
  refine (show Calls _ _ #[.pointer (some ⟨b, 0, none⟩), .slice (some ⟨w2.heap.size, 0, none⟩) 3 3] _ _ from HPU.out).mono ?_
  rintro e w3 ⟨rfl, hm3, ho3⟩
  have HM3 := Lib.hid hm3
  have HB3 := Lib.hid ((bl_alloc HB2.out (.cells #[.int .i64 0, .int .i64 65, .int .i64 70] 3)).trans (ho3.below (B := w.heap.size) (by intro a ha; cases ha; exact Nat.le_refl _)))
  clear hm3 ho3
  go_wp2_with fail
  refine (words_of HM3.out).mono ?_
  rintro e w4 ⟨v4, rfl, hown, hb4⟩
  obtain ⟨A4, c4, rfl⟩ := own_slice hown
  have HM4 := Lib.hid (HM3.out.keep hb4)
  have HB4 := Lib.hid (bl_then HB3.out hb4)
  have HO4 := Lib.hid (own_rk (k := .u64) hown).1
  clear hown hb4
  go_wp2_with fail
  have hsm := Pm.same_words (m := [1, 2]) (rk_rd (HO4.out.below (bl_alloc (Below.refl _ _) (.cells #[.int .u64 1, .int .u64 2] 94)))) (rk_rd (two_rk (alloc_new w4 _))) c4 2 (by decide) (by decide)
  rw [show decide (ints [1, 2] = [1, 2]) = true from by decide] at hsm
  have HSM := Lib.hid hsm
  clear hsm
  refine (show Calls _ _ #[.slice A4 2 c4, .slice (some ⟨w4.heap.size, 0, none⟩) 2 2] _ _ from HSM.out).mono ?_
  rintro e w5 ⟨rfl, n5, hw5⟩
  have hb5 : Below w4.heap.size w4 w5 := by rw [hw5]; exact bl_drewN (bl_alloc (Below.refl _ _) _) _
  have HM5 := Lib.hid (HM4.out.keep hb5)
  have HB5 := Lib.hid (bl_then HB4.out hb5)
  clear hb5 hw5
  go_wp2_with fail
  refine (next_ HM5.out 1 true).mono ?_
  rintro e w6 ⟨r, rfl, hr, rfl⟩
  obtain rfl := next65 hr
  clear hr
  go_wp2_with fail
  refine (next_ HM5.out 0 false).mono ?_
  rintro e w7 ⟨r, rfl, hr, rfl⟩
  obtain rfl := next1 hr
  clear hr
  go_wp2_with fail
  go_ret
  exact ⟨rfl, HB5.out⟩
end Go.Proofs.YtgnagbbdnlmgeaaGreat.Li
end
section
namespace Go.Proofs.YtgnagbbdnlmgeaaGreat.Lo
open Go Go.RowKit
open Su
theorem sEnc_lt (s c n : Int) (h : sMay s c n = true) : sEnc s c n < 18446744073709551616 := by
  obtain ⟨h1, h2, h3, h4, h5, h6⟩ := of_decide_eq_true h
  unfold sEnc
  have := sSum_lt (word1 s.toNat c.toNat (nx n))
  have hk : nx n < 65536 := by unfold nx; split <;> omega
  have hw : word1 s.toNat c.toNat (nx n) < 281474976710656 := by unfold word1; omega
  omega
theorem sEnc_parts (s c n : Int) (h : sMay s c n = true) : pa (sEnc s c n) = s.toNat ∧ pb (sEnc s c n) = c.toNat ∧ pc (sEnc s c n) = nx n := by
  obtain ⟨h1, h2, h3, h4, h5, h6⟩ := of_decide_eq_true h
  unfold sEnc
  have hs := sSum_lt (word1 s.toNat c.toNat (nx n))
  generalize sSum (word1 s.toNat c.toNat (nx n)) = y at *
  have hk : nx n < 65536 := by unfold nx; split <;> omega
  generalize nx n = k at *
  unfold pa pb pc word1
  omega
theorem nxt_nx (n : Int) (h0 : -1 ≤ n) (h1 : n < 65534) : nxt (nx n) = n := by
  unfold nxt nx
  split <;> split <;> omega
end Go.Proofs.YtgnagbbdnlmgeaaGreat.Lo
end
section
set_option maxHeartbeats 2000000
set_option maxRecDepth 100000
namespace Go.Proofs.YtgnagbbdnlmgeaaGreat.Li
open Go Go.RowKit
open Ob Ba Ko Ge Oc Pk Su Rf Dv Vo Ra Lo
theorem opn_any {W : World} {b : Nat} {g : Lay} (r0 r1 r2 : Nat) (l : List Int) (n m s T : Nat) (hn : n = gB r0) (hm : m = gB r1) (hs : s = gS r2) (hT : (T : Int) = tot n m s) (hD : DevIs W b (Pm.devOf (dws (ints (enc n m s)) l T)) g) :
    Calls Tryz.prog 74 #[.pointer (some ⟨b, 0, none⟩)] W fun e w' => ∃ v, e = .returned (.tuple #[.pointer (some ⟨v, 0, none⟩), .int .i64 0]) ∧ W.heap.size ≤ v ∧ VolIs w' v b n m s (Pm.devOf (dws (ints (enc n m s)) l T)) g ∧ Below W.heap.size W w' := by
  have hok : geoOk n m s = true := by rw [hn, hm, hs]; exact g_ok r0 r1 r2
  have htt := g_tot r0 r1 r2
  rw [← hn, ← hm, ← hs, ← hT] at htt
  have hn9 : n < 65536 := by have := gB_in r0; omega
  have hm9 : m < 65536 := by have := gB_in r1; omega
  have hs9 : s < 65536 := by have := gS_or r2; omega
  have hlen : (dws (ints (enc n m s)) l T).length = T := dws_length _ _ _ rfl (by omega)
  have htk : (dws (ints (enc n m s)) l T).take 8 = ints (enc n m s) := dws_take8 _ _ _ rfl
  exact open_ok hD n m s hok hn9 hm9 hs9 (by show ((dws (ints (enc n m s)) l T).length : Int) = _; rw [hlen, hT]) (by show 8 ≤ (dws (ints (enc n m s)) l T).length; rw [hlen]; omega) (fun i x hx => by
    refine devOf_load ?_
    have hi := (List.getElem?_eq_some_iff.1 hx).1
    have h8 : i < 8 := hi
    have h9 : ((dws (ints (enc n m s)) l T).take 8)[i]? = some (x : Int) := by rw [htk]; exact ints_get hx
    rw [List.getElem?_take, if_pos h8] at h9
    exact h9)
theorem lives15 (w : World) : Calls Tryz.prog 12 #[] w fun e w' => e = .returned (.bool true) ∧ Below w.heap.size w w' := by
  have hu := Tryz.underlying30
  have hdv := device_ 3 3 0 (by decide) (by decide) (by decide) (A := none) (l := []) 0 (w := w) (Rk.nil _ _ _) (by decide) 4 4 64 96 rfl rfl rfl (by decide)
  have HOP : Hid (∀ {W : World} {b : Nat} {g : Lay}, DevIs W b (Pm.devOf (dws (ints (enc (4 : Nat) (4 : Nat) (64 : Nat))) [] 96)) g → _) := fun {W} {b} {g} hD => opn_any 3 3 0 [] 4 4 64 96 rfl rfl rfl (by decide) hD
  have hlen : (dws (ints (enc (4 : Nat) (4 : Nat) (64 : Nat))) [] 96).length = 96 := dws_length _ _ _ rfl (by decide)
  have HV : Hid (∀ v, vcells (4 : Nat) (4 : Nat) (64 : Nat) v = #[.int .i64 4, .int .i64 4, .int .i64 64, .int .i64 16, .int .i64 48, .int .i64 56, .int .i64 64, .int .i64 96, v]) := fun _ => rfl
  generalize dws (ints (enc (4 : Nat) (4 : Nat) (64 : Nat))) [] 96 = L at *
  have HP1 := Lib.hid (put_one L 48 (sEnc 0 1 (-1) : Nat) (by omega))
  have HLN := Lib.hid hlen
  have HD := Lib.hid hdv
  clear hdv hlen
  go_enter Tryz.func12, Tryz.ntmps12
  go_wp2_with fail
  refine (show Calls _ _ #[.agg #[.int .u8 3, .int .u8 3, .int .u8 0, .slice none 0 0]] _ _ from HD.out).mono ?_
  rintro e w1 ⟨b, g, vw, rfl, hd1, hf1, ho1, ha1, hb1⟩
  obtain ⟨A8, c8, e8⟩ := own_slice ho1
  subst e8
  rw [HV.out]
  have HD1 := Lib.hid hd1
  have HF1 := Lib.hid hf1
  have HB1 := Lib.hid hb1
  clear hd1 hf1 hb1 ho1 ha1
  go_wp2_with fail
  have hb0 : Below w1.heap.size w1 (w1.alloc (.cells #[.int .i64 4, .int .i64 4, .int .i64 64, .int .i64 16, .int .i64 48, .int .i64 56, .int .i64 64, .int .i64 96, .slice A8 96 c8] 30)) := bl_alloc (Below.refl _ _) _
  have HB0 := Lib.hid hb0
  clear hb0
  refine (lives05 _).mono ?_
  rintro e w2 ⟨rfl, hb2⟩
  have HB2 := Lib.hid (bl_then HB0.out hb2)
  clear hb2
  go_wp2_with fail
  refine (lives06 _).mono ?_
  rintro e w3 ⟨rfl, hb3⟩
  have HB3 := Lib.hid (bl_then HB2.out hb3)
  clear hb3
  go_wp2_with fail
  refine (lives07 _).mono ?_
  rintro e w4 ⟨rfl, hb4⟩
  have HB4 := Lib.hid (bl_then HB3.out hb4)
  clear hb4
  go_wp2_with fail
  refine (lives09 _).mono ?_
  rintro e w5 ⟨rfl, hb5⟩
  have HB5 := Lib.hid (bl_then HB4.out hb5)
  clear hb5
  go_wp2_with fail
  refine (lives10 _).mono ?_
  rintro e w6 ⟨rfl, hb6⟩
  have HB6 := Lib.hid (bl_then HB5.out hb6)
  clear hb6
  go_wp2_with fail
  refine (HOP.out (HD1.out.below HB6.out)).mono ?_
  rintro e w7 ⟨v, rfl, hlo, hvol, hb7⟩
  have HV7 := Lib.hid hvol
  have HB7 := Lib.hid (bl_then HB6.out hb7)
  clear hlo hvol hb7
  go_wp2_with fail
  refine (setslot_yes HV7.out (show (0 : Nat) ≤ 1000000000 from Nat.zero_le _) 0 0 1 (-1) (by decide) (by decide) 48 (by decide) _ HP1.out).mono ?_
  rintro e w8 ⟨rfl, hto⟩
  have hto2 := HV7.out.to hto (by rfl)
  obtain ⟨g8, hv8, hf8, hu8⟩ := hto2
  have HV8 := Lib.hid hv8
  have HB8 : Hid (Below w.heap.size w w8) := (bl_then HB1.out HB7.out).trans (hu8.belowB (bl_then HB1.out HB7.out).size HF1.out)
  clear hto hv8 hf8 hu8
  rw [show ecode (one L 48 (sEnc 0 1 (-1) : Nat), some 1) = 0 from rfl]
  go_wp2_with fail
  refine (Pm.steps_any HV8.out.dev).mono ?_
  rintro e w9 ⟨rfl, rfl⟩
  rw [show (one L 48 (sEnc 0 1 (-1) : Nat)).steps = 2 from rfl]
  go_wp2_with fail
  refine (stores_any HV8.out.dev).mono ?_
  rintro e w9 ⟨rfl, rfl⟩
  rw [show (one L 48 (sEnc 0 1 (-1) : Nat)).stores = 1 from rfl]
  go_wp2_with fail
  go_ret
  exact ⟨rfl, HB8.out⟩
end Go.Proofs.YtgnagbbdnlmgeaaGreat.Li
end
section
set_option maxHeartbeats 2000000
set_option maxRecDepth 100000
namespace Go.Proofs.YtgnagbbdnlmgeaaGreat.Vs
open Go Go.RowKit
open Ob Ba Ko Ge Oc Pk Su Rf Dv Vo Ra Lo Li
theorem words_devOf (L : List Int) : Pm.wordsOf (Pm.devOf L) = L := by
  rw [Pm.wordsOf_eq]
  show (List.range L.length).map _ = L
  apply List.ext_getElem?
  intro i
  by_cases hi : i < L.length
  · obtain ⟨x, hx⟩ := some_at hi
    rw [List.getElem?_map, List.getElem?_range hi, hx]
    show some ((Pm.devOf L).load (i : Int)) = some _
    rw [devOf_load hx]
  · rw [List.getElem?_eq_none (by simp; omega), List.getElem?_eq_none (by omega)]
end Go.Proofs.YtgnagbbdnlmgeaaGreat.Vs
end
section
set_option maxHeartbeats 2000000
set_option maxRecDepth 100000
namespace Go.Proofs.YtgnagbbdnlmgeaaGreat.Md
open Go Go.RowKit
open Ob Ba Ko Ge Oc Pk Su Rf Dv Vo Ra Lo Li Vs Bm Rj Ma
theorem lds_drop {d : Dev} {k n : Nat} (hk : k + n ≤ d.las.length) : lds d k n = ((Pm.wordsOf d).drop k).take n := by
  apply List.ext_getElem?
  intro i
  by_cases hi : i < n
  · unfold lds
    rw [List.getElem?_map, List.getElem?_range hi, List.getElem?_take_of_lt hi, List.getElem?_drop, Pm.wordsOf_get d (k + i) (by omega)]
    rfl
  · rw [List.getElem?_eq_none (by rw [lds_length]; omega), List.getElem?_eq_none (by simp; omega)]
end Go.Proofs.YtgnagbbdnlmgeaaGreat.Md
end
section
set_option maxHeartbeats 2000000
set_option maxRecDepth 100000
namespace Go.Proofs.YtgnagbbdnlmgeaaGreat.Vo
open Go Go.RowKit
open Ob Ba Oc Pk Dv Su Mp Ge Lo Ko In
theorem inode_get {w : World} {v b n m s : Nat} {d : Dev} {g : Lay} (h : VolIs w v b n m s d g) (i : Int) (hi : 0 ≤ i ∧ i < (m : Int)) (k : Nat) (hk : (k : Int) = 16 + 8 * i) (ws : List Nat) (hw : lds d k 8 = ints ws) (hws : ∀ x ∈ ws, x < 18446744073709551616) :
    Calls Tryz.prog 19 #[.pointer (some ⟨v, 0, none⟩), .int .i64 i] w fun e w' => D6 ws e ∧ Below w.heap.size w w' := by
  have hu := Tryz.underlying42
  have hsl := inode_ n m s i h.ok
  rw [plc_yes hi, ← hk] at hsl
  have hin := inB_out (ok_out h.ok).1
  have hk9 : k ≤ 1000000000 := by omega
  have hl8 : ws.length = 8 := by rw [← ints_length, ← hw, lds_length]
  have HS := Lib.hid hsl
  have HV := Lib.hid h
  have HLN : Hid (∀ {W : World}, Below w.heap.size w W → _) := fun {W} hb => line_ (h.dev.below hb) k 8 hk9 (by decide)
  rw [hw] at HLN
  have HDE : Hid (∀ {W : World} {A : Option Addr} {c : Nat}, Rk .u64 W A (ints ws) → _) := fun {W A c} hr => decode_ (w := W) (A := A) hr c hl8 hws
  have h2 := h.below (bl_alloc (Below.refl _ _) (.cells #[.int .i64 0, .int .i64 0, .int .i64 0] 42))
  obtain ⟨c0, c1, c2, c3⟩ := h2.cells
  clear h h2 hi hsl hk hin hw hws hl8 hk9
  go_enter Tryz.func19, Tryz.ntmps19
  go_wp2_with fail
  refine (HS.out _).mono ?_
  rintro e w1 ⟨rfl, hb⟩
  have hq1 := Lib.hid (blk_bl (alloc_new w (.cells #[.int .i64 0, .int .i64 0, .int .i64 0] 42)) hb)
  have HB1 := Lib.hid (bl_then (bl_alloc (Below.refl _ _) _) hb)
  have n0 := (HV.out.below HB1.out).cells.1
  clear hb
  go_wp2_with fail
  refine (HLN.out HB1.out).mono ?_
  rintro e w2 ⟨v2, rfl, hown, hb⟩
  obtain ⟨A2, c2, rfl⟩ := own_slice hown
  have hq2 := Lib.hid (blk_bl hq1.out hb)
  have HB2 := Lib.hid (bl_then HB1.out hb)
  have HR2 := Lib.hid (own_rk (k := .u64) hown).1
  clear hb hown
  go_wp2_with fail
  refine (HDE.out HR2.out).mono ?_
  rintro e w3 ⟨he, hb⟩
  obtain ⟨q0, q1, q2, qe, he2, hd⟩ : ∃ q0 q1 q2 qe, e = .returned (.tuple #[.agg #[.int .i64 q0, .int .i64 q1, .int .i64 q2], .int .i64 qe]) ∧ D6 ws (.returned (.tuple #[.agg #[.int .i64 q0, .int .i64 q1, .int .i64 q2], .int .i64 qe])) := ⟨_, _, _, _, he, rfl⟩
  subst he2
  have HD := Lib.hid hd
  have hq3 := Lib.hid (blk_bl hq2.out hb)
  have HB3 := Lib.hid (bl_then HB2.out hb)
  have l0 := cell_of hq3.out 0
  have l1 := cell_of hq3.out 1
  have l2 := cell_of hq3.out 2
  have f0 := free_of hq3.out 0
  have f1 := free_of hq3.out 1
  have f2 := free_of hq3.out 2
  clear he hd hb
  go_wp2_with fail
  exact bodyPost_ret (res_ct (u := 5) rfl _ _ w.heap.size 42 #[.int .i64 q0, .int .i64 q1, .int .i64 q2] (0, 0) _ rfl (put3 hq3.out _ _ _) hu rfl (by kernel_rfl)) rfl ⟨HD.out, bl_put3 HB3.out (Nat.le_refl _) _ _ _⟩
theorem inode_out {w : World} {v b n m s : Nat} {d : Dev} {g : Lay} (h : VolIs w v b n m s d g) (i : Int) (hi : i < 0 ∨ (m : Int) ≤ i) :
    Calls Tryz.prog 19 #[.pointer (some ⟨v, 0, none⟩), .int .i64 i] w fun e w' => e = .returned (.tuple #[.agg #[.int .i64 0, .int .i64 (-1), .int .i64 0], .int .i64 9]) ∧ Below w.heap.size w w' := by
  have hu := Tryz.underlying42
  have hsl := inode_ n m s i h.ok
  rw [plc_no hi] at hsl
  have HS := Lib.hid hsl
  have h2 := h.below (bl_alloc (Below.refl _ _) (.cells #[.int .i64 0, .int .i64 0, .int .i64 0] 42))
  obtain ⟨c0, c1, c2, c3⟩ := h2.cells
  clear h h2 hi hsl
  go_enter Tryz.func19, Tryz.ntmps19
  go_wp2_with fail
  refine (HS.out _).mono ?_
  rintro e w1 ⟨rfl, hb⟩
  have hq1 := Lib.hid (blk_bl (alloc_new w (.cells #[.int .i64 0, .int .i64 0, .int .i64 0] 42)) hb)
  have HB1 := Lib.hid (bl_then (bl_alloc (Below.refl _ _) _) hb)
  clear hb
  go_wp2_with fail
  refine (none_ _).mono ?_
  rintro e w2 ⟨rfl, hb⟩
  have hq2 := Lib.hid (blk_bl hq1.out hb)
  have HB2 := Lib.hid (bl_then HB1.out hb)
  have l0 := cell_of hq2.out 0
  have l1 := cell_of hq2.out 1
  have l2 := cell_of hq2.out 2
  have f0 := free_of hq2.out 0
  have f1 := free_of hq2.out 1
  have f2 := free_of hq2.out 2
  clear hb
  go_wp2_with fail
  exact bodyPost_ret (res_ct (u := 5) rfl _ _ w.heap.size 42 #[.int .i64 0, .int .i64 (-1), .int .i64 0] (0, 0) _ rfl (put3 hq2.out _ _ _) hu rfl (by kernel_rfl)) rfl ⟨rfl, bl_put3 HB2.out (Nat.le_refl _) _ _ _⟩
end Go.Proofs.YtgnagbbdnlmgeaaGreat.Vo
end
section
set_option maxHeartbeats 2000000
set_option maxRecDepth 100000
namespace Go.Proofs.YtgnagbbdnlmgeaaGreat.Jh
open Go Go.RowKit
open Ob Ba Ko Ge Oc Pk Su Rf Dv Vo Ra Lo Li Vs In Iq Je Jd Bm Rj
theorem dws_nat (h l : List Nat) (T : Nat) (hh : ∀ x ∈ h, x < 18446744073709551616) (hl : ∀ x ∈ l, x < 18446744073709551616) :
    ∃ ws : List Nat, dws (ints h) (ints l) T = ints ws ∧ ∀ x ∈ ws, x < 18446744073709551616 := by
  have key : ∀ z ∈ dws (ints h) (ints l) T, ∃ x : Nat, z = (x : Int) ∧ x < 18446744073709551616 := by
    intro z hz
    unfold dws at hz
    rcases List.mem_append.1 hz with hz | hz
    · obtain ⟨x, hx, rfl⟩ := List.mem_map.1 hz
      exact ⟨x, rfl, hh x hx⟩
    · obtain ⟨j, -, rfl⟩ := List.mem_map.1 hz
      unfold rwd
      split
      · exact ⟨0, rfl, by decide⟩
      · rename_i hne
        cases he : (ints l)[(8 + j) % (ints l).length]? with
        | none => exact ⟨0, by simp [List.getD_eq_getElem?_getD, he], by decide⟩
        | some y =>
          have hm := List.mem_of_getElem? he
          obtain ⟨x, hx, rfl⟩ := List.mem_map.1 hm
          exact ⟨x, by simp [List.getD_eq_getElem?_getD, he], hl x hx⟩
  generalize dws (ints h) (ints l) T = L at *
  refine ⟨L.map Int.toNat, ?_, ?_⟩
  · unfold ints
    rw [List.map_map]
    conv => lhs; rw [← List.map_id L]
    apply List.map_congr_left
    intro z hz
    obtain ⟨x, rfl, -⟩ := key z hz
    rfl
  · intro x hx
    obtain ⟨z, hz, rfl⟩ := List.mem_map.1 hx
    obtain ⟨x, rfl, hx9⟩ := key z hz
    exact hx9
theorem geom_ {w : World} {v b n m s : Nat} {d : Dev} {g : Lay} (h : VolIs w v b n m s d g) :
    Calls Tryz.prog 14 #[.pointer (some ⟨v, 0, none⟩)] w fun e w' => e = .returned (.agg #[.int .i64 n, .int .i64 m, .int .i64 s]) ∧ Below w.heap.size w w' := by
  have hu := Tryz.underlying34
  have h2 := h.below (bl_alloc (Below.refl _ _) (.cells #[.int .i64 0, .int .i64 0, .int .i64 0] 34))
  obtain ⟨c0, c1, c2, c3⟩ := h2.cells
  clear h h2
  go_enter Tryz.func14, Tryz.ntmps14
  go_wp2_with fail
  exact bodyPost_ret (res_c rfl _ _ w.heap.size 34 #[.int .i64 n, .int .i64 m, .int .i64 s] (0, 0) _ rfl (alloc_new _ _) hu rfl (by kernel_rfl)) rfl ⟨rfl, bl_alloc (Below.refl _ _) _⟩
end Go.Proofs.YtgnagbbdnlmgeaaGreat.Jh
end
