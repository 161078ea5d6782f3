/- Parts of the proof, one behind the other: Vo, Vr, Rc, Re, Rg, Rh, Ri, Ls, Vt, Wp. -/
import Derived.Test.YtichcdoijieddaaGreatG10
import Derived.Test.YtichcdoijieddaaGreatG01
import Derived.Test.YtichcdoijieddaaGreatG09
import Derived.Test.YtichcdoijieddaaGreatG08
import Derived.Test.YtichcdoijieddaaGreatG02
import Derived.Test.YtichcdoijieddaaGreatG06
import Derived.Test.YtichcdoijieddaaGreatG07

/- volume.Open, Device, SetSlot, Slot. -/
section
set_option linter.unusedVariables false
set_option linter.unusedSimpArgs false
set_option maxHeartbeats 2000000
set_option maxRecDepth 100000
namespace Go.Proofs.YtichcdoijieddaaGreat.Vo
open Go Go.RowKit
open Go.Proofs.YtichcdoijieddaaGreat.Ob Go.Proofs.YtichcdoijieddaaGreat.Ba Go.Proofs.YtichcdoijieddaaGreat.Oc Go.Proofs.YtichcdoijieddaaGreat.Pk Go.Proofs.YtichcdoijieddaaGreat.Dv Go.Proofs.YtichcdoijieddaaGreat.Su Go.Proofs.YtichcdoijieddaaGreat.Mp Go.Proofs.YtichcdoijieddaaGreat.Ge Go.Proofs.YtichcdoijieddaaGreat.Lo Go.Proofs.YtichcdoijieddaaGreat.Ko

def volObj (b n m s : Nat) : Obj := .cells #[.pointer (some ⟨b, 0, none⟩), .int .i64 n, .int .i64 m, .int .i64 s] 116 (0, 0)

structure VolIs (w : World) (v b n m s : Nat) (d : Dev) (g : Lay) : Prop where
  blk : w.heap[v]? = some (volObj b n m s)
  dev : DevIs w b d g
  ok : geoOk n m s = true
  len : (d.las.length : Int) = tot n m s

theorem VolIs.cells {w : World} {v b n m s : Nat} {d : Dev} {g : Lay} (h : VolIs w v b n m s d g) :
    w.cell? ⟨v, 0, none⟩ = some (.pointer (some ⟨b, 0, none⟩)) ∧ w.cell? ⟨v, 1, none⟩ = some (.int .i64 n) ∧ w.cell? ⟨v, 2, none⟩ = some (.int .i64 m) ∧ w.cell? ⟨v, 3, none⟩ = some (.int .i64 s) :=
  ⟨cell_of h.blk 0, cell_of h.blk 1, cell_of h.blk 2, cell_of h.blk 3⟩
theorem VolIs.below {w w' : World} {v b n m s : Nat} {d : Dev} {g : Lay} (h : VolIs w v b n m s d g) (hb : Below w.heap.size w w') : VolIs w' v b n m s d g :=
  ⟨blk_bl h.blk hb, h.dev.below hb, h.ok, h.len⟩
theorem VolIs.apart {w : World} {v b n m s : Nat} {d : Dev} {g : Lay} (h : VolIs w v b n m s d g) : v ∉ g.foot b := not_foot h.dev h.blk (by decide) (by decide) (by decide)
theorem VolIs.to {w w' : World} {v b n m s : Nat} {d d' : Dev} {g : Lay} (h : VolIs w v b n m s d g) (k : DevTo w w' b g d') (hl : d'.las.length = d.las.length) : ∃ g', VolIs w' v b n m s d' g' ∧ (∀ q ∈ g'.foot b, q ∈ g.foot b ∨ w.heap.size ≤ q) ∧ Upd (g.foot b) w w' := by
  obtain ⟨g', h1, h2, h3⟩ := k
  exact ⟨g', ⟨h3.blk h.blk h.apart, h1, h.ok, by rw [hl]; exact h.len⟩, h2, h3⟩

theorem device_ {w : World} {v b n m s : Nat} {d : Dev} {g : Lay} (h : VolIs w v b n m s d g) :
    Calls Tryz.prog 24 #[.pointer (some ⟨v, 0, none⟩)] w fun e w' => e = .returned (.pointer (some ⟨b, 0, none⟩)) ∧ w' = w := by
  obtain ⟨c0, c1, c2, c3⟩ := h.cells
  clear h
  go_enter Tryz.func24, Tryz.ntmps24
  go_wp2
  go_ret
  exact ⟨rfl, rfl⟩

theorem open_ok {w : World} {b : Nat} {d : Dev} {g : Lay} (h : DevIs w b d g) (n m s : Nat) (hok : geoOk n m s = true) (hn : n < 65536) (hm : m < 65536) (hs : s < 65536) (hlen : (d.las.length : Int) = tot n m s) (h8 : 8 ≤ d.las.length)
    (hl : ∀ (i : Nat) x, (enc n m s)[i]? = some x → d.load i = (x : Int)) :
    Calls Tryz.prog 51 #[.pointer (some ⟨b, 0, none⟩)] w fun e w' => ∃ v, e = .returned (.tuple #[.pointer (some ⟨v, 0, none⟩), .int .i64 0]) ∧ w.heap.size ≤ v ∧ VolIs w' v b n m s d g ∧ Below w.heap.size w w' := by
  have hu := Tryz.underlying116
  have HR := Lib.hid (read_ok h n m s hok hn hm hs hlen h8 hl)
  have HD := Lib.hid h
  have HO := Lib.hid (And.intro hok hlen)
  clear h hok hn hm hs hlen h8 hl
  go_enter Tryz.func51, Tryz.ntmps51
  go_wp2_with fail
  refine HR.out.mono ?_
  rintro e w1 ⟨rfl, hb⟩
  have HB := Lib.hid hb
  clear hb HR
  go_wp2_with fail
  go_ret2
  have hb2 : Below w1.heap.size w1 (w1.alloc (.cells #[.int .i64 n, .int .i64 m, .int .i64 s] 83)) := bl_alloc (Below.refl _ _) _
  refine ⟨w1.heap.size + 1, rfl, by have := HB.out.size; omega, ⟨?_, ?_, HO.out.1, HO.out.2⟩, bl_alloc (bl_alloc HB.out _) _⟩
  · have := alloc_new (w1.alloc (.cells #[.int .i64 n, .int .i64 m, .int .i64 s] 83)) (volObj b n m s)
    rw [World.size_alloc] at this
    exact this
  · exact HD.out.below (bl_alloc (bl_alloc HB.out _) _)

theorem plc_no {a i k : Int} (h : i < 0 ∨ k ≤ i) : plc a i k = -1 := by
  unfold plc
  rw [if_neg]
  omega
theorem plc_yes {a i k : Int} (h : 0 ≤ i ∧ i < k) : plc a i k = a := by
  unfold plc
  rw [if_pos h]

theorem setslot_range {w : World} {v b n m s : Nat} {d : Dev} {g : Lay} (h : VolIs w v b n m s d g) (i x y z : Int) (hi : i < 0 ∨ (n : Int) ≤ i) :
    Calls Tryz.prog 52 #[.pointer (some ⟨v, 0, none⟩), .int .i64 i, .agg #[.int .i64 x, .int .i64 y, .int .i64 z]] w fun e w' => e = .returned (.int .i64 9) ∧ Below w.heap.size w w' := by
  have hu := Tryz.underlying88
  have hsl := slot_ n m s i h.ok
  rw [plc_no hi] at hsl
  have HS := Lib.hid hsl
  have h2 := h.below (bl_alloc (Below.refl _ _) (.cells #[.int .i64 x, .int .i64 y, .int .i64 z] 88))
  obtain ⟨c0, c1, c2, c3⟩ := h2.cells
  clear h h2 hi hsl
  go_enter Tryz.func52, Tryz.ntmps52
  go_wp2_with (go_at_call 75; refine (HS.out _).mono ?_; rintro e w1 ⟨rfl, hb⟩; (have HB := Lib.hid hb); clear hb)
  go_ret
  exact ⟨rfl, bl_then (bl_alloc (Below.refl _ _) _) HB.out⟩

theorem setslot_no {w : World} {v b n m s : Nat} {d : Dev} {g : Lay} (h : VolIs w v b n m s d g) (i x y z : Int) (hi : 0 ≤ i ∧ i < (n : Int)) (hmay : sMay x y z = false) :
    Calls Tryz.prog 52 #[.pointer (some ⟨v, 0, none⟩), .int .i64 i, .agg #[.int .i64 x, .int .i64 y, .int .i64 z]] w fun e w' => e = .returned (.int .i64 1) ∧ Below w.heap.size w w' := by
  have hu := Tryz.underlying88
  have hsl := slot_ n m s i h.ok
  rw [plc_yes hi] at hsl
  obtain ⟨k, hk⟩ : ∃ k, k = 16 + 8 * (m : Int) + i := ⟨_, rfl⟩
  rw [← hk] at hsl
  have hk0 : 0 ≤ k := by omega
  have HS := Lib.hid hsl
  have HE := Lib.hid (encode_no x y z hmay)
  have h2 := h.below (bl_alloc (Below.refl _ _) (.cells #[.int .i64 x, .int .i64 y, .int .i64 z] 88))
  obtain ⟨c0, c1, c2, c3⟩ := h2.cells
  clear h h2 hi hsl hk hmay
  go_enter Tryz.func52, Tryz.ntmps52
  go_wp2_with (first | (go_at_call 75; refine (HS.out _).mono ?_; rintro e w1 ⟨rfl, hb⟩; (have hq := blk_bl (alloc_new w (.cells #[.int .i64 x, .int .i64 y, .int .i64 z] 88)) hb); (have m0 := cell_of hq 0); (have m1 := cell_of hq 1); (have m2 := cell_of hq 2); (have HB := Lib.hid hb); clear hb hq) |
    (go_at_call 96; refine (HE.out _).mono ?_; rintro e w2 ⟨rfl, hb⟩; (have HB2 := Lib.hid hb); clear hb))
  go_ret
  exact ⟨rfl, bl_then (bl_then (bl_alloc (Below.refl _ _) _) HB.out) HB2.out⟩

theorem setslot_yes {w : World} {v b n m s : Nat} {d : Dev} {g : Lay} (h : VolIs w v b n m s d g) (hst : d.steps ≤ 1000000000) (i x y z : Int) (hi : 0 ≤ i ∧ i < (n : Int)) (hmay : sMay x y z = true) (k : Nat) (hk : (k : Int) = 16 + 8 * (m : Int) + i)
    (R : Dev × Option Nat) (hR : putGo true [(sEnc x y z : Int)] k ⟨d, 0, []⟩ = R) :
    Calls Tryz.prog 52 #[.pointer (some ⟨v, 0, none⟩), .int .i64 i, .agg #[.int .i64 x, .int .i64 y, .int .i64 z]] w fun e w' => e = .returned (.int .i64 (ecode R)) ∧ DevTo w w' b g R.1 := by
  have hu := Tryz.underlying88
  have hsl := slot_ n m s i h.ok
  rw [plc_yes hi, ← hk] at hsl
  have hin := inB_out (ok_out h.ok).1
  have hk9 : k ≤ 1000000000 := by omega
  have HS := Lib.hid hsl
  have HE := Lib.hid (encode_yes x y z hmay)
  have HV := Lib.hid h
  have HST := Lib.hid hst
  have HR := Lib.hid hR
  have HK9 := Lib.hid hk9
  have h2 := h.below (bl_alloc (Below.refl _ _) (.cells #[.int .i64 x, .int .i64 y, .int .i64 z] 88))
  obtain ⟨c0, c1, c2, c3⟩ := h2.cells
  clear h h2 hi hsl hk hmay hin hst hR hk9
  generalize sEnc x y z = t at *
  go_enter Tryz.func52, Tryz.ntmps52
  go_wp2_with (first | (go_at_call 75; refine (HS.out _).mono ?_; rintro e w1 ⟨rfl, hb⟩; (have hq := blk_bl (alloc_new w (.cells #[.int .i64 x, .int .i64 y, .int .i64 z] 88)) hb); (have m0 := cell_of hq 0); (have m1 := cell_of hq 1); (have m2 := cell_of hq 2); (have HB := Lib.hid hb); clear hb hq) |
    (go_at_call 96; refine (HE.out _).mono ?_; rintro e w2 ⟨rfl, hb⟩; (have HB2 := Lib.hid (bl_then (bl_then (bl_alloc (Below.refl _ _) _) HB.out) hb)); (have HV2 := Lib.hid (HV.out.below HB2.out)); (have n0 := HV2.out.cells.1); clear hb HB))
  have hb3 : Below w2.heap.size w2 (w2.alloc (.cells #[.int .u64 t] 60)) := bl_alloc (Below.refl _ _) _
  have hrk : Rk .u64 (w2.alloc (.cells #[.int .u64 t] 60)) (some ⟨w2.heap.size, 0, none⟩) [(t : Int)] := by
    refine blk_rk (alloc_new w2 (.cells #[.int .u64 t] 60)) fun j u hu => ?_
    match j with
    | 0 => simpa using hu
    | j + 1 => simp at hu
  have hput := put_all (HV2.out.below hb3).dev hrk (fun p hp hm => by
    cases hp
    exact Nat.lt_irrefl _ (HV2.out.dev.lt _ hm)) k 1 HK9.out (by simp) HST.out R HR.out
  refine hput.mono ?_
  rintro e w4 ⟨rfl, hto⟩
  have HTO := Lib.hid hto
  clear hput hto
  go_wp2_with fail
  go_ret
  exact ⟨rfl, by
    obtain ⟨g2, q1, q2, q3⟩ := HTO.out
    have hbb := bl_then HB2.out hb3
    refine ⟨g2, q1, fun u hu => ?_, (Upd.of_below (F := g.foot b) hbb).trans q3 (fun u hu => .inl hu)⟩
    rcases q2 u hu with r | r
    · exact .inl r
    · exact .inr (Nat.le_trans hbb.size r)⟩

end Go.Proofs.YtichcdoijieddaaGreat.Vo
end

/- volume.Slot. -/
section
set_option linter.unusedVariables false
set_option linter.unusedSimpArgs false
set_option maxHeartbeats 2000000
set_option maxRecDepth 100000
namespace Go.Proofs.YtichcdoijieddaaGreat.Vo
open Go Go.RowKit
open Go.Proofs.YtichcdoijieddaaGreat.Ob Go.Proofs.YtichcdoijieddaaGreat.Ba Go.Proofs.YtichcdoijieddaaGreat.Oc Go.Proofs.YtichcdoijieddaaGreat.Pk Go.Proofs.YtichcdoijieddaaGreat.Dv Go.Proofs.YtichcdoijieddaaGreat.Su Go.Proofs.YtichcdoijieddaaGreat.Mp Go.Proofs.YtichcdoijieddaaGreat.Ge Go.Proofs.YtichcdoijieddaaGreat.Lo Go.Proofs.YtichcdoijieddaaGreat.Ko

theorem slot_get {w : World} {v b n m s : Nat} {d : Dev} {g : Lay} (h : VolIs w v b n m s d g) (i : Int) (hi : 0 ≤ i ∧ i < (n : Int)) (k : Nat) (hk : (k : Int) = 16 + 8 * (m : Int) + i) (x : Nat) (hx : x < 18446744073709551616) (hl : d.load k = (x : Int)) (S : Int × Int × Int × Int)
    (hS : ∀ e, SDec x (pa x) (pb x) (pc x) e → e = .returned (.tuple #[.agg #[.int .i64 S.1, .int .i64 S.2.1, .int .i64 S.2.2.1], .int .i64 S.2.2.2])) :
    Calls Tryz.prog 37 #[.pointer (some ⟨v, 0, none⟩), .int .i64 i] w fun e w' => e = .returned (.tuple #[.agg #[.int .i64 S.1, .int .i64 S.2.1, .int .i64 S.2.2.1], .int .i64 S.2.2.2]) ∧ Below w.heap.size w w' := by
  have hu := Tryz.underlying88
  have hsl := slot_ n m s i h.ok
  rw [plc_yes hi, ← hk] at hsl
  have HS := Lib.hid hsl
  have HV := Lib.hid h
  have HDC : Hid (∀ w, Calls Tryz.prog 76 #[.int .u64 x] w fun e w' => e = .returned (.tuple #[.agg #[.int .i64 S.1, .int .i64 S.2.1, .int .i64 S.2.2.1], .int .i64 S.2.2.2]) ∧ Below w.heap.size w w') :=
    fun w => (decode_ x hx _ _ _ rfl rfl rfl w).mono fun e w' he => ⟨hS e he.1, he.2⟩
  have HLD : Hid (∀ W, DevIs W b d g → Calls Tryz.prog 77 #[.pointer (some ⟨b, 0, none⟩), .int .i64 k] W fun e w' => e = .returned (.int .u64 x) ∧ ∃ n, w' = W.drewN n) := by
    intro W hW
    have h9 := Go.Proofs.YtichcdoijieddaaGreat.Pm.load_any hW (k : Int)
    rw [hl] at h9
    exact h9
  have h2 := h.below (bl_alloc (Below.refl _ _) (.cells #[.int .i64 0, .int .i64 0, .int .i64 0] 88))
  obtain ⟨c0, c1, c2, c3⟩ := h2.cells
  clear h h2 hi hsl hk hS hl
  obtain ⟨s1, s2, s3, s4⟩ := S
  go_enter Tryz.func37, Tryz.ntmps37
  go_wp2_with (first | (go_at_call 75; refine (HS.out _).mono ?_; rintro e w1 ⟨rfl, hb⟩; (have hq := blk_bl (alloc_new w (.cells #[.int .i64 0, .int .i64 0, .int .i64 0] 88)) hb); (have HQ := Lib.hid hq); (have HB := Lib.hid (bl_then (bl_alloc (Below.refl _ _) _) hb)); (have HV2 := Lib.hid (HV.out.below HB.out)); (have n0 := HV2.out.cells.1); clear hb hq) |
    (go_at_call 77; refine (HLD.out _ HV2.out.dev).mono ?_; rintro e w2 ⟨rfl, q, hw2⟩; (have HW2 : Hid (Below w1.heap.size w1 w2) := by rw [hw2]; exact bl_drewN (Below.refl _ _) q); clear hw2) |
    (go_at_call 76; refine (HDC.out _).mono ?_; rintro e w3 ⟨rfl, hb⟩; (have HB3 := Lib.hid (bl_then HW2.out hb)); (have hq3 := blk_bl HQ.out HB3.out); (have l0 := cell_of hq3 0); (have l1 := cell_of hq3 1); (have l2 := cell_of hq3 2); (have f0 := free_of hq3 0); (have f1 := free_of hq3 1); (have f2 := free_of hq3 2); (have HQ3 := Lib.hid hq3); clear hb hq3))
  exact bodyPost_ret (res_ct (u := 5) rfl _ _ w.heap.size 88 #[.int .i64 s1, .int .i64 s2, .int .i64 s3] (0, 0) _ rfl (put3 HQ3.out _ _ _) hu rfl (by kernel_rfl)) rfl ⟨rfl, bl_put3 (bl_then HB.out HB3.out) (Nat.le_refl _) _ _ _⟩

theorem slot_out {w : World} {v b n m s : Nat} {d : Dev} {g : Lay} (h : VolIs w v b n m s d g) (i : Int) (hi : i < 0 ∨ (n : Int) ≤ i) :
    Calls Tryz.prog 37 #[.pointer (some ⟨v, 0, none⟩), .int .i64 i] w fun e w' => e = .returned (.tuple #[.agg #[.int .i64 0, .int .i64 0, .int .i64 0], .int .i64 9]) ∧ Below w.heap.size w w' := by
  have hu := Tryz.underlying88
  have hsl := slot_ n m s i h.ok
  rw [plc_no hi] at hsl
  have HS := Lib.hid hsl
  have h2 := h.below (bl_alloc (Below.refl _ _) (.cells #[.int .i64 0, .int .i64 0, .int .i64 0] 88))
  obtain ⟨c0, c1, c2, c3⟩ := h2.cells
  clear h h2 hi hsl
  go_enter Tryz.func37, Tryz.ntmps37
  go_wp2_with (first | (go_at_call 75; refine (HS.out _).mono ?_; rintro e w1 ⟨rfl, hb⟩; (have hq := blk_bl (alloc_new w (.cells #[.int .i64 0, .int .i64 0, .int .i64 0] 88)) hb); (have l0 := cell_of hq 0); (have l1 := cell_of hq 1); (have l2 := cell_of hq 2); (have f0 := free_of hq 0); (have f1 := free_of hq 1); (have f2 := free_of hq 2); (have HQ3 := Lib.hid hq); (have HB := Lib.hid (bl_then (bl_alloc (Below.refl _ _) _) hb)); clear hb hq))
  exact bodyPost_ret (res_ct (u := 5) rfl _ _ w.heap.size 88 #[.int .i64 0, .int .i64 0, .int .i64 0] (0, 0) _ rfl (put3 HQ3.out _ _ _) hu rfl (by kernel_rfl)) rfl ⟨rfl, bl_put3 HB.out (Nat.le_refl _) _ _ _⟩

end Go.Proofs.YtichcdoijieddaaGreat.Vo
end

/- The laws' raw images opened (cantlelaw15.open). -/
section
set_option linter.unusedVariables false
set_option linter.unusedSimpArgs false
set_option maxHeartbeats 2000000
set_option maxRecDepth 100000
namespace Go.Proofs.YtichcdoijieddaaGreat.Ra
open Go Go.RowKit
open Go.Proofs.YtichcdoijieddaaGreat.Ob Go.Proofs.YtichcdoijieddaaGreat.Ba Go.Proofs.YtichcdoijieddaaGreat.Ko Go.Proofs.YtichcdoijieddaaGreat.Ge Go.Proofs.YtichcdoijieddaaGreat.Oc Go.Proofs.YtichcdoijieddaaGreat.Pk Go.Proofs.YtichcdoijieddaaGreat.Su Go.Proofs.YtichcdoijieddaaGreat.Rf Go.Proofs.YtichcdoijieddaaGreat.Dv Go.Proofs.YtichcdoijieddaaGreat.Vo

theorem devOf_load {L : List Int} {i : Nat} {x : Int} (h : L[i]? = some x) : (Pm.devOf L).load (i : Int) = x := by
  have hi := (List.getElem?_eq_some_iff.1 h).1
  unfold Dev.load Dev.lasting Dev.inn Dev.find Pm.devOf
  simp [hi, h]
  exact (List.getElem?_eq_some_iff.1 h).2

theorem _root_.Go.Proofs.YtichcdoijieddaaGreat.Vo.VolIs.keep {w w' : World} {v b n m s : Nat} {d : Dev} {g : Lay} (h : VolIs w v b n m s d g) (hv : w'.heap[v]? = w.heap[v]?) (hk : ∀ k ∈ g.foot b, w'.heap[k]? = w.heap[k]?) : VolIs w' v b n m s d g :=
  ⟨hv.trans h.blk, h.dev.keep hk, h.ok, h.len⟩

theorem drew_heap (W : World) (k : Nat) : W.drew.heap[k]? = W.heap[k]? := rfl

/-- an image opened: the volume, the device, the words beside it -/
structure Opn (w W : World) (v b n m s T : Nat) (L : List Int) (g : Lay) (vw : Value) : Prop where
  vol : VolIs W v b n m s (Pm.devOf L) g
  foot : ∀ k ∈ g.foot b, w.heap.size ≤ k
  row : W.ownsRow w.heap.size 60 1 vw T (ivs .u64 L)
  apart : ∀ k, vw.ownBlock = some k → k ∉ g.foot b
  vlo : w.heap.size ≤ v
  below : Below w.heap.size w W

theorem open_ (r0 r1 r2 : Nat) (h0 : r0 < 256) (h1 : r1 < 256) (h2 : r2 < 256) {A : Option Addr} {l : List Int} (c : Nat) {w : World} (h : Rk .u64 w A l) (hl9 : l.length ≤ 9223372036854775807) (n m s T : Nat) (hn : n = gB r0) (hm : m = gB r1) (hs : s = gS r2) (hT : (T : Int) = tot n m s) :
    Calls Tryz.prog 7 #[.agg #[.int .u8 r0, .int .u8 r1, .int .u8 r2, .slice A l.length c]] w fun e w' => ∃ v b g vw, e = .returned (.tuple #[.pointer (some ⟨v, 0, none⟩), .agg (vcells n m s vw)]) ∧ Opn w w' v b n m s T (dws (ints (enc n m s)) l T) g vw := by
  have hu := Tryz.underlying33
  have hok : geoOk n m s = true := by rw [hn, hm, hs]; exact g_ok r0 r1 r2
  have htt := g_tot r0 r1 r2
  rw [← hn, ← hm, ← hs, ← hT] at htt
  have hn9 : n < 65536 := by have := gB_in r0; omega
  have hm9 : m < 65536 := by have := gB_in r1; omega
  have hs9 : s < 65536 := by have := gS_or r2; omega
  have hlen : (dws (ints (enc n m s)) l T).length = T := dws_length _ _ _ rfl (by omega)
  have htk : (dws (ints (enc n m s)) l T).take 8 = ints (enc n m s) := dws_take8 _ _ _ rfl
  have HDV : Hid (∀ {W : World}, Rk .u64 W A l → _) := fun {W} hW => device_ r0 r1 r2 h0 h1 h2 c (w := W) hW hl9 n m s T hn hm hs hT
  have HOP : Hid (∀ {W : World} {b : Nat} {g : Lay}, DevIs W b (Pm.devOf (dws (ints (enc n m s)) l T)) g → _) := fun {W} {b} {g} hD => open_ok hD n m s hok hn9 hm9 hs9 (by show ((dws (ints (enc n m s)) l T).length : Int) = _; rw [hlen, hT]) (by show 8 ≤ (dws (ints (enc n m s)) l T).length; rw [hlen]; omega) (fun i x hx => by
    refine devOf_load ?_
    have hi := (List.getElem?_eq_some_iff.1 hx).1
    have h8 : i < 8 := hi
    have h9 : ((dws (ints (enc n m s)) l T).take 8)[i]? = some (x : Int) := by rw [htk]; exact ints_get hx
    rw [List.getElem?_take, if_pos h8] at h9
    exact h9)
  have HV : Hid (∀ v, vcells n m s v = #[.int .i64 n, .int .i64 m, .int .i64 s, .int .i64 16, .int .i64 (16 + 8 * m), .int .i64 (bmAt n m), .int .i64 (bkAt n m), .int .i64 (tot n m s), v]) := fun _ => rfl
  have H := Lib.hid h
  generalize dws (ints (enc n m s)) l T = L at *
  generalize vcells n m s = vc at *
  obtain ⟨len, hle⟩ : ∃ len, len = l.length := ⟨_, rfl⟩
  rw [← hle] at HDV
  rw [← hle]
  clear h hl9 hn hm hs hT hok htt h0 h1 h2 hlen htk hle hn9 hm9 hs9
  generalize (16 + 8 * m : Int) = p2 at *
  generalize bmAt n m = p3 at *
  generalize bkAt n m = p4 at *
  generalize tot n m s = p5 at *
  go_enter Tryz.func7, Tryz.ntmps7
  go_wp2_with fail
  refine (HDV.out (H.out.below (bl_alloc (bl_alloc (Below.refl _ _) (.cells #[.int .u8 r0, .int .u8 r1, .int .u8 r2, .slice A len c] 24)) (.cells #[.int .i64 0, .int .i64 0, .int .i64 0, .int .i64 0, .int .i64 0, .int .i64 0, .int .i64 0, .int .i64 0, .slice none 0 0] 33)))).mono ?_
  rintro e w1 ⟨b, g, vw, rfl, hd1, hf1, ho1, ha1, hb1⟩
  obtain ⟨A8, c8, e8⟩ := own_slice ho1
  subst e8
  rw [HV.out]
  have hqz := alloc_new (w.alloc (.cells #[.int .u8 r0, .int .u8 r1, .int .u8 r2, .slice A len c] 24)) (.cells #[.int .i64 0, .int .i64 0, .int .i64 0, .int .i64 0, .int .i64 0, .int .i64 0, .int .i64 0, .int .i64 0, .slice none 0 0] 33)
  rw [World.size_alloc] at hqz
  have HZ1 := Lib.hid (blk_bl hqz hb1)
  have hsz := hb1.size
  simp only [World.size_alloc] at hsz hf1 ho1
  have HS1 : Hid (w.heap.size + 2 ≤ w1.heap.size) := hsz
  have HB1 := Lib.hid (bl_then (bl_alloc (bl_alloc (Below.refl _ _) _) _) hb1)
  have hbv : Below w1.heap.size w1 (w1.alloc (.cells #[.int .i64 n, .int .i64 m, .int .i64 s, .int .i64 16, .int .i64 p2, .int .i64 p3, .int .i64 p4, .int .i64 p5, .slice A8 T c8] 33)) := bl_alloc (Below.refl _ _) _
  have HOPN := Lib.hid (HOP.out (hd1.below hbv))
  have HALL := Lib.hid (And.intro hf1 (And.intro ho1 ha1))
  clear hqz hb1 hsz hf1 ho1 ha1 hbv hd1
  go_wp2_with (go_at_call 51; refine HOPN.out.mono ?_; rintro e w2 ⟨v, rfl, hv, hvol, hb2⟩; (have HVB := Lib.hid (blk_bl (alloc_new w1 (.cells #[.int .i64 n, .int .i64 m, .int .i64 s, .int .i64 16, .int .i64 p2, .int .i64 p3, .int .i64 p4, .int .i64 p5, .slice A8 T c8] 33)) hb2)); (have hb3 := bl_then (bl_alloc (Below.refl _ _) _) hb2); (have HZ2 := Lib.hid (blk_bl HZ1.out hb3)); (have HV2 := Lib.hid (And.intro hv hvol)); (have HB3 := Lib.hid hb3); clear hv hvol hb2 hb3)
  have hxv := HVB.out
  have hxz := HZ2.out
  have m0 := cell_of hxv 0
  have m1 := cell_of hxv 1
  have m2 := cell_of hxv 2
  have m3 := cell_of hxv 3
  have m4 := cell_of hxv 4
  have m5 := cell_of hxv 5
  have m6 := cell_of hxv 6
  have m7 := cell_of hxv 7
  have m8 := cell_of hxv 8
  have z0 := cell_of hxz 0
  have z1 := cell_of hxz 1
  have z2 := cell_of hxz 2
  have z3 := cell_of hxz 3
  have z4 := cell_of hxz 4
  have z5 := cell_of hxz 5
  have z6 := cell_of hxz 6
  have z7 := cell_of hxz 7
  have z8 := cell_of hxz 8
  have f0 := free_of hxz 0
  have f1 := free_of hxz 1
  have f2 := free_of hxz 2
  have f3 := free_of hxz 3
  have f4 := free_of hxz 4
  have f5 := free_of hxz 5
  have f6 := free_of hxz 6
  have f7 := free_of hxz 7
  have f8 := free_of hxz 8
  have hz2 : Hid (w.heap.size + 2 ≤ w2.heap.size) := Nat.le_trans HS1.out HB3.out.size
  clear hxv hxz
  go_region
  go_wp2
  have hp9 := put9 HZ2.out (.int .i64 n) (.int .i64 m) (.int .i64 s) (.int .i64 16) (.int .i64 p2) (.int .i64 p3) (.int .i64 p4) (.int .i64 p5) (.slice A8 T c8)
  have hb0 := bl_then HB1.out HB3.out
  have hb9 := bl_put9 hb0 (Nat.le_succ _) (.int .i64 n) (.int .i64 m) (.int .i64 s) (.int .i64 16) (.int .i64 p2) (.int .i64 p3) (.int .i64 p4) (.int .i64 p5) (.slice A8 T c8)
  have hsa := HS1.out
  have ho2 := own_bl HALL.out.2.1 HB3.out
  have ho9 := own_low9 ho2 (q := w.heap.size + 1) (by omega) (.int .i64 n) (.int .i64 m) (.int .i64 s) (.int .i64 16) (.int .i64 p2) (.int .i64 p3) (.int .i64 p4) (.int .i64 p5) (.slice A8 T c8)
  have hvlo : w1.heap.size + 1 ≤ v := by have := HV2.out.1; simpa using this
  refine bodyPost_ret (res_tc (u := 2) rfl _ _ (w.heap.size + 1) 33 _ (0, 0) _ rfl ((drew_heap _ _).trans hp9) hu rfl ?_) rfl ⟨v, b, g, .slice A8 T c8, by rw [HV.out]; rfl, ⟨?_, ?_, own_base (own_kp ho9 (fun _ _ _ => drew_heap _ _)) (by omega), HALL.out.2.2, by omega, bl_drew hb9⟩⟩
  · kernel_rfl
  · exact VolIs.keep HV2.out.2 ((drew_heap _ _).trans (put9_other (by omega))) (fun k hk => (drew_heap _ _).trans (put9_other (by have := HALL.out.1 k hk; omega)))
  · intro k hk
    have := HALL.out.1 k hk
    omega

end Go.Proofs.YtichcdoijieddaaGreat.Ra
end

/- The laws' looks at a volume: still, wrote. -/
section
set_option linter.unusedVariables false
set_option linter.unusedSimpArgs false
set_option maxHeartbeats 2000000
set_option maxRecDepth 100000
namespace Go.Proofs.YtichcdoijieddaaGreat.Ra
open Go Go.RowKit
open Go.Proofs.YtichcdoijieddaaGreat.Ob Go.Proofs.YtichcdoijieddaaGreat.Ba Go.Proofs.YtichcdoijieddaaGreat.Ko Go.Proofs.YtichcdoijieddaaGreat.Ge Go.Proofs.YtichcdoijieddaaGreat.Oc Go.Proofs.YtichcdoijieddaaGreat.Pk Go.Proofs.YtichcdoijieddaaGreat.Su Go.Proofs.YtichcdoijieddaaGreat.Rf Go.Proofs.YtichcdoijieddaaGreat.Dv Go.Proofs.YtichcdoijieddaaGreat.Vo

/-- a world that grew behind one -/
structure Gr (w W : World) : Prop where
  below : Below w.heap.size w W
  size : w.heap.size < W.heap.size
theorem gr_keep {w W W' : World} {c8 : Value} (h : W.cell? ⟨w.heap.size, 8, none⟩ = some c8 ∧ Gr w W) (hb : Below W.heap.size W W') : W'.cell? ⟨w.heap.size, 8, none⟩ = some c8 ∧ Gr w W' := by
  obtain ⟨h1, h2, h3⟩ := h
  exact ⟨(hb.cell (p := ⟨_, 8, none⟩) h3).trans h1, bl_then h2 hb, Nat.lt_of_lt_of_le h3 hb.size⟩
theorem gr_of {w W : World} {c8 : Value} (h : W.cell? ⟨w.heap.size, 8, none⟩ = some c8 ∧ Gr w W) : Gr w W := h.2
theorem gr_start {w W : World} {y0 y1 y2 y3 y4 y5 y6 y7 c8 : Value} {T : TypeId} (h : W = (w.alloc (.cells #[y0, y1, y2, y3, y4, y5, y6, y7, c8] T)).drew) : W.cell? ⟨w.heap.size, 8, none⟩ = some c8 ∧ Gr w W := by
  subst h
  exact ⟨cell_of (alloc_new w _) 8, bl_drew (bl_alloc (Below.refl _ _) _), by show _ < _; simp⟩

theorem still_yes {w : World} {v b n m s : Nat} {d : Dev} {g : Lay} (h : VolIs w v b n m s d g) (hA : g.A = none → g.c = 0) (h0 : d.steps = 0) {A : Option Addr} {c : Nat} (hr : Rk .u64 w A (Pm.wordsOf d)) (y0 y1 y2 y3 y4 y5 y6 y7 : Int) :
    Calls Tryz.prog 11 #[.pointer (some ⟨v, 0, none⟩), .agg #[.int .i64 y0, .int .i64 y1, .int .i64 y2, .int .i64 y3, .int .i64 y4, .int .i64 y5, .int .i64 y6, .int .i64 y7, .slice A d.las.length c]] w fun e w' => e = .returned (.bool true) ∧ Below w.heap.size w w' := by
  have hu := Tryz.underlying33
  have hl9 := h.dev.wf.len
  have HDV : Hid (∀ {W}, Below w.heap.size w W → _) := fun {W} hb => Vo.device_ (h.below hb)
  have HWD : Hid (∀ {W}, Below w.heap.size w W → _) := fun {W} hb => Pm.words_any (h.dev.below hb) hA
  have HST : Hid (∀ {W}, Below w.heap.size w W → _) := fun {W} hb => Pm.steps_any (h.dev.below hb)
  have HSM : Hid (∀ {W : World} {A2 : Option Addr} {c2 : Nat}, Below w.heap.size w W → Rk .u64 W A2 (Pm.wordsOf d) → Calls Tryz.prog 23 #[.slice A2 d.las.length c2, .slice A d.las.length c] W fun e w' => e = .returned (.bool true) ∧ ∃ n, w' = W.drewN n) := by
    intro W A2 c2 hb hr2
    have h9 := Pm.same_words (rk_rd hr2) (rk_rd (hr.below hb)) c2 c (by rw [Pm.wordsOf_length]; omega) (by rw [Pm.wordsOf_length]; omega)
    rw [Pm.wordsOf_length, decide_eq_true rfl] at h9
    exact h9
  rw [h0] at HST
  obtain ⟨len, hle⟩ : ∃ len, len = d.las.length := ⟨_, rfl⟩
  rw [← hle] at HSM HWD
  rw [← hle]
  clear h hA h0 hr hl9 hle
  go_enter Tryz.func11, Tryz.ntmps11
  go_wp2_with fail
  go_region_held3 (fun w' => w'.cell? ⟨w.heap.size, 8, none⟩ = some (.slice A len c) ∧ Gr w w')
    (first | assumption | exact gr_start rfl | exact gr_keep ‹_› ‹_›)
    (first | (go_at_call 24; refine (HDV.out (gr_of ‹_›).below).mono ?_; rintro e w2 ⟨rfl, rfl⟩) |
      (go_at_call 25; refine (HWD.out (gr_of ‹_›).below).mono ?_; rintro e w3 ⟨v3, rfl, hown, hb⟩; (obtain ⟨A3, c3, rfl⟩ := own_slice hown); (have HOW3 := Lib.hid (own_rk (k := .u64) hown).1); clear hown) |
      (go_at_call 23; refine (HSM.out (gr_of ‹_›).below HOW3.out).mono ?_; rintro e w4 ⟨rfl, q4, hw4⟩; (have hb4 : Below w3.heap.size w3 w4 := by rw [hw4]; exact bl_drewN (Below.refl _ _) _); clear hw4) |
      (go_at_call 27; refine (HST.out (gr_of ‹_›).below).mono ?_; rintro e w5 ⟨rfl, rfl⟩))
  all_goals
    go_wp2
    go_ret
    exact ⟨rfl, (gr_of ‹_›).below⟩

end Go.Proofs.YtichcdoijieddaaGreat.Ra
end

/- The laws' look at a volume that was written: wrote. -/
section
set_option linter.unusedVariables false
set_option linter.unusedSimpArgs false
set_option maxHeartbeats 2000000
set_option maxRecDepth 100000
namespace Go.Proofs.YtichcdoijieddaaGreat.Ra
open Go Go.RowKit
open Go.Proofs.YtichcdoijieddaaGreat.Ob Go.Proofs.YtichcdoijieddaaGreat.Ba Go.Proofs.YtichcdoijieddaaGreat.Ko Go.Proofs.YtichcdoijieddaaGreat.Ge Go.Proofs.YtichcdoijieddaaGreat.Oc Go.Proofs.YtichcdoijieddaaGreat.Pk Go.Proofs.YtichcdoijieddaaGreat.Su Go.Proofs.YtichcdoijieddaaGreat.Rf Go.Proofs.YtichcdoijieddaaGreat.Dv Go.Proofs.YtichcdoijieddaaGreat.Vo

theorem stores_any {w : World} {b : Nat} {d : Dev} {g : Lay} (h : DevIs w b d g) :
    Calls Tryz.prog 26 #[.pointer (some ⟨b, 0, none⟩)] w fun e w' => e = .returned (.int .i64 d.stores) ∧ w = w' := by
  obtain ⟨c0, c1, c2, c3, c4, c5⟩ := Pm.dev_cells h
  go_enter Tryz.func26, Tryz.ntmps26
  go_wp2
  go_ret
  exact ⟨rfl, rfl⟩

theorem wrote_yes {w : World} {v b n m s : Nat} {d : Dev} {g : Lay} (h : VolIs w v b n m s d g) (hA : g.A = none → g.c = 0) {A B : Option Addr} {l xs : List Int} {c c2 : Nat} (hr : Rk .u64 w A l) (hx : Rk .u64 w B xs) (a : Nat) (hl : 1 ≤ l.length) (ha : a + xs.length ≤ l.length)
    (hw : Pm.wordsOf d = wput l a xs) (h0 : d.stores = xs.length) (h1 : d.steps = xs.length + nline a xs.length) (y0 y1 y2 y3 y4 y5 y6 y7 : Int) :
    Calls Tryz.prog 13 #[.pointer (some ⟨v, 0, none⟩), .agg #[.int .i64 y0, .int .i64 y1, .int .i64 y2, .int .i64 y3, .int .i64 y4, .int .i64 y5, .int .i64 y6, .int .i64 y7, .slice A l.length c], .int .i64 a, .slice B xs.length c2] w fun e w' => e = .returned (.bool true) ∧ Below w.heap.size w w' := by
  have hu := Tryz.underlying33
  have hl9 := h.dev.wf.len
  have hll : d.las.length = l.length := by
    have := congrArg List.length hw
    rw [Pm.wordsOf_length, wput_length] at this
    exact this
  rw [hll] at hl9
  have HDV : Hid (∀ {W}, Below w.heap.size w W → _) := fun {W} hb => Vo.device_ (h.below hb)
  have HWD : Hid (∀ {W}, Below w.heap.size w W → _) := fun {W} hb => Pm.words_any (h.dev.below hb) hA
  have HST : Hid (∀ {W}, Below w.heap.size w W → _) := fun {W} hb => Pm.steps_any (h.dev.below hb)
  have HSO : Hid (∀ {W}, Below w.heap.size w W → _) := fun {W} hb => stores_any (h.dev.below hb)
  have HPUT : Hid (∀ {W}, Below w.heap.size w W → _) := fun {W} hb => put15_ (hr.below hb) (hx.below hb) y0 y1 y2 y3 y4 y5 y6 y7 a c c2 hl hl9 ha
  have HSM : Hid (∀ {W : World} {A2 A8 : Option Addr} {c2 c8 : Nat}, Rk .u64 W A8 (wput l a xs) → Rk .u64 W A2 (Pm.wordsOf d) → Calls Tryz.prog 23 #[.slice A2 l.length c2, .slice A8 l.length c8] W fun e w' => e = .returned (.bool true) ∧ ∃ n, w' = W.drewN n) := by
    intro W A2 A8 c2 c8 hb hr2
    have h9 := Pm.same_words (rk_rd hr2) (rk_rd hb) c2 c8 (by rw [hw, wput_length]; omega) (by rw [wput_length]; omega)
    rw [hw, wput_length, decide_eq_true rfl] at h9
    exact h9
  have hnl := nline_le a xs.length
  rw [h0] at HSO
  rw [h1] at HST
  rw [hll] at HWD
  generalize nline a xs.length = q at *
  generalize xs.length = k at *
  generalize l.length = len at *
  have e5 : ((k + q : Nat) : Int) = (k : Int) + q := by omega
  rw [e5] at HST
  clear h hA h0 h1 hr hx hl hw hll e5
  go_enter Tryz.func13, Tryz.ntmps13
  go_wp2_with fail
  refine (HPUT.out (bl_alloc (Below.refl _ _) _)).mono ?_
  rintro e w1 ⟨v8, rfl, ho, hb1⟩
  obtain ⟨A8, c8, e8⟩ := own_slice ho
  subst e8
  have HR8 := Lib.hid (own_rk ho).1
  have HB1 := Lib.hid (bl_then (bl_alloc (Below.refl _ _) _) hb1)
  clear ho hb1 HPUT
  go_wp2_with (go_at_call 24; refine (HDV.out (bl_alloc HB1.out _)).mono ?_; rintro e w2 ⟨rfl, rfl⟩)
  have hwr : IntKind.i64.wrap ((k : Int) + q) = (k : Int) + q := IntWalk.i64_in _ (by omega)
  go_region_held3 (fun w' => w'.cell? ⟨w1.heap.size, 8, none⟩ = some (.slice A8 len c8) ∧ Gr w1 w')
    (first | assumption | exact gr_start rfl | exact gr_keep ‹_› ‹_›)
    (first | (go_at_call 25; refine (HWD.out (bl_then HB1.out (gr_of ‹_›).below)).mono ?_; rintro e w3 ⟨v3, rfl, hown, hb⟩; (obtain ⟨A3, c3, rfl⟩ := own_slice hown); (have HOW3 := Lib.hid (own_rk (k := .u64) hown).1); clear hown) |
      (go_at_call 23; refine (HSM.out (HR8.out.below (gr_of ‹_›).below) HOW3.out).mono ?_; rintro e w4 ⟨rfl, q4, hw4⟩; (have hb4 : Below w3.heap.size w3 w4 := by rw [hw4]; exact bl_drewN (Below.refl _ _) _); clear hw4) |
      (go_at_call 26; refine (HSO.out (bl_then HB1.out (gr_of ‹_›).below)).mono ?_; rintro e w5 ⟨rfl, rfl⟩) |
      (go_at_call 27; refine (HST.out (bl_then HB1.out (gr_of ‹_›).below)).mono ?_; rintro e w6 ⟨rfl, rfl⟩))
  all_goals
    go_wp2
    go_ret
    exact ⟨rfl, bl_then HB1.out (gr_of ‹_›).below⟩

end Go.Proofs.YtichcdoijieddaaGreat.Ra
end

/- One word put into a device that was made of words. -/
section
set_option linter.unusedVariables false
set_option linter.unusedSimpArgs false
namespace Go.Proofs.YtichcdoijieddaaGreat.Ra
open Go Go.RowKit
open Go.Proofs.YtichcdoijieddaaGreat.Ob Go.Proofs.YtichcdoijieddaaGreat.Ba Go.Proofs.YtichcdoijieddaaGreat.Oc Go.Proofs.YtichcdoijieddaaGreat.Pk Go.Proofs.YtichcdoijieddaaGreat.Rf Go.Proofs.YtichcdoijieddaaGreat.Dv Go.Proofs.YtichcdoijieddaaGreat.Vo

/-- the device behind one word stored and its line flushed -/
def one (L : List Int) (k : Nat) (x : Int) : Dev := ⟨2, 1, L, [((k : Int), ⟨[x], 1⟩)], none⟩
theorem put_one (L : List Int) (k : Nat) (x : Int) (hk : k < L.length) : putGo true [x] k ⟨Pm.devOf L, 0, []⟩ = (one L k x, some 1) := by
  have h1 : (Pm.devOf L).storeOk k = true := by simp [Dev.storeOk, Dev.inn, Dev.down, Pm.devOf, hk]
  have h2 : (Pm.devOf L).stored k x = ⟨1, 1, L, [((k : Int), ⟨[x], 0⟩)], none⟩ := by
    unfold Dev.stored
    rw [h1]
    simp [Dev.stepped, Pm.devOf, Dev.find]
  rw [putGo_store rfl h1, h2]
  have h3 : (⟨1, 1, L, [((k : Int), ⟨[x], 0⟩)], none⟩ : Dev).flushOk ((k / 8 : Nat) : Int) = true := by
    simp [Dev.flushOk, Dev.down]
    omega
  show flushGo (addLn [] (k / 8)) _ _ = _
  show (if Dev.flushOk _ ((k / 8 : Nat) : Int) then flushGo [] (Dev.flushed _ ((k / 8 : Nat) : Int)) _ else _) = _
  rw [if_pos h3]
  show ((Dev.flushed _ ((k / 8 : Nat) : Int)), some 1) = _
  unfold Dev.flushed
  rw [h3]
  simp [Dev.stepped, flushPen, one]
theorem one_load (L : List Int) (k : Nat) (x : Int) : (one L k x).load k = x := by
  simp [Dev.load, Dev.find, one]
theorem one_words (L : List Int) (k : Nat) (x : Int) (hk : k < L.length) : Pm.wordsOf (one L k x) = wput L k [x] := by
  rw [Pm.wordsOf_eq]
  show (List.range L.length).map _ = L.set k x
  apply List.ext_getElem?
  intro i
  by_cases hi : i < L.length
  · rw [List.getElem?_map, List.getElem?_range hi, List.getElem?_set]
    show some ((one L k x).load (i : Int)) = _
    by_cases e : k = i
    · subst e
      rw [one_load, if_pos rfl, if_pos hk]
    · rw [if_neg e]
      have hne : ¬ ((k : Int) = (i : Int)) := by omega
      simp [Dev.load, Dev.find, one, hne, Dev.lasting, Dev.inn, hi]
  · rw [List.getElem?_eq_none (by simp; omega), List.getElem?_eq_none (by simp; omega)]

end Go.Proofs.YtichcdoijieddaaGreat.Ra
end

/- A slot's word gives the slot back. -/
section
set_option linter.unusedVariables false
set_option linter.unusedSimpArgs false
namespace Go.Proofs.YtichcdoijieddaaGreat.Lo
open Go Go.RowKit
open Go.Proofs.YtichcdoijieddaaGreat.Su

theorem sEnc_lt (s c n : Int) (h : sMay s c n = true) : sEnc s c n < 18446744073709551616 := by
  obtain ⟨h1, h2, h3, h4, h5, h6⟩ := of_decide_eq_true h
  unfold sEnc
  have := sSum_lt (word1 s.toNat c.toNat (nx n))
  have hk : nx n < 65536 := by unfold nx; split <;> omega
  have hw : word1 s.toNat c.toNat (nx n) < 281474976710656 := by unfold word1; omega
  omega
theorem sEnc_parts (s c n : Int) (h : sMay s c n = true) : pa (sEnc s c n) = s.toNat ∧ pb (sEnc s c n) = c.toNat ∧ pc (sEnc s c n) = nx n := by
  obtain ⟨h1, h2, h3, h4, h5, h6⟩ := of_decide_eq_true h
  unfold sEnc
  have hs := sSum_lt (word1 s.toNat c.toNat (nx n))
  generalize sSum (word1 s.toNat c.toNat (nx n)) = y at *
  have hk : nx n < 65536 := by unfold nx; split <;> omega
  generalize nx n = k at *
  unfold pa pb pc word1
  omega
theorem nxt_nx (n : Int) (h0 : -1 ≤ n) (h1 : n < 65534) : nxt (nx n) = n := by
  unfold nxt nx
  split <;> split <;> omega
theorem sdec_enc (s c n : Int) (h : sMay s c n = true) (e : Ending) (hd : SDec (sEnc s c n) (pa (sEnc s c n)) (pb (sEnc s c n)) (pc (sEnc s c n)) e) : e = .returned (.tuple #[.agg #[.int .i64 s, .int .i64 c, .int .i64 n], .int .i64 0]) := by
  obtain ⟨h1, h2, h3, h4, h5, h6⟩ := of_decide_eq_true h
  obtain ⟨q1, q2, q3⟩ := sEnc_parts s c n h
  rw [q1, q2, q3] at hd
  have hs : ((s.toNat : Nat) : Int) = s := by omega
  have hc : ((c.toNat : Nat) : Int) = c := by omega
  have hx := nxt_nx n h5 h6
  have h9 := hd.1
  rw [hx, hs, hc] at h9
  exact h9 ⟨h, rfl⟩

end Go.Proofs.YtichcdoijieddaaGreat.Lo
end

/- The fifteenth chapter's example. -/
section
set_option linter.unusedVariables false
set_option linter.unusedSimpArgs false
set_option maxHeartbeats 2000000
set_option maxRecDepth 100000
namespace Go.Proofs.YtichcdoijieddaaGreat.Li
open Go Go.RowKit
open Go.Proofs.YtichcdoijieddaaGreat.Ob Go.Proofs.YtichcdoijieddaaGreat.Ba Go.Proofs.YtichcdoijieddaaGreat.Ko Go.Proofs.YtichcdoijieddaaGreat.Ge Go.Proofs.YtichcdoijieddaaGreat.Oc Go.Proofs.YtichcdoijieddaaGreat.Pk Go.Proofs.YtichcdoijieddaaGreat.Su Go.Proofs.YtichcdoijieddaaGreat.Rf Go.Proofs.YtichcdoijieddaaGreat.Dv Go.Proofs.YtichcdoijieddaaGreat.Vo Go.Proofs.YtichcdoijieddaaGreat.Ra Go.Proofs.YtichcdoijieddaaGreat.Lo

theorem opn_any {W : World} {b : Nat} {g : Lay} (r0 r1 r2 : Nat) (l : List Int) (n m s T : Nat) (hn : n = gB r0) (hm : m = gB r1) (hs : s = gS r2) (hT : (T : Int) = tot n m s) (hD : DevIs W b (Pm.devOf (dws (ints (enc n m s)) l T)) g) :
    Calls Tryz.prog 51 #[.pointer (some ⟨b, 0, none⟩)] W fun e w' => ∃ v, e = .returned (.tuple #[.pointer (some ⟨v, 0, none⟩), .int .i64 0]) ∧ W.heap.size ≤ v ∧ VolIs w' v b n m s (Pm.devOf (dws (ints (enc n m s)) l T)) g ∧ Below W.heap.size W w' := by
  have hok : geoOk n m s = true := by rw [hn, hm, hs]; exact g_ok r0 r1 r2
  have htt := g_tot r0 r1 r2
  rw [← hn, ← hm, ← hs, ← hT] at htt
  have hn9 : n < 65536 := by have := gB_in r0; omega
  have hm9 : m < 65536 := by have := gB_in r1; omega
  have hs9 : s < 65536 := by have := gS_or r2; omega
  have hlen : (dws (ints (enc n m s)) l T).length = T := dws_length _ _ _ rfl (by omega)
  have htk : (dws (ints (enc n m s)) l T).take 8 = ints (enc n m s) := dws_take8 _ _ _ rfl
  exact open_ok hD n m s hok hn9 hm9 hs9 (by show ((dws (ints (enc n m s)) l T).length : Int) = _; rw [hlen, hT]) (by show 8 ≤ (dws (ints (enc n m s)) l T).length; rw [hlen]; omega) (fun i x hx => by
    refine devOf_load ?_
    have hi := (List.getElem?_eq_some_iff.1 hx).1
    have h8 : i < 8 := hi
    have h9 : ((dws (ints (enc n m s)) l T).take 8)[i]? = some (x : Int) := by rw [htk]; exact ints_get hx
    rw [List.getElem?_take, if_pos h8] at h9
    exact h9)

theorem lives15 (w : World) : Calls Tryz.prog 6 #[] w fun e w' => e = .returned (.bool true) ∧ Below w.heap.size w w' := by
  have hu := Tryz.underlying33
  have hdv := device_ 3 3 0 (by decide) (by decide) (by decide) (A := none) (l := []) 0 (w := w) (Rk.nil _ _ _) (by decide) 4 4 64 96 rfl rfl rfl (by decide)
  have HOP : Hid (∀ {W : World} {b : Nat} {g : Lay}, DevIs W b (Pm.devOf (dws (ints (enc (4 : Nat) (4 : Nat) (64 : Nat))) [] 96)) g → _) := fun {W} {b} {g} hD => opn_any 3 3 0 [] 4 4 64 96 rfl rfl rfl (by decide) hD
  have hlen : (dws (ints (enc (4 : Nat) (4 : Nat) (64 : Nat))) [] 96).length = 96 := dws_length _ _ _ rfl (by decide)
  have HV : Hid (∀ v, vcells (4 : Nat) (4 : Nat) (64 : Nat) v = #[.int .i64 4, .int .i64 4, .int .i64 64, .int .i64 16, .int .i64 48, .int .i64 56, .int .i64 64, .int .i64 96, v]) := fun _ => rfl
  generalize dws (ints (enc (4 : Nat) (4 : Nat) (64 : Nat))) [] 96 = L at *
  have HP1 := Lib.hid (put_one L 48 (sEnc 0 1 (-1) : Nat) (by omega))
  have HLN := Lib.hid hlen
  have HD := Lib.hid hdv
  clear hdv hlen
  go_enter Tryz.func6, Tryz.ntmps6
  go_wp2_with fail
  refine (show Calls _ _ #[.agg #[.int .u8 3, .int .u8 3, .int .u8 0, .slice none 0 0]] _ _ from HD.out).mono ?_
  rintro e w1 ⟨b, g, vw, rfl, hd1, hf1, ho1, ha1, hb1⟩
  obtain ⟨A8, c8, e8⟩ := own_slice ho1
  subst e8
  rw [HV.out]
  have HD1 := Lib.hid hd1
  have HF1 := Lib.hid hf1
  have HB1 := Lib.hid hb1
  clear hd1 hf1 hb1 ho1 ha1
  go_wp2_with fail
  have hb0 : Below w1.heap.size w1 (w1.alloc (.cells #[.int .i64 4, .int .i64 4, .int .i64 64, .int .i64 16, .int .i64 48, .int .i64 56, .int .i64 64, .int .i64 96, .slice A8 96 c8] 33)) := bl_alloc (Below.refl _ _) _
  have HB0 := Lib.hid hb0
  clear hb0
  refine (lives05 _).mono ?_
  rintro e w2 ⟨rfl, hb2⟩
  have HB2 := Lib.hid (bl_then HB0.out hb2)
  clear hb2
  go_wp2_with fail
  refine (lives06 _).mono ?_
  rintro e w3 ⟨rfl, hb3⟩
  have HB3 := Lib.hid (bl_then HB2.out hb3)
  clear hb3
  go_wp2_with fail
  refine (lives07 _).mono ?_
  rintro e w4 ⟨rfl, hb4⟩
  have HB4 := Lib.hid (bl_then HB3.out hb4)
  clear hb4
  go_wp2_with fail
  refine (lives09 _).mono ?_
  rintro e w5 ⟨rfl, hb5⟩
  have HB5 := Lib.hid (bl_then HB4.out hb5)
  clear hb5
  go_wp2_with fail
  refine (lives10 _).mono ?_
  rintro e w6 ⟨rfl, hb6⟩
  have HB6 := Lib.hid (bl_then HB5.out hb6)
  clear hb6
  go_wp2_with fail
  refine (HOP.out (HD1.out.below HB6.out)).mono ?_
  rintro e w7 ⟨v, rfl, hlo, hvol, hb7⟩
  have HV7 := Lib.hid hvol
  have HB7 := Lib.hid (bl_then HB6.out hb7)
  clear hlo hvol hb7
  go_wp2_with fail
  refine (setslot_yes HV7.out (show (0 : Nat) ≤ 1000000000 from Nat.zero_le _) 0 0 1 (-1) (by decide) (by decide) 48 (by decide) _ HP1.out).mono ?_
  rintro e w8 ⟨rfl, hto⟩
  have hto2 := HV7.out.to hto (by rfl)
  obtain ⟨g8, hv8, hf8, hu8⟩ := hto2
  have HV8 := Lib.hid hv8
  have HB8 : Hid (Below w.heap.size w w8) := (bl_then HB1.out HB7.out).trans (hu8.belowB (bl_then HB1.out HB7.out).size HF1.out)
  clear hto hv8 hf8 hu8
  rw [show ecode (one L 48 (sEnc 0 1 (-1) : Nat), some 1) = 0 from rfl]
  go_wp2_with fail
  refine (Pm.steps_any HV8.out.dev).mono ?_
  rintro e w9 ⟨rfl, rfl⟩
  rw [show (one L 48 (sEnc 0 1 (-1) : Nat)).steps = 2 from rfl]
  go_wp2_with fail
  refine (stores_any HV8.out.dev).mono ?_
  rintro e w9 ⟨rfl, rfl⟩
  rw [show (one L 48 (sEnc 0 1 (-1) : Nat)).stores = 1 from rfl]
  go_wp2_with fail
  go_ret
  exact ⟨rfl, HB8.out⟩

end Go.Proofs.YtichcdoijieddaaGreat.Li
end

/- A device's words, and that its row is there. -/
section
set_option linter.unusedVariables false
set_option linter.unusedSimpArgs false
set_option maxHeartbeats 2000000
set_option maxRecDepth 100000
namespace Go.Proofs.YtichcdoijieddaaGreat.Vs
open Go Go.RowKit
open Go.Proofs.YtichcdoijieddaaGreat.Ob Go.Proofs.YtichcdoijieddaaGreat.Ba Go.Proofs.YtichcdoijieddaaGreat.Ko Go.Proofs.YtichcdoijieddaaGreat.Ge Go.Proofs.YtichcdoijieddaaGreat.Oc Go.Proofs.YtichcdoijieddaaGreat.Pk Go.Proofs.YtichcdoijieddaaGreat.Su Go.Proofs.YtichcdoijieddaaGreat.Rf Go.Proofs.YtichcdoijieddaaGreat.Dv Go.Proofs.YtichcdoijieddaaGreat.Vo Go.Proofs.YtichcdoijieddaaGreat.Ra Go.Proofs.YtichcdoijieddaaGreat.Lo Go.Proofs.YtichcdoijieddaaGreat.Li

theorem las_some {w : World} {b : Nat} {d : Dev} {g : Lay} (h : DevIs w b d g) (hl : 1 ≤ d.las.length) : g.A = none → g.c = 0 := by
  intro hA
  obtain ⟨x, hx⟩ := some_at (l := d.las) (i := 0) (by omega)
  obtain ⟨q, off, cs, e, -⟩ := h.las.at_ (i := 0) (v := .int .u64 x) (by rw [u64s, List.getElem?_map, hx]; rfl)
  rw [hA] at e
  cases e

theorem words_devOf (L : List Int) : Pm.wordsOf (Pm.devOf L) = L := by
  rw [Pm.wordsOf_eq]
  show (List.range L.length).map _ = L
  apply List.ext_getElem?
  intro i
  by_cases hi : i < L.length
  · obtain ⟨x, hx⟩ := some_at hi
    rw [List.getElem?_map, List.getElem?_range hi, hx]
    show some ((Pm.devOf L).load (i : Int)) = some _
    rw [devOf_load hx]
  · rw [List.getElem?_eq_none (by simp; omega), List.getElem?_eq_none (by omega)]

end Go.Proofs.YtichcdoijieddaaGreat.Vs
end

/- Words put into a device: what it then holds, and how much was done (plain data). -/
section
set_option linter.unusedVariables false
set_option linter.unusedSimpArgs false
namespace Go.Proofs.YtichcdoijieddaaGreat.Wp
open Go Go.RowKit
open Go.Proofs.YtichcdoijieddaaGreat.Ob Go.Proofs.YtichcdoijieddaaGreat.Ba Go.Proofs.YtichcdoijieddaaGreat.Oc Go.Proofs.YtichcdoijieddaaGreat.Pk Go.Proofs.YtichcdoijieddaaGreat.Rf Go.Proofs.YtichcdoijieddaaGreat.Dv Go.Proofs.YtichcdoijieddaaGreat.Vo

theorem find_put (k x : Int) (l : List (Int × Pen)) (j : Int) : ((putPen k x l).find? fun y => decide (y.1 = j)) = (l.find? fun y => decide (y.1 = j)).map fun y => if y.1 = k then (y.1, ⟨y.2.l ++ [x], y.2.fl⟩) else y := by
  induction l with
  | nil => rfl
  | cons y l ih =>
    unfold putPen at ih ⊢
    rw [List.map_cons, List.find?_cons, List.find?_cons, ih]
    have e : (if y.1 = k then (y.1, (⟨y.2.l ++ [x], y.2.fl⟩ : Pen)) else y).1 = y.1 := by split <;> rfl
    rw [e]
    cases decide (y.1 = j) <;> rfl
theorem find_flush (ln : Int) (l : List (Int × Pen)) (j : Int) : ((l.map (flushPen ln)).find? fun y => decide (y.1 = j)) = (l.find? fun y => decide (y.1 = j)).map (flushPen ln) := by
  induction l with
  | nil => rfl
  | cons y l ih =>
    rw [List.map_cons, List.find?_cons, List.find?_cons, ih]
    have e : (flushPen ln y).1 = y.1 := by unfold flushPen; split <;> rfl
    rw [e]
    cases decide (y.1 = j) <;> rfl

theorem stored_load {d : Dev} {a : Int} {x : Int} (h : d.storeOk a = true) (j : Int) : (d.stored a x).load j = if j = a then x else d.load j := by
  have hopn : (d.stored a x).opn = if (d.find a).isSome then putPen a x d.opn else d.opn ++ [(a, ⟨[x], 0⟩)] := by unfold Dev.stored; rw [if_pos h]
  have hlas : ∀ j, (d.stored a x).lasting j = d.lasting j := by intro j; unfold Dev.stored Dev.lasting Dev.inn; rw [if_pos h]; rfl
  unfold Dev.load
  rw [hlas]
  by_cases hf : (d.find a).isSome
  · rw [if_pos hf] at hopn
    have hfj : (d.stored a x).find j = (d.opn.find? fun y => decide (y.1 = j)).map fun y => (if y.1 = a then (y.1, (⟨y.2.l ++ [x], y.2.fl⟩ : Pen)) else y).2 := by
      unfold Dev.find; rw [hopn, find_put, Option.map_map]; rfl
    rw [hfj]
    unfold Dev.find
    cases hq : d.opn.find? fun y => decide (y.1 = j) with
    | none =>
      by_cases hj : j = a
      · subst hj
        unfold Dev.find at hf
        rw [hq] at hf
        cases hf
      · rw [if_neg hj]; rfl
    | some y =>
      have hy : y.1 = j := by simpa using List.find?_some hq
      by_cases hj : j = a
      · rw [if_pos hj]
        simp [hy, hj]
      · rw [if_neg hj]
        simp [hy, hj]
  · rw [if_neg hf] at hopn
    have hfj : (d.stored a x).find j = ((d.opn.find? fun y => decide (y.1 = j)).or (if a = j then some (a, ⟨[x], 0⟩) else none)).map (·.2) := by
      unfold Dev.find; rw [hopn, List.find?_append]
      by_cases hj : a = j <;> simp [hj]
    rw [hfj]
    by_cases hj : j = a
    · subst hj
      have : d.opn.find? (fun y => decide (y.1 = j)) = none := by
        unfold Dev.find at hf
        cases hq : d.opn.find? fun y => decide (y.1 = j) with
        | none => rfl
        | some y => rw [hq] at hf; exact absurd rfl hf
      rw [this]
      simp
    · rw [if_neg hj, if_neg (fun e => hj e.symm)]
      unfold Dev.find
      cases d.opn.find? fun y => decide (y.1 = j) <;> rfl
theorem flushed_load (d : Dev) (ln j : Int) : (d.flushed ln).load j = d.load j := by
  unfold Dev.flushed
  split
  · unfold Dev.load Dev.find Dev.lasting Dev.inn
    show (match ((d.opn.map (flushPen ln)).find? fun y => decide (y.1 = j)).map (·.2) with | some p => _ | none => _) = _
    rw [find_flush, Option.map_map]
    cases d.opn.find? fun y => decide (y.1 = j) with
    | none => rfl
    | some y =>
      show (flushPen ln y).2.l.getD ((flushPen ln y).2.l.length - 1) 0 = y.2.l.getD (y.2.l.length - 1) 0
      have e : (flushPen ln y).2.l = y.2.l := by unfold flushPen; split <;> rfl
      rw [e]
  · rfl
theorem flushed_words (d : Dev) (ln : Int) : Pm.wordsOf (d.flushed ln) = Pm.wordsOf d := by
  rw [Pm.wordsOf_eq, Pm.wordsOf_eq]
  have e : (d.flushed ln).las = d.las := by unfold Dev.flushed; split <;> rfl
  rw [e]
  congr 1
  funext i
  exact flushed_load d ln i
theorem ok_store {d : Dev} (hf : d.fuse = none) {a : Nat} (ha : a < d.las.length) : d.storeOk a = true := by
  have h2 : d.down = false := by unfold Dev.down; rw [hf]; rfl
  unfold Dev.storeOk Dev.inn
  rw [h2]
  simp [ha]
theorem ok_flush {d : Dev} (hf : d.fuse = none) {a : Nat} (ha : 8 * a < d.las.length) : d.flushOk a = true := by
  have h2 : d.down = false := by unfold Dev.down; rw [hf]; rfl
  unfold Dev.flushOk
  rw [h2]
  simp
  omega
theorem stored_words {d : Dev} (hf : d.fuse = none) {a : Nat} (ha : a < d.las.length) (x : Int) : Pm.wordsOf (d.stored a x) = (Pm.wordsOf d).set a x := by
  have hok := ok_store hf ha
  rw [Pm.wordsOf_eq, Pm.wordsOf_eq]
  have e : (d.stored a x).las = d.las := by unfold Dev.stored; rw [if_pos hok]; rfl
  rw [e]
  apply List.ext_getElem?
  intro i
  rw [List.getElem?_set, List.getElem?_map, List.getElem?_map]
  by_cases hi : i < d.las.length
  · rw [List.getElem?_range hi]
    show some ((d.stored a x).load (i : Int)) = _
    rw [stored_load hok]
    by_cases hj : a = i
    · rw [if_pos (by rw [hj]), if_pos hj]
      simp [ha]
    · rw [if_neg (by omega), if_neg hj]; rfl
  · rw [List.getElem?_eq_none (by simp; omega)]
    by_cases hj : a = i
    · omega
    · rw [if_neg hj]; rfl

/-- what stands behind writes: words, how many more were stored, how many lines were flushed -/
structure Pt (d0 d : Dev) (L : List Int) (c q : Nat) : Prop where
  las : d.las = d0.las
  fuse : d.fuse = none
  words : Pm.wordsOf d = L
  stores : d.stores = d0.stores + c
  steps : d.steps = d0.steps + c + q
theorem Pt.stored {d0 d : Dev} {L : List Int} {c q : Nat} (h : Pt d0 d L c q) {a : Nat} (ha : a < d0.las.length) (x : Int) : Pt d0 (d.stored a x) (L.set a x) (c + 1) q := by
  have ha' : a < d.las.length := by rw [h.las]; exact ha
  have hok := ok_store h.fuse ha'
  refine ⟨?_, ?_, by rw [stored_words h.fuse ha', h.words], ?_, ?_⟩ <;> (unfold Dev.stored; rw [if_pos hok])
  · exact h.las
  · show d.fuse.map _ = none
    rw [h.fuse]; rfl
  · show d.stores + 1 = _
    rw [h.stores]; omega
  · show d.steps + 1 = _
    rw [h.steps]; omega
theorem Pt.flushed {d0 d : Dev} {L : List Int} {c q : Nat} (h : Pt d0 d L c q) {a : Nat} (ha : 8 * a < d0.las.length) : Pt d0 (d.flushed a) L c (q + 1) := by
  have hok := ok_flush h.fuse (a := a) (by rw [h.las]; exact ha)
  refine ⟨?_, ?_, by rw [flushed_words, h.words], ?_, ?_⟩ <;> (unfold Dev.flushed; rw [if_pos hok])
  · exact h.las
  · show d.fuse.map _ = none
    rw [h.fuse]; rfl
  · show d.stores + 0 = _
    rw [h.stores]; omega
  · show d.steps + 1 = _
    rw [h.steps]; omega
theorem flush_all {d0 : Dev} {L : List Int} {c : Nat} : ∀ (ls : List Nat) (d : Dev) (q k : Nat), Pt d0 d L c q → (∀ x ∈ ls, 8 * x < d0.las.length) → ∃ d', flushGo ls d k = (d', some k) ∧ Pt d0 d' L c (q + ls.length)
  | [], d, q, k, h, _ => ⟨d, rfl, h⟩
  | x :: r, d, q, k, h, hl => by
    have hx := hl x (List.mem_cons_self)
    have hok := ok_flush h.fuse (a := x) (by rw [h.las]; exact hx)
    obtain ⟨d', e, h'⟩ := flush_all r _ _ k (h.flushed hx) (fun y hy => hl y (List.mem_cons_of_mem _ hy))
    refine ⟨d', ?_, by rw [show q + (x :: r).length = q + 1 + r.length from by simp; omega]; exact h'⟩
    show (if d.flushOk x then _ else _) = _
    rw [if_pos hok, e]

/-- which words come to be, how many are stored, and in which lines -/
def pgo (all : Bool) : List Int → Nat → List Int × Nat × List Nat → List Int × Nat × List Nat
  | [], _, s => s
  | x :: r, a, s => if !all && decide (s.1.getD a 0 = x) then pgo all r (a + 1) s else pgo all r (a + 1) (s.1.set a x, s.2.1 + 1, addLn s.2.2 (a / 8))

theorem addLn_mem {ls : List Nat} {k x : Nat} (h : x ∈ addLn ls k) : x ∈ ls ∨ x = k := by
  unfold addLn at h
  split at h
  · exact .inl h
  · simpa using h
theorem words_load {d : Dev} {a : Nat} (ha : a < d.las.length) : (Pm.wordsOf d).getD a 0 = d.load a := by
  rw [List.getD_eq_getElem?_getD, Pm.wordsOf_get d a ha]; rfl

theorem put_gen (d0 : Dev) (all : Bool) : ∀ (xs : List Int) (a : Nat) (d : Dev) (L : List Int) (c : Nat) (ls : List Nat), Pt d0 d L c 0 → a + xs.length ≤ d0.las.length → (∀ x ∈ ls, 8 * x < d0.las.length) →
    ∃ d', putGo all xs a ⟨d, c, ls⟩ = (d', some (pgo all xs a (L, c, ls)).2.1) ∧ Pt d0 d' (pgo all xs a (L, c, ls)).1 (pgo all xs a (L, c, ls)).2.1 (pgo all xs a (L, c, ls)).2.2.length
  | [], a, d, L, c, ls, h, ha, hl => by
    obtain ⟨d', e, h'⟩ := flush_all ls d 0 c h hl
    exact ⟨d', e, by rw [Nat.zero_add] at h'; exact h'⟩
  | x :: r, a, d, L, c, ls, h, ha, hl => by
    have ha1 : a < d0.las.length := by simp at ha; omega
    have hload : L.getD a 0 = d.load a := by rw [← h.words]; exact words_load (by rw [h.las]; exact ha1)
    have hk : keepW all d a x = (!all && decide (L.getD a 0 = x)) := by unfold keepW; rw [hload]
    by_cases hb : (!all && decide (L.getD a 0 = x)) = true
    · rw [putGo_keep (hk.trans hb)]
      have e : pgo all (x :: r) a (L, c, ls) = pgo all r (a + 1) (L, c, ls) := by
        show (if (!all && decide (L.getD a 0 = x)) = true then _ else _) = _
        rw [if_pos hb]
      rw [e]
      exact put_gen d0 all r (a + 1) d L c ls h (by simp at ha; omega) hl
    · have hb' : (!all && decide (L.getD a 0 = x)) = false := by simpa using hb
      rw [putGo_store (hk.trans hb') (ok_store h.fuse (by rw [h.las]; exact ha1))]
      have e : pgo all (x :: r) a (L, c, ls) = pgo all r (a + 1) (L.set a x, c + 1, addLn ls (a / 8)) := by
        show (if (!all && decide (L.getD a 0 = x)) = true then _ else _) = _
        rw [if_neg hb]
      rw [e]
      refine put_gen d0 all r (a + 1) _ _ _ _ (h.stored ha1 x) (by simp at ha; omega) (fun y hy => ?_)
      rcases addLn_mem hy with h1 | h1
      · exact hl y h1
      · omega

/-- all of them: line by line -/
def lnsG (k : Nat) : Nat → List Nat
  | 0 => []
  | i + 1 => addLn (lnsG k i) ((k + i) / 8)
theorem lnsG_last (k i : Nat) : (lnsG k (i + 1)).getLast? = some ((k + i) / 8) := by
  show (addLn (lnsG k i) ((k + i) / 8)).getLast? = _
  unfold addLn
  split
  · assumption
  · simp
theorem lnsG_len (k : Nat) : ∀ i, (lnsG k i).length = nline k i
  | 0 => rfl
  | i + 1 => by
    show (addLn (lnsG k i) ((k + i) / 8)).length = nline k i + _
    rw [← lnsG_len k i]
    cases i with
    | zero => rfl
    | succ i =>
      unfold addLn
      rw [lnsG_last]
      by_cases h : (k + (i + 1)) % 8 = 0
      · rw [if_neg (by rw [Option.some.injEq]; omega), if_pos (.inr h)]; simp
      · rw [if_pos (by rw [Option.some.injEq]; omega), if_neg (by omega)]; rfl
theorem pgo_all (k : Nat) (L : List Int) : ∀ (xs : List Int) (i : Nat) (M : List Int), pgo true xs (k + i) (M, i, lnsG k i) = (wput M (k + i) xs, i + xs.length, lnsG k (i + xs.length))
  | [], i, M => rfl
  | x :: r, i, M => by
    show pgo true r (k + i + 1) (M.set (k + i) x, i + 1, lnsG k (i + 1)) = _
    have := pgo_all k L r (i + 1) (M.set (k + i) x)
    rw [show k + i + 1 = k + (i + 1) from rfl, this]
    rw [show i + (x :: r).length = i + 1 + r.length from by simp; omega]
    rfl

theorem put_many (d : Dev) (hf : d.fuse = none) (xs : List Int) (k : Nat) (hk : k + xs.length ≤ d.las.length) :
    ∃ d', putGo true xs k ⟨d, 0, []⟩ = (d', some xs.length) ∧ Pt d d' (wput (Pm.wordsOf d) k xs) xs.length (nline k xs.length) := by
  obtain ⟨d', e, h⟩ := put_gen d true xs k d (Pm.wordsOf d) 0 [] ⟨rfl, hf, rfl, rfl, rfl⟩ hk (by simp)
  have hp := pgo_all k (Pm.wordsOf d) xs 0 (Pm.wordsOf d)
  rw [Nat.zero_add, Nat.add_zero] at hp
  rw [show (Pm.wordsOf d, 0, ([] : List Nat)) = (Pm.wordsOf d, 0, lnsG k 0) from rfl, hp] at e h
  exact ⟨d', e, by rw [lnsG_len] at h; exact h⟩

end Go.Proofs.YtichcdoijieddaaGreat.Wp
end
