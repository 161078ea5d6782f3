/- Parts of the proof, one behind the other: Vr, Rc, Re, Rg, Rh, Ri, Ls, Qt, Vs. -/
import Derived.Test.YtichcdoijieddaaG10
import Derived.Test.YtichcdoijieddaaG09
import Derived.Test.YtichcdoijieddaaG08
import Derived.Test.YtichcdoijieddaaG02
import Derived.Test.YtichcdoijieddaaG06
import Derived.Test.YtichcdoijieddaaG07

/- volume.Slot. -/
section
set_option linter.unusedVariables false
set_option linter.unusedSimpArgs false
set_option maxHeartbeats 2000000
set_option maxRecDepth 100000
namespace Go.Proofs.Ytichcdoijieddaa.Vo
open Go Go.RowKit
open Go.Proofs.Ytichcdoijieddaa.Ob Go.Proofs.Ytichcdoijieddaa.Ba Go.Proofs.Ytichcdoijieddaa.Oc Go.Proofs.Ytichcdoijieddaa.Pk Go.Proofs.Ytichcdoijieddaa.Dv Go.Proofs.Ytichcdoijieddaa.Su Go.Proofs.Ytichcdoijieddaa.Mp Go.Proofs.Ytichcdoijieddaa.Ge Go.Proofs.Ytichcdoijieddaa.Lo Go.Proofs.Ytichcdoijieddaa.Ko

theorem slot_get {w : World} {v b n m s : Nat} {d : Dev} {g : Lay} (h : VolIs w v b n m s d g) (i : Int) (hi : 0 ≤ i ∧ i < (n : Int)) (k : Nat) (hk : (k : Int) = 16 + 8 * (m : Int) + i) (x : Nat) (hx : x < 18446744073709551616) (hl : d.load k = (x : Int)) (S : Int × Int × Int × Int)
    (hS : ∀ e, SDec x (pa x) (pb x) (pc x) e → e = .returned (.tuple #[.agg #[.int .i64 S.1, .int .i64 S.2.1, .int .i64 S.2.2.1], .int .i64 S.2.2.2])) :
    Calls Try.prog 10 #[.pointer (some ⟨v, 0, none⟩), .int .i64 i] w fun e w' => e = .returned (.tuple #[.agg #[.int .i64 S.1, .int .i64 S.2.1, .int .i64 S.2.2.1], .int .i64 S.2.2.2]) ∧ Below w.heap.size w w' := by
  have hu := Try.underlying26
  have hsl := slot_ n m s i h.ok
  rw [plc_yes hi, ← hk] at hsl
  have HS := Lib.hid hsl
  have HV := Lib.hid h
  have HDC : Hid (∀ w, Calls Try.prog 33 #[.int .u64 x] w fun e w' => e = .returned (.tuple #[.agg #[.int .i64 S.1, .int .i64 S.2.1, .int .i64 S.2.2.1], .int .i64 S.2.2.2]) ∧ Below w.heap.size w w') :=
    fun w => (decode_ x hx _ _ _ rfl rfl rfl w).mono fun e w' he => ⟨hS e he.1, he.2⟩
  have HLD : Hid (∀ W, DevIs W b d g → Calls Try.prog 34 #[.pointer (some ⟨b, 0, none⟩), .int .i64 k] W fun e w' => e = .returned (.int .u64 x) ∧ ∃ n, w' = W.drewN n) := by
    intro W hW
    have h9 := Go.Proofs.Ytichcdoijieddaa.Pm.load_any hW (k : Int)
    rw [hl] at h9
    exact h9
  have h2 := h.below (bl_alloc (Below.refl _ _) (.cells #[.int .i64 0, .int .i64 0, .int .i64 0] 26))
  obtain ⟨c0, c1, c2, c3⟩ := h2.cells
  clear h h2 hi hsl hk hS hl
  obtain ⟨s1, s2, s3, s4⟩ := S
  go_enter Try.func10, Try.ntmps10
  go_wp2_with (first | (go_at_call 27; refine (HS.out _).mono ?_; rintro e w1 ⟨rfl, hb⟩; (have hq := blk_bl (alloc_new w (.cells #[.int .i64 0, .int .i64 0, .int .i64 0] 26)) hb); (have HQ := Lib.hid hq); (have HB := Lib.hid (bl_then (bl_alloc (Below.refl _ _) _) hb)); (have HV2 := Lib.hid (HV.out.below HB.out)); (have n0 := HV2.out.cells.1); clear hb hq) |
    (go_at_call 34; refine (HLD.out _ HV2.out.dev).mono ?_; rintro e w2 ⟨rfl, q, hw2⟩; (have HW2 : Hid (Below w1.heap.size w1 w2) := by rw [hw2]; exact bl_drewN (Below.refl _ _) q); clear hw2) |
    (go_at_call 33; refine (HDC.out _).mono ?_; rintro e w3 ⟨rfl, hb⟩; (have HB3 := Lib.hid (bl_then HW2.out hb)); (have hq3 := blk_bl HQ.out HB3.out); (have l0 := cell_of hq3 0); (have l1 := cell_of hq3 1); (have l2 := cell_of hq3 2); (have f0 := free_of hq3 0); (have f1 := free_of hq3 1); (have f2 := free_of hq3 2); (have HQ3 := Lib.hid hq3); clear hb hq3))
  exact bodyPost_ret (res_ct (u := 5) rfl _ _ w.heap.size 26 #[.int .i64 s1, .int .i64 s2, .int .i64 s3] (0, 0) _ rfl (put3 HQ3.out _ _ _) hu rfl (by kernel_rfl)) rfl ⟨rfl, bl_put3 (bl_then HB.out HB3.out) (Nat.le_refl _) _ _ _⟩

theorem slot_out {w : World} {v b n m s : Nat} {d : Dev} {g : Lay} (h : VolIs w v b n m s d g) (i : Int) (hi : i < 0 ∨ (n : Int) ≤ i) :
    Calls Try.prog 10 #[.pointer (some ⟨v, 0, none⟩), .int .i64 i] w fun e w' => e = .returned (.tuple #[.agg #[.int .i64 0, .int .i64 0, .int .i64 0], .int .i64 9]) ∧ Below w.heap.size w w' := by
  have hu := Try.underlying26
  have hsl := slot_ n m s i h.ok
  rw [plc_no hi] at hsl
  have HS := Lib.hid hsl
  have h2 := h.below (bl_alloc (Below.refl _ _) (.cells #[.int .i64 0, .int .i64 0, .int .i64 0] 26))
  obtain ⟨c0, c1, c2, c3⟩ := h2.cells
  clear h h2 hi hsl
  go_enter Try.func10, Try.ntmps10
  go_wp2_with (first | (go_at_call 27; refine (HS.out _).mono ?_; rintro e w1 ⟨rfl, hb⟩; (have hq := blk_bl (alloc_new w (.cells #[.int .i64 0, .int .i64 0, .int .i64 0] 26)) hb); (have l0 := cell_of hq 0); (have l1 := cell_of hq 1); (have l2 := cell_of hq 2); (have f0 := free_of hq 0); (have f1 := free_of hq 1); (have f2 := free_of hq 2); (have HQ3 := Lib.hid hq); (have HB := Lib.hid (bl_then (bl_alloc (Below.refl _ _) _) hb)); clear hb hq))
  exact bodyPost_ret (res_ct (u := 5) rfl _ _ w.heap.size 26 #[.int .i64 0, .int .i64 0, .int .i64 0] (0, 0) _ rfl (put3 HQ3.out _ _ _) hu rfl (by kernel_rfl)) rfl ⟨rfl, bl_put3 HB.out (Nat.le_refl _) _ _ _⟩

end Go.Proofs.Ytichcdoijieddaa.Vo
end

/- The laws' raw images opened (cantlelaw15.open). -/
section
set_option linter.unusedVariables false
set_option linter.unusedSimpArgs false
set_option maxHeartbeats 2000000
set_option maxRecDepth 100000
namespace Go.Proofs.Ytichcdoijieddaa.Ra
open Go Go.RowKit
open Go.Proofs.Ytichcdoijieddaa.Ob Go.Proofs.Ytichcdoijieddaa.Ba Go.Proofs.Ytichcdoijieddaa.Ko Go.Proofs.Ytichcdoijieddaa.Ge Go.Proofs.Ytichcdoijieddaa.Oc Go.Proofs.Ytichcdoijieddaa.Pk Go.Proofs.Ytichcdoijieddaa.Su Go.Proofs.Ytichcdoijieddaa.Rf Go.Proofs.Ytichcdoijieddaa.Dv Go.Proofs.Ytichcdoijieddaa.Vo

theorem devOf_load {L : List Int} {i : Nat} {x : Int} (h : L[i]? = some x) : (Pm.devOf L).load (i : Int) = x := by
  have hi := (List.getElem?_eq_some_iff.1 h).1
  unfold Dev.load Dev.lasting Dev.inn Dev.find Pm.devOf
  simp [hi, h]
  exact (List.getElem?_eq_some_iff.1 h).2

theorem _root_.Go.Proofs.Ytichcdoijieddaa.Vo.VolIs.keep {w w' : World} {v b n m s : Nat} {d : Dev} {g : Lay} (h : VolIs w v b n m s d g) (hv : w'.heap[v]? = w.heap[v]?) (hk : ∀ k ∈ g.foot b, w'.heap[k]? = w.heap[k]?) : VolIs w' v b n m s d g :=
  ⟨hv.trans h.blk, h.dev.keep hk, h.ok, h.len⟩

theorem drew_heap (W : World) (k : Nat) : W.drew.heap[k]? = W.heap[k]? := rfl

/-- an image opened: the volume, the device, the words beside it -/
structure Opn (w W : World) (v b n m s T : Nat) (L : List Int) (g : Lay) (vw : Value) : Prop where
  vol : VolIs W v b n m s (Pm.devOf L) g
  foot : ∀ k ∈ g.foot b, w.heap.size ≤ k
  row : W.ownsRow w.heap.size 35 1 vw T (ivs .u64 L)
  apart : ∀ k, vw.ownBlock = some k → k ∉ g.foot b
  vlo : w.heap.size ≤ v
  below : Below w.heap.size w W

theorem open_ (r0 r1 r2 : Nat) (h0 : r0 < 256) (h1 : r1 < 256) (h2 : r2 < 256) {A : Option Addr} {l : List Int} (c : Nat) {w : World} (h : Rk .u64 w A l) (hl9 : l.length ≤ 9223372036854775807) (n m s T : Nat) (hn : n = gB r0) (hm : m = gB r1) (hs : s = gS r2) (hT : (T : Int) = tot n m s) :
    Calls Try.prog 6 #[.agg #[.int .u8 r0, .int .u8 r1, .int .u8 r2, .slice A l.length c]] w fun e w' => ∃ v b g vw, e = .returned (.tuple #[.pointer (some ⟨v, 0, none⟩), .agg (vcells n m s vw)]) ∧ Opn w w' v b n m s T (dws (ints (enc n m s)) l T) g vw := by
  have hu := Try.underlying32
  have hok : geoOk n m s = true := by rw [hn, hm, hs]; exact g_ok r0 r1 r2
  have htt := g_tot r0 r1 r2
  rw [← hn, ← hm, ← hs, ← hT] at htt
  have hn9 : n < 65536 := by have := gB_in r0; omega
  have hm9 : m < 65536 := by have := gB_in r1; omega
  have hs9 : s < 65536 := by have := gS_or r2; omega
  have hlen : (dws (ints (enc n m s)) l T).length = T := dws_length _ _ _ rfl (by omega)
  have htk : (dws (ints (enc n m s)) l T).take 8 = ints (enc n m s) := dws_take8 _ _ _ rfl
  have HDV : Hid (∀ {W : World}, Rk .u64 W A l → _) := fun {W} hW => device_ r0 r1 r2 h0 h1 h2 c (w := W) hW hl9 n m s T hn hm hs hT
  have HOP : Hid (∀ {W : World} {b : Nat} {g : Lay}, DevIs W b (Pm.devOf (dws (ints (enc n m s)) l T)) g → _) := fun {W} {b} {g} hD => open_ok hD n m s hok hn9 hm9 hs9 (by show ((dws (ints (enc n m s)) l T).length : Int) = _; rw [hlen, hT]) (by show 8 ≤ (dws (ints (enc n m s)) l T).length; rw [hlen]; omega) (fun i x hx => by
    refine devOf_load ?_
    have hi := (List.getElem?_eq_some_iff.1 hx).1
    have h8 : i < 8 := hi
    have h9 : ((dws (ints (enc n m s)) l T).take 8)[i]? = some (x : Int) := by rw [htk]; exact ints_get hx
    rw [List.getElem?_take, if_pos h8] at h9
    exact h9)
  have HV : Hid (∀ v, vcells n m s v = #[.int .i64 n, .int .i64 m, .int .i64 s, .int .i64 16, .int .i64 (16 + 8 * m), .int .i64 (bmAt n m), .int .i64 (bkAt n m), .int .i64 (tot n m s), v]) := fun _ => rfl
  have H := Lib.hid h
  generalize dws (ints (enc n m s)) l T = L at *
  generalize vcells n m s = vc at *
  obtain ⟨len, hle⟩ : ∃ len, len = l.length := ⟨_, rfl⟩
  rw [← hle] at HDV
  rw [← hle]
  clear h hl9 hn hm hs hT hok htt h0 h1 h2 hlen htk hle hn9 hm9 hs9
  generalize (16 + 8 * m : Int) = p2 at *
  generalize bmAt n m = p3 at *
  generalize bkAt n m = p4 at *
  generalize tot n m s = p5 at *
  go_enter Try.func6, Try.ntmps6
  go_wp2_with fail
  refine (HDV.out (H.out.below (bl_alloc (bl_alloc (Below.refl _ _) (.cells #[.int .u8 r0, .int .u8 r1, .int .u8 r2, .slice A len c] 24)) (.cells #[.int .i64 0, .int .i64 0, .int .i64 0, .int .i64 0, .int .i64 0, .int .i64 0, .int .i64 0, .int .i64 0, .slice none 0 0] 32)))).mono ?_
  rintro e w1 ⟨b, g, vw, rfl, hd1, hf1, ho1, ha1, hb1⟩
  obtain ⟨A8, c8, e8⟩ := own_slice ho1
  subst e8
  rw [HV.out]
  have hqz := alloc_new (w.alloc (.cells #[.int .u8 r0, .int .u8 r1, .int .u8 r2, .slice A len c] 24)) (.cells #[.int .i64 0, .int .i64 0, .int .i64 0, .int .i64 0, .int .i64 0, .int .i64 0, .int .i64 0, .int .i64 0, .slice none 0 0] 32)
  rw [World.size_alloc] at hqz
  have HZ1 := Lib.hid (blk_bl hqz hb1)
  have hsz := hb1.size
  simp only [World.size_alloc] at hsz hf1 ho1
  have HS1 : Hid (w.heap.size + 2 ≤ w1.heap.size) := hsz
  have HB1 := Lib.hid (bl_then (bl_alloc (bl_alloc (Below.refl _ _) _) _) hb1)
  have hbv : Below w1.heap.size w1 (w1.alloc (.cells #[.int .i64 n, .int .i64 m, .int .i64 s, .int .i64 16, .int .i64 p2, .int .i64 p3, .int .i64 p4, .int .i64 p5, .slice A8 T c8] 32)) := bl_alloc (Below.refl _ _) _
  have HOPN := Lib.hid (HOP.out (hd1.below hbv))
  have HALL := Lib.hid (And.intro hf1 (And.intro ho1 ha1))
  clear hqz hb1 hsz hf1 ho1 ha1 hbv hd1
  go_wp2_with (go_at_call 21; refine HOPN.out.mono ?_; rintro e w2 ⟨v, rfl, hv, hvol, hb2⟩; (have HVB := Lib.hid (blk_bl (alloc_new w1 (.cells #[.int .i64 n, .int .i64 m, .int .i64 s, .int .i64 16, .int .i64 p2, .int .i64 p3, .int .i64 p4, .int .i64 p5, .slice A8 T c8] 32)) hb2)); (have hb3 := bl_then (bl_alloc (Below.refl _ _) _) hb2); (have HZ2 := Lib.hid (blk_bl HZ1.out hb3)); (have HV2 := Lib.hid (And.intro hv hvol)); (have HB3 := Lib.hid hb3); clear hv hvol hb2 hb3)
  have hxv := HVB.out
  have hxz := HZ2.out
  have m0 := cell_of hxv 0
  have m1 := cell_of hxv 1
  have m2 := cell_of hxv 2
  have m3 := cell_of hxv 3
  have m4 := cell_of hxv 4
  have m5 := cell_of hxv 5
  have m6 := cell_of hxv 6
  have m7 := cell_of hxv 7
  have m8 := cell_of hxv 8
  have z0 := cell_of hxz 0
  have z1 := cell_of hxz 1
  have z2 := cell_of hxz 2
  have z3 := cell_of hxz 3
  have z4 := cell_of hxz 4
  have z5 := cell_of hxz 5
  have z6 := cell_of hxz 6
  have z7 := cell_of hxz 7
  have z8 := cell_of hxz 8
  have f0 := free_of hxz 0
  have f1 := free_of hxz 1
  have f2 := free_of hxz 2
  have f3 := free_of hxz 3
  have f4 := free_of hxz 4
  have f5 := free_of hxz 5
  have f6 := free_of hxz 6
  have f7 := free_of hxz 7
  have f8 := free_of hxz 8
  have hz2 : Hid (w.heap.size + 2 ≤ w2.heap.size) := Nat.le_trans HS1.out HB3.out.size
  clear hxv hxz
  go_region
  go_wp2
  have hp9 := put9 HZ2.out (.int .i64 n) (.int .i64 m) (.int .i64 s) (.int .i64 16) (.int .i64 p2) (.int .i64 p3) (.int .i64 p4) (.int .i64 p5) (.slice A8 T c8)
  have hb0 := bl_then HB1.out HB3.out
  have hb9 := bl_put9 hb0 (Nat.le_succ _) (.int .i64 n) (.int .i64 m) (.int .i64 s) (.int .i64 16) (.int .i64 p2) (.int .i64 p3) (.int .i64 p4) (.int .i64 p5) (.slice A8 T c8)
  have hsa := HS1.out
  have ho2 := own_bl HALL.out.2.1 HB3.out
  have ho9 := own_low9 ho2 (q := w.heap.size + 1) (by omega) (.int .i64 n) (.int .i64 m) (.int .i64 s) (.int .i64 16) (.int .i64 p2) (.int .i64 p3) (.int .i64 p4) (.int .i64 p5) (.slice A8 T c8)
  have hvlo : w1.heap.size + 1 ≤ v := by have := HV2.out.1; simpa using this
  refine bodyPost_ret (res_tc (u := 2) rfl _ _ (w.heap.size + 1) 32 _ (0, 0) _ rfl ((drew_heap _ _).trans hp9) hu rfl ?_) rfl ⟨v, b, g, .slice A8 T c8, by rw [HV.out]; rfl, ⟨?_, ?_, own_base (own_kp ho9 (fun _ _ _ => drew_heap _ _)) (by omega), HALL.out.2.2, by omega, bl_drew hb9⟩⟩
  · kernel_rfl
  · exact VolIs.keep HV2.out.2 ((drew_heap _ _).trans (put9_other (by omega))) (fun k hk => (drew_heap _ _).trans (put9_other (by have := HALL.out.1 k hk; omega)))
  · intro k hk
    have := HALL.out.1 k hk
    omega

end Go.Proofs.Ytichcdoijieddaa.Ra
end

/- The laws' looks at a volume: still, wrote. -/
section
set_option linter.unusedVariables false
set_option linter.unusedSimpArgs false
set_option maxHeartbeats 2000000
set_option maxRecDepth 100000
namespace Go.Proofs.Ytichcdoijieddaa.Ra
open Go Go.RowKit
open Go.Proofs.Ytichcdoijieddaa.Ob Go.Proofs.Ytichcdoijieddaa.Ba Go.Proofs.Ytichcdoijieddaa.Ko Go.Proofs.Ytichcdoijieddaa.Ge Go.Proofs.Ytichcdoijieddaa.Oc Go.Proofs.Ytichcdoijieddaa.Pk Go.Proofs.Ytichcdoijieddaa.Su Go.Proofs.Ytichcdoijieddaa.Rf Go.Proofs.Ytichcdoijieddaa.Dv Go.Proofs.Ytichcdoijieddaa.Vo

/-- a world that grew behind one -/
structure Gr (w W : World) : Prop where
  below : Below w.heap.size w W
  size : w.heap.size < W.heap.size
theorem gr_keep {w W W' : World} {c8 : Value} (h : W.cell? ⟨w.heap.size, 8, none⟩ = some c8 ∧ Gr w W) (hb : Below W.heap.size W W') : W'.cell? ⟨w.heap.size, 8, none⟩ = some c8 ∧ Gr w W' := by
  obtain ⟨h1, h2, h3⟩ := h
  exact ⟨(hb.cell (p := ⟨_, 8, none⟩) h3).trans h1, bl_then h2 hb, Nat.lt_of_lt_of_le h3 hb.size⟩
theorem gr_of {w W : World} {c8 : Value} (h : W.cell? ⟨w.heap.size, 8, none⟩ = some c8 ∧ Gr w W) : Gr w W := h.2
theorem gr_start {w W : World} {y0 y1 y2 y3 y4 y5 y6 y7 c8 : Value} {T : TypeId} (h : W = (w.alloc (.cells #[y0, y1, y2, y3, y4, y5, y6, y7, c8] T)).drew) : W.cell? ⟨w.heap.size, 8, none⟩ = some c8 ∧ Gr w W := by
  subst h
  exact ⟨cell_of (alloc_new w _) 8, bl_drew (bl_alloc (Below.refl _ _) _), by show _ < _; simp⟩

theorem still_yes {w : World} {v b n m s : Nat} {d : Dev} {g : Lay} (h : VolIs w v b n m s d g) (hA : g.A = none → g.c = 0) (h0 : d.steps = 0) {A : Option Addr} {c : Nat} (hr : Rk .u64 w A (Pm.wordsOf d)) (y0 y1 y2 y3 y4 y5 y6 y7 : Int) :
    Calls Try.prog 9 #[.pointer (some ⟨v, 0, none⟩), .agg #[.int .i64 y0, .int .i64 y1, .int .i64 y2, .int .i64 y3, .int .i64 y4, .int .i64 y5, .int .i64 y6, .int .i64 y7, .slice A d.las.length c]] w fun e w' => e = .returned (.bool true) ∧ Below w.heap.size w w' := by
  have hu := Try.underlying32
  have hl9 := h.dev.wf.len
  have HDV : Hid (∀ {W}, Below w.heap.size w W → _) := fun {W} hb => Vo.device_ (h.below hb)
  have HWD : Hid (∀ {W}, Below w.heap.size w W → _) := fun {W} hb => Pm.words_any (h.dev.below hb) hA
  have HST : Hid (∀ {W}, Below w.heap.size w W → _) := fun {W} hb => Pm.steps_any (h.dev.below hb)
  have HSM : Hid (∀ {W : World} {A2 : Option Addr} {c2 : Nat}, Below w.heap.size w W → Rk .u64 W A2 (Pm.wordsOf d) → Calls Try.prog 30 #[.slice A2 d.las.length c2, .slice A d.las.length c] W fun e w' => e = .returned (.bool true) ∧ ∃ n, w' = W.drewN n) := by
    intro W A2 c2 hb hr2
    have h9 := Pm.same_words (rk_rd hr2) (rk_rd (hr.below hb)) c2 c (by rw [Pm.wordsOf_length]; omega) (by rw [Pm.wordsOf_length]; omega)
    rw [Pm.wordsOf_length, decide_eq_true rfl] at h9
    exact h9
  rw [h0] at HST
  obtain ⟨len, hle⟩ : ∃ len, len = d.las.length := ⟨_, rfl⟩
  rw [← hle] at HSM HWD
  rw [← hle]
  clear h hA h0 hr hl9 hle
  go_enter Try.func9, Try.ntmps9
  go_wp2_with fail
  go_region_held3 (fun w' => w'.cell? ⟨w.heap.size, 8, none⟩ = some (.slice A len c) ∧ Gr w w')
    (first | assumption | exact gr_start rfl | exact gr_keep ‹_› ‹_›)
    (first | (go_at_call 31; refine (HDV.out (gr_of ‹_›).below).mono ?_; rintro e w2 ⟨rfl, rfl⟩) |
      (go_at_call 32; refine (HWD.out (gr_of ‹_›).below).mono ?_; rintro e w3 ⟨v3, rfl, hown, hb⟩; (obtain ⟨A3, c3, rfl⟩ := own_slice hown); (have HOW3 := Lib.hid (own_rk (k := .u64) hown).1); clear hown) |
      (go_at_call 30; refine (HSM.out (gr_of ‹_›).below HOW3.out).mono ?_; rintro e w4 ⟨rfl, q4, hw4⟩; (have hb4 : Below w3.heap.size w3 w4 := by rw [hw4]; exact bl_drewN (Below.refl _ _) _); clear hw4) |
      (go_at_call 22; refine (HST.out (gr_of ‹_›).below).mono ?_; rintro e w5 ⟨rfl, rfl⟩))
  all_goals
    go_wp2
    go_ret
    exact ⟨rfl, (gr_of ‹_›).below⟩

end Go.Proofs.Ytichcdoijieddaa.Ra
end

/- The laws' look at a volume that was written: wrote. -/
section
set_option linter.unusedVariables false
set_option linter.unusedSimpArgs false
set_option maxHeartbeats 2000000
set_option maxRecDepth 100000
namespace Go.Proofs.Ytichcdoijieddaa.Ra
open Go Go.RowKit
open Go.Proofs.Ytichcdoijieddaa.Ob Go.Proofs.Ytichcdoijieddaa.Ba Go.Proofs.Ytichcdoijieddaa.Ko Go.Proofs.Ytichcdoijieddaa.Ge Go.Proofs.Ytichcdoijieddaa.Oc Go.Proofs.Ytichcdoijieddaa.Pk Go.Proofs.Ytichcdoijieddaa.Su Go.Proofs.Ytichcdoijieddaa.Rf Go.Proofs.Ytichcdoijieddaa.Dv Go.Proofs.Ytichcdoijieddaa.Vo

theorem stores_any {w : World} {b : Nat} {d : Dev} {g : Lay} (h : DevIs w b d g) :
    Calls Try.prog 23 #[.pointer (some ⟨b, 0, none⟩)] w fun e w' => e = .returned (.int .i64 d.stores) ∧ w = w' := by
  obtain ⟨c0, c1, c2, c3, c4, c5⟩ := Pm.dev_cells h
  go_enter Try.func23, Try.ntmps23
  go_wp2
  go_ret
  exact ⟨rfl, rfl⟩

theorem wrote_yes {w : World} {v b n m s : Nat} {d : Dev} {g : Lay} (h : VolIs w v b n m s d g) (hA : g.A = none → g.c = 0) {A B : Option Addr} {l xs : List Int} {c c2 : Nat} (hr : Rk .u64 w A l) (hx : Rk .u64 w B xs) (a : Nat) (hl : 1 ≤ l.length) (ha : a + xs.length ≤ l.length)
    (hw : Pm.wordsOf d = wput l a xs) (h0 : d.stores = xs.length) (h1 : d.steps = xs.length + nline a xs.length) (y0 y1 y2 y3 y4 y5 y6 y7 : Int) :
    Calls Try.prog 11 #[.pointer (some ⟨v, 0, none⟩), .agg #[.int .i64 y0, .int .i64 y1, .int .i64 y2, .int .i64 y3, .int .i64 y4, .int .i64 y5, .int .i64 y6, .int .i64 y7, .slice A l.length c], .int .i64 a, .slice B xs.length c2] w fun e w' => e = .returned (.bool true) ∧ Below w.heap.size w w' := by
  have hu := Try.underlying32
  have hl9 := h.dev.wf.len
  have hll : d.las.length = l.length := by
    have := congrArg List.length hw
    rw [Pm.wordsOf_length, wput_length] at this
    exact this
  rw [hll] at hl9
  have HDV : Hid (∀ {W}, Below w.heap.size w W → _) := fun {W} hb => Vo.device_ (h.below hb)
  have HWD : Hid (∀ {W}, Below w.heap.size w W → _) := fun {W} hb => Pm.words_any (h.dev.below hb) hA
  have HST : Hid (∀ {W}, Below w.heap.size w W → _) := fun {W} hb => Pm.steps_any (h.dev.below hb)
  have HSO : Hid (∀ {W}, Below w.heap.size w W → _) := fun {W} hb => stores_any (h.dev.below hb)
  have HPUT : Hid (∀ {W}, Below w.heap.size w W → _) := fun {W} hb => put15_ (hr.below hb) (hx.below hb) y0 y1 y2 y3 y4 y5 y6 y7 a c c2 hl hl9 ha
  have HSM : Hid (∀ {W : World} {A2 A8 : Option Addr} {c2 c8 : Nat}, Rk .u64 W A8 (wput l a xs) → Rk .u64 W A2 (Pm.wordsOf d) → Calls Try.prog 30 #[.slice A2 l.length c2, .slice A8 l.length c8] W fun e w' => e = .returned (.bool true) ∧ ∃ n, w' = W.drewN n) := by
    intro W A2 A8 c2 c8 hb hr2
    have h9 := Pm.same_words (rk_rd hr2) (rk_rd hb) c2 c8 (by rw [hw, wput_length]; omega) (by rw [wput_length]; omega)
    rw [hw, wput_length, decide_eq_true rfl] at h9
    exact h9
  have hnl := nline_le a xs.length
  rw [h0] at HSO
  rw [h1] at HST
  rw [hll] at HWD
  generalize nline a xs.length = q at *
  generalize xs.length = k at *
  generalize l.length = len at *
  have e5 : ((k + q : Nat) : Int) = (k : Int) + q := by omega
  rw [e5] at HST
  clear h hA h0 h1 hr hx hl hw hll e5
  go_enter Try.func11, Try.ntmps11
  go_wp2_with fail
  refine (HPUT.out (bl_alloc (Below.refl _ _) _)).mono ?_
  rintro e w1 ⟨v8, rfl, ho, hb1⟩
  obtain ⟨A8, c8, e8⟩ := own_slice ho
  subst e8
  have HR8 := Lib.hid (own_rk ho).1
  have HB1 := Lib.hid (bl_then (bl_alloc (Below.refl _ _) _) hb1)
  clear ho hb1 HPUT
  go_wp2_with (go_at_call 31; refine (HDV.out (bl_alloc HB1.out _)).mono ?_; rintro e w2 ⟨rfl, rfl⟩)
  have hwr : IntKind.i64.wrap ((k : Int) + q) = (k : Int) + q := IntWalk.i64_in _ (by omega)
  go_region_held3 (fun w' => w'.cell? ⟨w1.heap.size, 8, none⟩ = some (.slice A8 len c8) ∧ Gr w1 w')
    (first | assumption | exact gr_start rfl | exact gr_keep ‹_› ‹_›)
    (first | (go_at_call 32; refine (HWD.out (bl_then HB1.out (gr_of ‹_›).below)).mono ?_; rintro e w3 ⟨v3, rfl, hown, hb⟩; (obtain ⟨A3, c3, rfl⟩ := own_slice hown); (have HOW3 := Lib.hid (own_rk (k := .u64) hown).1); clear hown) |
      (go_at_call 30; refine (HSM.out (HR8.out.below (gr_of ‹_›).below) HOW3.out).mono ?_; rintro e w4 ⟨rfl, q4, hw4⟩; (have hb4 : Below w3.heap.size w3 w4 := by rw [hw4]; exact bl_drewN (Below.refl _ _) _); clear hw4) |
      (go_at_call 23; refine (HSO.out (bl_then HB1.out (gr_of ‹_›).below)).mono ?_; rintro e w5 ⟨rfl, rfl⟩) |
      (go_at_call 22; refine (HST.out (bl_then HB1.out (gr_of ‹_›).below)).mono ?_; rintro e w6 ⟨rfl, rfl⟩))
  all_goals
    go_wp2
    go_ret
    exact ⟨rfl, bl_then HB1.out (gr_of ‹_›).below⟩

end Go.Proofs.Ytichcdoijieddaa.Ra
end

/- One word put into a device that was made of words. -/
section
set_option linter.unusedVariables false
set_option linter.unusedSimpArgs false
namespace Go.Proofs.Ytichcdoijieddaa.Ra
open Go Go.RowKit
open Go.Proofs.Ytichcdoijieddaa.Ob Go.Proofs.Ytichcdoijieddaa.Ba Go.Proofs.Ytichcdoijieddaa.Oc Go.Proofs.Ytichcdoijieddaa.Pk Go.Proofs.Ytichcdoijieddaa.Rf Go.Proofs.Ytichcdoijieddaa.Dv Go.Proofs.Ytichcdoijieddaa.Vo

/-- the device behind one word stored and its line flushed -/
def one (L : List Int) (k : Nat) (x : Int) : Dev := ⟨2, 1, L, [((k : Int), ⟨[x], 1⟩)], none⟩
theorem put_one (L : List Int) (k : Nat) (x : Int) (hk : k < L.length) : putGo true [x] k ⟨Pm.devOf L, 0, []⟩ = (one L k x, some 1) := by
  have h1 : (Pm.devOf L).storeOk k = true := by simp [Dev.storeOk, Dev.inn, Dev.down, Pm.devOf, hk]
  have h2 : (Pm.devOf L).stored k x = ⟨1, 1, L, [((k : Int), ⟨[x], 0⟩)], none⟩ := by
    unfold Dev.stored
    rw [h1]
    simp [Dev.stepped, Pm.devOf, Dev.find]
  rw [putGo_store rfl h1, h2]
  have h3 : (⟨1, 1, L, [((k : Int), ⟨[x], 0⟩)], none⟩ : Dev).flushOk ((k / 8 : Nat) : Int) = true := by
    simp [Dev.flushOk, Dev.down]
    omega
  show flushGo (addLn [] (k / 8)) _ _ = _
  show (if Dev.flushOk _ ((k / 8 : Nat) : Int) then flushGo [] (Dev.flushed _ ((k / 8 : Nat) : Int)) _ else _) = _
  rw [if_pos h3]
  show ((Dev.flushed _ ((k / 8 : Nat) : Int)), some 1) = _
  unfold Dev.flushed
  rw [h3]
  simp [Dev.stepped, flushPen, one]
theorem one_load (L : List Int) (k : Nat) (x : Int) : (one L k x).load k = x := by
  simp [Dev.load, Dev.find, one]
theorem one_words (L : List Int) (k : Nat) (x : Int) (hk : k < L.length) : Pm.wordsOf (one L k x) = wput L k [x] := by
  rw [Pm.wordsOf_eq]
  show (List.range L.length).map _ = L.set k x
  apply List.ext_getElem?
  intro i
  by_cases hi : i < L.length
  · rw [List.getElem?_map, List.getElem?_range hi, List.getElem?_set]
    show some ((one L k x).load (i : Int)) = _
    by_cases e : k = i
    · subst e
      rw [one_load, if_pos rfl, if_pos hk]
    · rw [if_neg e]
      have hne : ¬ ((k : Int) = (i : Int)) := by omega
      simp [Dev.load, Dev.find, one, hne, Dev.lasting, Dev.inn, hi]
  · rw [List.getElem?_eq_none (by simp; omega), List.getElem?_eq_none (by simp; omega)]

end Go.Proofs.Ytichcdoijieddaa.Ra
end

/- A slot's word gives the slot back. -/
section
set_option linter.unusedVariables false
set_option linter.unusedSimpArgs false
namespace Go.Proofs.Ytichcdoijieddaa.Lo
open Go Go.RowKit
open Go.Proofs.Ytichcdoijieddaa.Su

theorem sEnc_lt (s c n : Int) (h : sMay s c n = true) : sEnc s c n < 18446744073709551616 := by
  obtain ⟨h1, h2, h3, h4, h5, h6⟩ := of_decide_eq_true h
  unfold sEnc
  have := sSum_lt (word1 s.toNat c.toNat (nx n))
  have hk : nx n < 65536 := by unfold nx; split <;> omega
  have hw : word1 s.toNat c.toNat (nx n) < 281474976710656 := by unfold word1; omega
  omega
theorem sEnc_parts (s c n : Int) (h : sMay s c n = true) : pa (sEnc s c n) = s.toNat ∧ pb (sEnc s c n) = c.toNat ∧ pc (sEnc s c n) = nx n := by
  obtain ⟨h1, h2, h3, h4, h5, h6⟩ := of_decide_eq_true h
  unfold sEnc
  have hs := sSum_lt (word1 s.toNat c.toNat (nx n))
  generalize sSum (word1 s.toNat c.toNat (nx n)) = y at *
  have hk : nx n < 65536 := by unfold nx; split <;> omega
  generalize nx n = k at *
  unfold pa pb pc word1
  omega
theorem nxt_nx (n : Int) (h0 : -1 ≤ n) (h1 : n < 65534) : nxt (nx n) = n := by
  unfold nxt nx
  split <;> split <;> omega
theorem sdec_enc (s c n : Int) (h : sMay s c n = true) (e : Ending) (hd : SDec (sEnc s c n) (pa (sEnc s c n)) (pb (sEnc s c n)) (pc (sEnc s c n)) e) : e = .returned (.tuple #[.agg #[.int .i64 s, .int .i64 c, .int .i64 n], .int .i64 0]) := by
  obtain ⟨h1, h2, h3, h4, h5, h6⟩ := of_decide_eq_true h
  obtain ⟨q1, q2, q3⟩ := sEnc_parts s c n h
  rw [q1, q2, q3] at hd
  have hs : ((s.toNat : Nat) : Int) = s := by omega
  have hc : ((c.toNat : Nat) : Int) = c := by omega
  have hx := nxt_nx n h5 h6
  have h9 := hd.1
  rw [hx, hs, hc] at h9
  exact h9 ⟨h, rfl⟩

end Go.Proofs.Ytichcdoijieddaa.Lo
end

/- The fifteenth chapter's example. -/
section
set_option linter.unusedVariables false
set_option linter.unusedSimpArgs false
set_option maxHeartbeats 2000000
set_option maxRecDepth 100000
namespace Go.Proofs.Ytichcdoijieddaa.Li
open Go Go.RowKit
open Go.Proofs.Ytichcdoijieddaa.Ob Go.Proofs.Ytichcdoijieddaa.Ba Go.Proofs.Ytichcdoijieddaa.Ko Go.Proofs.Ytichcdoijieddaa.Ge Go.Proofs.Ytichcdoijieddaa.Oc Go.Proofs.Ytichcdoijieddaa.Pk Go.Proofs.Ytichcdoijieddaa.Su Go.Proofs.Ytichcdoijieddaa.Rf Go.Proofs.Ytichcdoijieddaa.Dv Go.Proofs.Ytichcdoijieddaa.Vo Go.Proofs.Ytichcdoijieddaa.Ra Go.Proofs.Ytichcdoijieddaa.Lo

theorem opn_any {W : World} {b : Nat} {g : Lay} (r0 r1 r2 : Nat) (l : List Int) (n m s T : Nat) (hn : n = gB r0) (hm : m = gB r1) (hs : s = gS r2) (hT : (T : Int) = tot n m s) (hD : DevIs W b (Pm.devOf (dws (ints (enc n m s)) l T)) g) :
    Calls Try.prog 21 #[.pointer (some ⟨b, 0, none⟩)] W fun e w' => ∃ v, e = .returned (.tuple #[.pointer (some ⟨v, 0, none⟩), .int .i64 0]) ∧ W.heap.size ≤ v ∧ VolIs w' v b n m s (Pm.devOf (dws (ints (enc n m s)) l T)) g ∧ Below W.heap.size W w' := by
  have hok : geoOk n m s = true := by rw [hn, hm, hs]; exact g_ok r0 r1 r2
  have htt := g_tot r0 r1 r2
  rw [← hn, ← hm, ← hs, ← hT] at htt
  have hn9 : n < 65536 := by have := gB_in r0; omega
  have hm9 : m < 65536 := by have := gB_in r1; omega
  have hs9 : s < 65536 := by have := gS_or r2; omega
  have hlen : (dws (ints (enc n m s)) l T).length = T := dws_length _ _ _ rfl (by omega)
  have htk : (dws (ints (enc n m s)) l T).take 8 = ints (enc n m s) := dws_take8 _ _ _ rfl
  exact open_ok hD n m s hok hn9 hm9 hs9 (by show ((dws (ints (enc n m s)) l T).length : Int) = _; rw [hlen, hT]) (by show 8 ≤ (dws (ints (enc n m s)) l T).length; rw [hlen]; omega) (fun i x hx => by
    refine devOf_load ?_
    have hi := (List.getElem?_eq_some_iff.1 hx).1
    have h8 : i < 8 := hi
    have h9 : ((dws (ints (enc n m s)) l T).take 8)[i]? = some (x : Int) := by rw [htk]; exact ints_get hx
    rw [List.getElem?_take, if_pos h8] at h9
    exact h9)

theorem lives15 (w : World) : Calls Try.prog 5 #[] w fun e w' => e = .returned (.bool true) ∧ Below w.heap.size w w' := by
  have hu := Try.underlying32
  have hdv := device_ 3 3 0 (by decide) (by decide) (by decide) (A := none) (l := []) 0 (w := w) (Rk.nil _ _ _) (by decide) 4 4 64 96 rfl rfl rfl (by decide)
  have HOP : Hid (∀ {W : World} {b : Nat} {g : Lay}, DevIs W b (Pm.devOf (dws (ints (enc (4 : Nat) (4 : Nat) (64 : Nat))) [] 96)) g → _) := fun {W} {b} {g} hD => opn_any 3 3 0 [] 4 4 64 96 rfl rfl rfl (by decide) hD
  have hlen : (dws (ints (enc (4 : Nat) (4 : Nat) (64 : Nat))) [] 96).length = 96 := dws_length _ _ _ rfl (by decide)
  have HV : Hid (∀ v, vcells (4 : Nat) (4 : Nat) (64 : Nat) v = #[.int .i64 4, .int .i64 4, .int .i64 64, .int .i64 16, .int .i64 48, .int .i64 56, .int .i64 64, .int .i64 96, v]) := fun _ => rfl
  generalize dws (ints (enc (4 : Nat) (4 : Nat) (64 : Nat))) [] 96 = L at *
  have HP1 := Lib.hid (put_one L 48 (sEnc 0 1 (-1) : Nat) (by omega))
  have HLN := Lib.hid hlen
  have HD := Lib.hid hdv
  clear hdv hlen
  go_enter Try.func5, Try.ntmps5
  go_wp2_with fail
  refine (show Calls _ _ #[.agg #[.int .u8 3, .int .u8 3, .int .u8 0, .slice none 0 0]] _ _ from HD.out).mono ?_
  rintro e w1 ⟨b, g, vw, rfl, hd1, hf1, ho1, ha1, hb1⟩
  obtain ⟨A8, c8, e8⟩ := own_slice ho1
  subst e8
  rw [HV.out]
  have HD1 := Lib.hid hd1
  have HF1 := Lib.hid hf1
  have HB1 := Lib.hid hb1
  clear hd1 hf1 hb1 ho1 ha1
  go_wp2_with fail
  have hb0 : Below w1.heap.size w1 (w1.alloc (.cells #[.int .i64 4, .int .i64 4, .int .i64 64, .int .i64 16, .int .i64 48, .int .i64 56, .int .i64 64, .int .i64 96, .slice A8 96 c8] 32)) := bl_alloc (Below.refl _ _) _
  have HB0 := Lib.hid hb0
  clear hb0
  refine (lives05 _).mono ?_
  rintro e w2 ⟨rfl, hb2⟩
  have HB2 := Lib.hid (bl_then HB0.out hb2)
  clear hb2
  go_wp2_with fail
  refine (lives06 _).mono ?_
  rintro e w3 ⟨rfl, hb3⟩
  have HB3 := Lib.hid (bl_then HB2.out hb3)
  clear hb3
  go_wp2_with fail
  refine (lives07 _).mono ?_
  rintro e w4 ⟨rfl, hb4⟩
  have HB4 := Lib.hid (bl_then HB3.out hb4)
  clear hb4
  go_wp2_with fail
  refine (lives09 _).mono ?_
  rintro e w5 ⟨rfl, hb5⟩
  have HB5 := Lib.hid (bl_then HB4.out hb5)
  clear hb5
  go_wp2_with fail
  refine (lives10 _).mono ?_
  rintro e w6 ⟨rfl, hb6⟩
  have HB6 := Lib.hid (bl_then HB5.out hb6)
  clear hb6
  go_wp2_with fail
  refine (HOP.out (HD1.out.below HB6.out)).mono ?_
  rintro e w7 ⟨v, rfl, hlo, hvol, hb7⟩
  have HV7 := Lib.hid hvol
  have HB7 := Lib.hid (bl_then HB6.out hb7)
  clear hlo hvol hb7
  go_wp2_with fail
  refine (setslot_yes HV7.out (show (0 : Nat) ≤ 1000000000 from Nat.zero_le _) 0 0 1 (-1) (by decide) (by decide) 48 (by decide) _ HP1.out).mono ?_
  rintro e w8 ⟨rfl, hto⟩
  have hto2 := HV7.out.to hto (by rfl)
  obtain ⟨g8, hv8, hf8, hu8⟩ := hto2
  have HV8 := Lib.hid hv8
  have HB8 : Hid (Below w.heap.size w w8) := (bl_then HB1.out HB7.out).trans (hu8.belowB (bl_then HB1.out HB7.out).size HF1.out)
  clear hto hv8 hf8 hu8
  rw [show ecode (one L 48 (sEnc 0 1 (-1) : Nat), some 1) = 0 from rfl]
  go_wp2_with fail
  refine (Pm.steps_any HV8.out.dev).mono ?_
  rintro e w9 ⟨rfl, rfl⟩
  rw [show (one L 48 (sEnc 0 1 (-1) : Nat)).steps = 2 from rfl]
  go_wp2_with fail
  refine (stores_any HV8.out.dev).mono ?_
  rintro e w9 ⟨rfl, rfl⟩
  rw [show (one L 48 (sEnc 0 1 (-1) : Nat)).stores = 1 from rfl]
  go_wp2_with fail
  go_ret
  exact ⟨rfl, HB8.out⟩

end Go.Proofs.Ytichcdoijieddaa.Li
end

/- The document's slots (cantleref07). -/
section
set_option linter.unusedVariables false
set_option linter.unusedSimpArgs false
set_option maxHeartbeats 2000000
set_option maxRecDepth 100000
namespace Go.Proofs.Ytichcdoijieddaa.Lo
open Go Go.RowKit
open Go.Proofs.Ytichcdoijieddaa.Ob Go.Proofs.Ytichcdoijieddaa.Ba Go.Proofs.Ytichcdoijieddaa.Oc Go.Proofs.Ytichcdoijieddaa.Pk Go.Proofs.Ytichcdoijieddaa.Cr Go.Proofs.Ytichcdoijieddaa.C6 Go.Proofs.Ytichcdoijieddaa.Cc Go.Proofs.Ytichcdoijieddaa.Su

theorem rmay_ (s c n : Int) (w : World) : Calls Try.prog 24 #[.agg #[.int .i64 s, .int .i64 c, .int .i64 n]] w fun e w' => e = .returned (.bool (sMay s c n)) ∧ Below w.heap.size w w' := by
  have hu := Try.underlying38
  by_cases h : sMay s c n = true
  · rw [h]
    obtain ⟨h1, h2, h3, h4, h5, h6⟩ := of_decide_eq_true h
    clear h
    have q9 : s + c ≤ 65534 := by omega
    go_enter Try.func24, Try.ntmps24
    go_wp2
    go_ret
    exact ⟨by first | rfl | (simp; omega), bl_alloc (Below.refl _ _) _⟩
  · have hf : sMay s c n = false := by simpa using h
    rw [hf]
    rcases (by have := of_decide_eq_false hf; omega : s < 0 ∨ (0 ≤ s ∧ 65533 < s) ∨ (0 ≤ s ∧ s ≤ 65533 ∧ n < -1) ∨ (0 ≤ s ∧ s ≤ 65533 ∧ -1 ≤ n ∧ 65533 < n) ∨ (0 ≤ s ∧ s ≤ 65533 ∧ -1 ≤ n ∧ n ≤ 65533 ∧ c ≤ 0) ∨ (0 ≤ s ∧ s ≤ 65533 ∧ -1 ≤ n ∧ n ≤ 65533 ∧ 0 < c ∧ 65534 < c) ∨ (0 ≤ s ∧ s ≤ 65533 ∧ -1 ≤ n ∧ n ≤ 65533 ∧ 0 < c ∧ c ≤ 65534 ∧ 65534 < s + c)) with h1 | ⟨h1, h2⟩ | ⟨h1, h2, h3⟩ | ⟨h1, h2, h3, h4⟩ | ⟨h1, h2, h3, h4, h5⟩ | ⟨h1, h2, h3, h4, h5, h6⟩ | ⟨h1, h2, h3, h4, h5, h6, h7⟩
    all_goals
      clear h hf
      go_enter Try.func24, Try.ntmps24
      go_wp2
      go_ret
      exact ⟨by first | rfl | (simp; omega), bl_alloc (Below.refl _ _) _⟩

theorem txt_take (l : List Nat) (n : Nat) : (txt l).extract 0 n = txt (l.take n) := by
  unfold txt strOfNums
  rw [ints_take]
  apply ByteArray.ext
  rw [ByteArray.data_extract]
  simp [List.map_take]

theorem rencode_no (s c n : Int) (h : sMay s c n = false) (w : World) :
    Calls Try.prog 7 #[.agg #[.int .i64 s, .int .i64 c, .int .i64 n]] w fun e w' => e = .returned (.tuple #[.int .u64 0, .bool false]) ∧ Below w.heap.size w w' := by
  have hu := Try.underlying38
  have hm := rmay_ s c n
  rw [h] at hm
  have HM := Lib.hid hm
  clear h hm
  go_enter Try.func7, Try.ntmps7
  go_wp2_with (go_at_call 24; refine (HM.out _).mono ?_; rintro e w1 ⟨rfl, hb⟩; (have HB := Lib.hid hb); clear hb)
  go_ret2
  exact ⟨rfl, bl_then (bl_alloc (Below.refl _ _) _) HB.out⟩

theorem rencode_nat (a b : Nat) (n : Int) (k : Nat) (hk : k = nx n) (h : sMay a b n = true) (w : World) :
    Calls Try.prog 7 #[.agg #[.int .i64 a, .int .i64 b, .int .i64 n]] w fun e w' => e = .returned (.tuple #[.int .u64 (word1 a b k + 281474976710656 * sSum (word1 a b k) : Nat), .bool true]) ∧ Below w.heap.size w w' := by
  have hu := Try.underlying38
  have hmay := rmay_ a b n
  rw [h] at hmay
  have HM := Lib.hid hmay
  obtain ⟨h1, h2, h3, h4, h5, h6⟩ := of_decide_eq_true h
  have ha : a < 65536 := by omega
  have hb : b < 65536 := by omega
  have hc : k < 65536 := by rw [hk]; unfold nx; split <;> omega
  have hw1 : word1 a b k < 281474976710656 := by unfold word1; omega
  have hwd : word1 a b k = a + 65536 * b + 4294967296 * k := by unfold word1; omega
  generalize hx : word1 a b k = x at *
  have hs6 : sSum x < 65536 := sSum_lt x
  have HSM : Hid (∀ w, Calls Try.prog 25 #[.string (txt ((oct x).take 6))] w fun e w' => e = .returned (.int .u16 (sSum x : Nat)) ∧ w = w') := fun w => rsum16_ (fun z hz => oct_lt x z (List.mem_of_mem_take hz)) (by simp [oct]) w
  have hn : (0 ≤ n ∧ n = (k : Int)) ∨ (n < 0 ∧ k = 65535) := by rw [hk]; unfold nx; split <;> omega
  clear h hmay h1 h2 h3 h4 h5 h6 hk
  have ht6 : (txt (oct x)).extract 0 6 = txt ((oct x).take 6) := txt_take _ _
  have ht8 : (txt (oct x)).size = 8 := by rw [txt_size]; rfl
  have HRB : Hid (∀ {w : World} (h : Rk .u64 w (some ⟨w.heap.size, 0, none⟩) [(x : Int)]), True) := fun _ => trivial
  generalize htx : txt (oct x) = S at *
  generalize txt ((oct x).take 6) = S6 at *
  generalize hss : sSum x = y at *
  have hz : ∀ z : Int, z = (x : Int) + 281474976710656 * y → IntKind.u64.wrap z = ((x + 281474976710656 * y : Nat) : Int) := fun z hz => by rw [hz, wu64 _ (by omega) (by omega)]; omega
  rcases hn with ⟨hn, hn2⟩ | ⟨hn, hn2⟩
  · subst hn2
    have HX := Lib.hid (And.intro hwd (And.intro hx (And.intro hss htx)))
    clear hwd hx hss htx
    go_enter Try.func7, Try.ntmps7
    go_wp2_with (go_at_call 24; refine (HM.out _).mono ?_; rintro e w1 ⟨rfl, hb⟩; (obtain ⟨hc, hf⟩ := bcell hb); (have hz := hb.size); simp only [World.size_alloc] at hz; (have hz1 : w.heap.size < w1.heap.size := by omega); (have HB := Lib.hid hb); clear hb hf hz)
    have hxi : (a : Int) + 65536 * b + 4294967296 * k = (x : Nat) := by have := HX.out.1; omega
    rw [hxi]
    have hone : Rk .u64 (w1.alloc (.cells #[.int .u64 x] 35)) (some ⟨w1.heap.size, 0, none⟩) (ints [x]) := by
      refine blk_rk (alloc_new w1 (.cells #[.int .u64 x] 35)) fun i z hz => ?_
      match i with
      | 0 => simpa [ints] using hz
      | i + 1 => simp [ints] at hz
    have hrb := rbytes_ hone (by intro z hz; simp at hz; subst hz; omega) 1 (by simp)
    rw [show octs [x] = oct x from by simp [octs], HX.out.2.2.2] at hrb
    refine hrb.mono ?_
    clear hone hrb hxi hc
    rintro e w2 ⟨rfl, hb2⟩
    have HB2 := Lib.hid (bl_then (bl_alloc (bl_then (bl_alloc (Below.refl _ _) _) HB.out) _) hb2)
    clear hb2
    have hz3 := hz _ rfl
    have HW := Lib.hid hz3
    go_wp2_with (go_at_call 25; refine (HSM.out _).mono ?_; rintro e w3 ⟨rfl, rfl⟩)
    go_ret2
    exact ⟨by rfl, HB2.out⟩
  · subst hn2
    have HX := Lib.hid (And.intro hwd (And.intro hx (And.intro hss htx)))
    clear hwd hx hss htx
    go_enter Try.func7, Try.ntmps7
    go_wp2_with (go_at_call 24; refine (HM.out _).mono ?_; rintro e w1 ⟨rfl, hb⟩; (obtain ⟨hc, hf⟩ := bcell hb); (have hz := hb.size); simp only [World.size_alloc] at hz; (have hz1 : w.heap.size < w1.heap.size := by omega); (have HB := Lib.hid hb); clear hb hf hz)
    have hxi : (a : Int) + 65536 * b + 281470681743360 = (x : Nat) := by have := HX.out.1; omega
    rw [hxi]
    have hone : Rk .u64 (w1.alloc (.cells #[.int .u64 x] 35)) (some ⟨w1.heap.size, 0, none⟩) (ints [x]) := by
      refine blk_rk (alloc_new w1 (.cells #[.int .u64 x] 35)) fun i z hz => ?_
      match i with
      | 0 => simpa [ints] using hz
      | i + 1 => simp [ints] at hz
    have hrb := rbytes_ hone (by intro z hz; simp at hz; subst hz; omega) 1 (by simp)
    rw [show octs [x] = oct x from by simp [octs], HX.out.2.2.2] at hrb
    refine hrb.mono ?_
    clear hone hrb hxi hc
    rintro e w2 ⟨rfl, hb2⟩
    have HB2 := Lib.hid (bl_then (bl_alloc (bl_then (bl_alloc (Below.refl _ _) _) HB.out) _) hb2)
    clear hb2
    have hz3 := hz _ rfl
    have HW := Lib.hid hz3
    go_wp2_with (go_at_call 25; refine (HSM.out _).mono ?_; rintro e w3 ⟨rfl, rfl⟩)
    go_ret2
    exact ⟨by rfl, HB2.out⟩

theorem rencode_yes (s c n : Int) (h : sMay s c n = true) (w : World) :
    Calls Try.prog 7 #[.agg #[.int .i64 s, .int .i64 c, .int .i64 n]] w fun e w' => e = .returned (.tuple #[.int .u64 (sEnc s c n : Nat), .bool true]) ∧ Below w.heap.size w w' := by
  obtain ⟨h1, h2, h3, h4, h5, h6⟩ := of_decide_eq_true h
  obtain ⟨a, rfl⟩ := Int.eq_ofNat_of_zero_le h1
  obtain ⟨b, rfl⟩ := Int.eq_ofNat_of_zero_le (a := c) (by omega)
  exact rencode_nat a b n _ rfl h w

end Go.Proofs.Ytichcdoijieddaa.Lo
end

/- VolumeSlots: the walk. -/
section
set_option linter.unusedVariables false
set_option linter.unusedSimpArgs false
set_option maxHeartbeats 2000000
set_option maxRecDepth 100000
namespace Go.Proofs.Ytichcdoijieddaa.Vs
open Go Go.RowKit
open Go.Proofs.Ytichcdoijieddaa.Ob Go.Proofs.Ytichcdoijieddaa.Ba Go.Proofs.Ytichcdoijieddaa.Ko Go.Proofs.Ytichcdoijieddaa.Ge Go.Proofs.Ytichcdoijieddaa.Oc Go.Proofs.Ytichcdoijieddaa.Pk Go.Proofs.Ytichcdoijieddaa.Su Go.Proofs.Ytichcdoijieddaa.Rf Go.Proofs.Ytichcdoijieddaa.Dv Go.Proofs.Ytichcdoijieddaa.Vo Go.Proofs.Ytichcdoijieddaa.Ra Go.Proofs.Ytichcdoijieddaa.Lo Go.Proofs.Ytichcdoijieddaa.Li

theorem las_some {w : World} {b : Nat} {d : Dev} {g : Lay} (h : DevIs w b d g) (hl : 1 ≤ d.las.length) : g.A = none → g.c = 0 := by
  intro hA
  obtain ⟨x, hx⟩ := some_at (l := d.las) (i := 0) (by omega)
  obtain ⟨q, off, cs, e, -⟩ := h.las.at_ (i := 0) (v := .int .u64 x) (by rw [u64s, List.getElem?_map, hx]; rfl)
  rw [hA] at e
  cases e

theorem words_devOf (L : List Int) : Pm.wordsOf (Pm.devOf L) = L := by
  rw [Pm.wordsOf_eq]
  show (List.range L.length).map _ = L
  apply List.ext_getElem?
  intro i
  by_cases hi : i < L.length
  · obtain ⟨x, hx⟩ := some_at hi
    rw [List.getElem?_map, List.getElem?_range hi, hx]
    show some ((Pm.devOf L).load (i : Int)) = some _
    rw [devOf_load hx]
  · rw [List.getElem?_eq_none (by simp; omega), List.getElem?_eq_none (by omega)]

def xEnc (x y z : Int) : Nat := if sMay x y z then sEnc x y z else 0
theorem renc (x y z : Int) (w : World) : Calls Try.prog 7 #[.agg #[.int .i64 x, .int .i64 y, .int .i64 z]] w fun e w' => e = .returned (.tuple #[.int .u64 (xEnc x y z : Nat), .bool (sMay x y z)]) ∧ Below w.heap.size w w' := by
  unfold xEnc
  cases h : sMay x y z with
  | true => exact rencode_yes x y z h w
  | false => exact rencode_no x y z h w

/-- what stands behind the opening -/
structure St (w W : World) (q : Nat) (ob : Obj) (n m s p3 p4 p5 : Int) (A8 : Option Addr) (T c8 : Nat) (L : List Int) : Prop where
  slot : W.heap[w.heap.size + 1]? = some ob
  vol : W.heap[q]? = some (.cells #[.int .i64 n, .int .i64 m, .int .i64 s, .int .i64 16, .int .i64 (16 + 8 * m), .int .i64 p3, .int .i64 p4, .int .i64 p5, .slice A8 T c8] 32 (0, 0))
  row : Rk .u64 W A8 L
  below : Below w.heap.size w W
  two : w.heap.size + 2 ≤ q
theorem St.keep {w W W' : World} {q : Nat} {ob : Obj} {n m s p3 p4 p5 : Int} {A8 : Option Addr} {T c8 : Nat} {L : List Int} (h : St w W q ob n m s p3 p4 p5 A8 T c8 L) (hb : Below W.heap.size W W') : St w W' q ob n m s p3 p4 p5 A8 T c8 L :=
  ⟨blk_bl h.slot hb, blk_bl h.vol hb, h.row.below hb, bl_then h.below hb, h.two⟩

theorem still_at {w W : World} {q : Nat} {ob : Obj} {n m s p3 p4 p5 : Int} {A8 : Option Addr} {T c8 : Nat} {L : List Int} (h : St w W q ob n m s p3 p4 p5 A8 T c8 L) {v b n' m' s' : Nat} {g : Lay} (hv : VolIs W v b n' m' s' (Pm.devOf L) g) (hL : L.length = T) (h1 : 1 ≤ T) :
    Calls Try.prog 9 #[.pointer (some ⟨v, 0, none⟩), .agg #[.int .i64 n, .int .i64 m, .int .i64 s, .int .i64 16, .int .i64 (16 + 8 * m), .int .i64 p3, .int .i64 p4, .int .i64 p5, .slice A8 T c8]] W fun e w' => e = .returned (.bool true) ∧ Below W.heap.size W w' := by
  have hr : Rk .u64 W A8 (Pm.wordsOf (Pm.devOf L)) := by rw [words_devOf]; exact h.row
  have := still_yes hv (las_some hv.dev (by show 1 ≤ L.length; omega)) rfl (c := c8) hr n m s 16 (16 + 8 * m) p3 p4 p5
  rw [show (Pm.devOf L).las.length = T from hL] at this
  exact this

theorem walk (r0 r1 r2 : Nat) (h0 : r0 < 256) (h1 : r1 < 256) (h2 : r2 < 256) {A : Option Addr} {l : List Int} (c : Nat) {w : World} (h : Rk .u64 w A l) (hl9 : l.length ≤ 9223372036854775807) (i x y z : Int) (hi9 : -9223372036854775808 ≤ i ∧ i ≤ 9223372036854775807) :
    Calls Try.prog 3 #[.agg #[.int .u8 r0, .int .u8 r1, .int .u8 r2, .slice A l.length c], .int .i64 i, .agg #[.int .i64 x, .int .i64 y, .int .i64 z]] w fun e w' => e = .returned (.bool true) ∧ Below w.heap.size w w' := by
  have hu := Try.underlying32
  have hu2 := Try.underlying26
  have hu3 := Try.underlying24
  obtain ⟨n, hn⟩ : ∃ n, n = gB r0 := ⟨_, rfl⟩
  obtain ⟨m, hm⟩ : ∃ m, m = gB r1 := ⟨_, rfl⟩
  obtain ⟨s, hs⟩ : ∃ s, s = gS r2 := ⟨_, rfl⟩
  have htt := g_tot r0 r1 r2
  rw [← hn, ← hm, ← hs] at htt
  obtain ⟨T, hT⟩ : ∃ T : Nat, (T : Int) = tot n m s := ⟨(tot n m s).toNat, by omega⟩
  have hT1 : Hid (40 ≤ T ∧ T ≤ 1000) := by show _ ∧ _; omega
  have hnn : n ≤ 20 := by have := gB_in r0; omega
  have hmm : m ≤ 20 := by have := gB_in r1; omega
  have hfit : Hid (16 + 8 * (m : Int) + n ≤ T) := by
    show _ ≤ _
    rw [hT]
    unfold tot
    have e1 : (n : Int) ≤ up8 n := by unfold up8; omega
    have e2 : 0 ≤ up8 (((n : Int) + 63) / 64) := by unfold up8; omega
    have e3 : 0 ≤ (n : Int) * ((s : Int) / 8) := Int.mul_nonneg (by omega) (by omega)
    omega
  have HLEN := Lib.hid (dws_length (ints (enc n m s)) l T rfl (by have := hT1.out; omega))
  have HO : Hid (∀ {W : World}, Rk .u64 W A l → _) := fun {W} hW => open_ r0 r1 r2 h0 h1 h2 c (w := W) hW hl9 n m s T hn hm hs hT
  have HV : Hid (∀ v, vcells n m s v = #[.int .i64 n, .int .i64 m, .int .i64 s, .int .i64 16, .int .i64 (16 + 8 * m), .int .i64 (bmAt n m), .int .i64 (bkAt n m), .int .i64 (tot n m s), v]) := fun _ => rfl
  have H := Lib.hid h
  generalize dws (ints (enc n m s)) l T = L at *
  generalize vcells n m s = vc at *
  obtain ⟨len, hle⟩ : ∃ len, len = l.length := ⟨_, rfl⟩
  rw [← hle] at HO
  rw [← hle]
  clear h hl9 hn hm hs hT htt h0 h1 h2 hle
  generalize bmAt n m = p3 at *
  generalize bkAt n m = p4 at *
  generalize tot n m s = p5 at *
  go_enter Try.func3, Try.ntmps3
  go_wp2_with fail
  refine (lives15 _).mono ?_
  rintro e w1 ⟨rfl, hb1⟩
  have hqr := blk_bl (alloc_old (alloc_new w (.cells #[.int .u8 r0, .int .u8 r1, .int .u8 r2, .slice A len c] 24)) (.cells #[.int .i64 x, .int .i64 y, .int .i64 z] 26)) hb1
  have hqs := alloc_new (w.alloc (.cells #[.int .u8 r0, .int .u8 r1, .int .u8 r2, .slice A len c] 24)) (.cells #[.int .i64 x, .int .i64 y, .int .i64 z] 26)
  rw [World.size_alloc] at hqs
  have HS1 := Lib.hid (blk_bl hqs hb1)
  have hz1 := hb1.size
  simp only [World.size_alloc] at hz1
  have HZ1 : Hid (w.heap.size + 2 ≤ w1.heap.size) := hz1
  have HB1 := Lib.hid (bl_then (bl_alloc (bl_alloc (Below.refl _ _) _) _) hb1)
  have a0 := cell_of hqr 0
  have a1 := cell_of hqr 1
  have a2 := cell_of hqr 2
  have a3 := cell_of hqr 3
  clear hqr hqs hb1 hz1
  go_wp2_with fail
  refine (HO.out (H.out.below HB1.out)).mono ?_
  rintro e w2 ⟨v, b, g, vw, rfl, hop⟩
  obtain ⟨A8, c8, e8⟩ := own_slice hop.row
  subst e8
  rw [HV.out]
  have HST2 : Hid (St w (w2.alloc (.cells #[.int .i64 n, .int .i64 m, .int .i64 s, .int .i64 16, .int .i64 (16 + 8 * m), .int .i64 p3, .int .i64 p4, .int .i64 p5, .slice A8 T c8] 32)) w2.heap.size (.cells #[.int .i64 x, .int .i64 y, .int .i64 z] 26 (0, 0)) n m s p3 p4 p5 A8 T c8 L) :=
    ⟨alloc_old (blk_bl HS1.out hop.below) _, alloc_new _ _, (own_rk (k := .u64) hop.row).1.below (bl_alloc (Below.refl _ _) _), bl_alloc (bl_then HB1.out hop.below) _, Nat.le_trans HZ1.out hop.below.size⟩
  have HVO2 := Lib.hid (hop.vol.below (bl_alloc (Below.refl _ _) (.cells #[.int .i64 n, .int .i64 m, .int .i64 s, .int .i64 16, .int .i64 (16 + 8 * m), .int .i64 p3, .int .i64 p4, .int .i64 p5, .slice A8 T c8] 32)))
  have HFT : Hid (∀ k ∈ g.foot b, w.heap.size + 2 ≤ k ∧ k < w2.heap.size) := fun k hk => ⟨Nat.le_trans HZ1.out (hop.foot k hk), hop.vol.dev.lt k hk⟩
  have HAP : Hid (∀ a, A8 = some a → a.block ∉ g.foot b) := fun a ha => hop.apart _ (by rw [ha]; rfl)
  clear hop a0 a1 a2 a3
  have hst2 := HST2.out
  have s0 := cell_of hst2.slot 0
  have s1 := cell_of hst2.slot 1
  have s2 := cell_of hst2.slot 2
  clear hst2
  go_wp2_with fail
  refine (renc x y z _).mono ?_
  rintro e w3 ⟨rfl, hb3⟩
  have HST3 := Lib.hid (HST2.out.keep hb3)
  have HVO3 := Lib.hid (HVO2.out.below hb3)
  have hst3 := HST3.out
  clear s0 s1 s2 hb3
  have s0 := cell_of hst3.slot 0
  have s1 := cell_of hst3.slot 1
  have s2 := cell_of hst3.slot 2
  clear hst3
  go_wp2_with fail
  by_cases hi : i < 0 ∨ (n : Int) ≤ i
  · refine (setslot_range HVO3.out i x y z hi).mono ?_
    rintro e w4 ⟨rfl, hb4⟩
    have HST4 := Lib.hid (HST3.out.keep hb4)
    have HSY := Lib.hid (still_at (HST3.out.keep hb4) (HVO3.out.below hb4) HLEN.out (by have := hT1.out; omega))
    have hst4 := HST4.out
    clear s0 s1 s2 hb4
    have m0 := cell_of hst4.vol 0
    have m1 := cell_of hst4.vol 1
    have m2 := cell_of hst4.vol 2
    have m3 := cell_of hst4.vol 3
    have m4 := cell_of hst4.vol 4
    have m5 := cell_of hst4.vol 5
    have m6 := cell_of hst4.vol 6
    have m7 := cell_of hst4.vol 7
    have m8 := cell_of hst4.vol 8
    clear hst4
    generalize (16 + 8 * (m : Int)) = p2 at *
    rcases hi with hi | hi
    · go_wp2_with (go_at_call 9; refine HSY.out.mono ?_; rintro e w5 ⟨rfl, hb5⟩; (have HB5 := Lib.hid hb5); clear hb5)
      go_ret
      exact ⟨rfl, bl_then HST4.out.below HB5.out⟩
    · have hi0 : ¬ i < 0 := by omega
      go_wp2_with (go_at_call 9; refine HSY.out.mono ?_; rintro e w5 ⟨rfl, hb5⟩; (have HB5 := Lib.hid hb5); clear hb5)
      go_ret
      exact ⟨rfl, bl_then HST4.out.below HB5.out⟩
  obtain ⟨hi0, hin⟩ : 0 ≤ i ∧ i < (n : Int) := by omega
  cases hmay : sMay x y z with
  | false =>
    refine (setslot_no HVO3.out i x y z ⟨hi0, hin⟩ hmay).mono ?_
    rintro e w4 ⟨rfl, hb4⟩
    have HST4 := Lib.hid (HST3.out.keep hb4)
    have HSY := Lib.hid (still_at (HST3.out.keep hb4) (HVO3.out.below hb4) HLEN.out (by have := hT1.out; omega))
    have hst4 := HST4.out
    clear s0 s1 s2 hb4 hi
    have m0 := cell_of hst4.vol 0
    have m1 := cell_of hst4.vol 1
    have m2 := cell_of hst4.vol 2
    have m3 := cell_of hst4.vol 3
    have m4 := cell_of hst4.vol 4
    have m5 := cell_of hst4.vol 5
    have m6 := cell_of hst4.vol 6
    have m7 := cell_of hst4.vol 7
    have m8 := cell_of hst4.vol 8
    clear hst4 hmay
    generalize (16 + 8 * (m : Int)) = p2 at *
    go_wp2_with (go_at_call 9; refine HSY.out.mono ?_; rintro e w5 ⟨rfl, hb5⟩; (have HB5 := Lib.hid hb5); clear hb5)
    go_ret
    exact ⟨rfl, bl_then HST4.out.below HB5.out⟩
  | true =>
    obtain ⟨k, hk⟩ : ∃ k : Nat, (k : Int) = 16 + 8 * (m : Int) + i := ⟨(16 + 8 * (m : Int) + i).toNat, by omega⟩
    have hkT : k < L.length := by have := hfit.out; have := HLEN.out; omega
    have HP1 := Lib.hid (put_one L k (sEnc x y z : Nat) hkT)
    refine (setslot_yes HVO3.out (show (0 : Nat) ≤ 1000000000 from Nat.zero_le _) i x y z ⟨hi0, hin⟩ hmay k hk _ HP1.out).mono ?_
    rintro e w4 ⟨rfl, hto⟩
    obtain ⟨g4, hv4, hf4, hu4⟩ := HVO3.out.to hto (by rfl)
    rw [show ecode (one L k (sEnc x y z : Nat), some 1) = 0 from rfl]
    have hst4 : St w w4 w2.heap.size (.cells #[.int .i64 x, .int .i64 y, .int .i64 z] 26 (0, 0)) n m s p3 p4 p5 A8 T c8 L := by
      refine ⟨hu4.blk HST3.out.slot (fun hm => by have := HFT.out _ hm; omega), hu4.blk HST3.out.vol (fun hm => by have := HFT.out _ hm; omega), ?_, HST3.out.below.trans (hu4.belowB HST3.out.below.size (fun k hk => by have := HFT.out k hk; omega)), HST3.out.two⟩
      refine HST3.out.row.keep (fun a ha => ?_) hu4.size
      obtain ⟨u, hu9⟩ := some_at (l := L) (i := 0) (by omega)
      obtain ⟨a', ha', hlt, -⟩ := HST3.out.row 0 u hu9
      rw [ha] at ha'
      cases ha'
      exact hu4.block _ hlt (HAP.out a ha)
    have HST4 := Lib.hid hst4
    have HV4 := Lib.hid hv4
    have hX : xEnc x y z = sEnc x y z := by unfold xEnc; rw [hmay]; rfl
    have hget := slot_get hv4 i ⟨hi0, hin⟩ k hk (sEnc x y z) (sEnc_lt x y z hmay) (one_load L k _) (x, y, z, 0) (fun e he => sdec_enc x y z hmay e he)
    rw [← hX] at HV4
    have HGET := Lib.hid hget
    have HKT := Lib.hid hkT
    have m0 := cell_of hst4.vol 0
    clear hst4 hv4 hf4 hu4 hto hget hX s0 s1 s2 hi hkT
    generalize xEnc x y z = X at *
    go_wp2_with fail
    refine HGET.out.mono ?_
    rintro e w5 ⟨rfl, hb5⟩
    have HST5 := Lib.hid (HST4.out.keep hb5)
    have HV5 := Lib.hid (HV4.out.below hb5)
    have hst5 := HST5.out
    clear hb5 hmay m0
    have s0 := cell_of hst5.slot 0
    have s1 := cell_of hst5.slot 1
    have s2 := cell_of hst5.slot 2
    have m0 := cell_of hst5.vol 0
    have m1 := cell_of hst5.vol 1
    have m2 := cell_of hst5.vol 2
    have m3 := cell_of hst5.vol 3
    have m4 := cell_of hst5.vol 4
    have m5 := cell_of hst5.vol 5
    have m6 := cell_of hst5.vol 6
    have m7 := cell_of hst5.vol 7
    have m8 := cell_of hst5.vol 8
    have lt1 := lt_of hst5.slot
    have lt2 := lt_of hst5.vol
    have hp2 : 0 ≤ 16 + 8 * (m : Int) ∧ 16 + 8 * (m : Int) ≤ 1000 := by omega
    obtain ⟨hp20, hp29⟩ := hp2
    have HK := Lib.hid hk
    clear hst5 hk
    generalize (16 + 8 * (m : Int)) = p2 at *
    go_wp2_with fail
    have hb6 : Below w5.heap.size w5 ((w5.alloc (.cells #[.int .i64 x, .int .i64 y, .int .i64 z] 26)).alloc (.cells #[.int .u64 X] 35)) := bl_alloc (bl_alloc (Below.refl _ _) _) _
    have hxs : Rk .u64 ((w5.alloc (.cells #[.int .i64 x, .int .i64 y, .int .i64 z] 26)).alloc (.cells #[.int .u64 X] 35)) (some ⟨w5.heap.size + 1, 0, none⟩) [(X : Int)] := by
      have := alloc_new (w5.alloc (.cells #[.int .i64 x, .int .i64 y, .int .i64 z] 26)) (.cells #[.int .u64 X] 35)
      rw [World.size_alloc] at this
      refine blk_rk this fun j u hu => ?_
      match j with
      | 0 => simpa using hu
      | j + 1 => simp at hu
    have hwr := wrote_yes (HV5.out.below hb6) (las_some HV5.out.dev (by show 1 ≤ L.length; have := HKT.out; omega)) (c := c8) (c2 := 1) (HST5.out.row.below hb6) hxs k (by have := HKT.out; omega) (by have := HKT.out; simp; omega) (one_words L k X HKT.out) rfl (by simp [nline, one]) n m s 16 p2 p3 p4 p5
    rw [HLEN.out, HK.out] at hwr
    refine (show Calls _ _ #[.pointer (some ⟨v, 0, none⟩), _, .int .i64 (p2 + i), .slice (some ⟨w5.heap.size + 1, 0, none⟩) 1 1] _ _ from hwr).mono ?_
    rintro e w6 ⟨rfl, hb7⟩
    have HB7 := Lib.hid (bl_then (bl_then HST5.out.below hb6) hb7)
    clear hb6 hxs hwr hb7
    go_wp2_with fail
    go_ret
    exact ⟨rfl, HB7.out⟩

end Go.Proofs.Ytichcdoijieddaa.Vs
end
