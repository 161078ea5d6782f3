/- Parts of the proof, one behind the other: Vd, Ao. -/
import Derived.Test.YtichcdoijieddaaG12
import Derived.Test.YtichcdoijieddaaG01
import Derived.Test.YtichcdoijieddaaRows
import Derived.ProofKit
import Derived.OpenShut
import Derived.ShutString
import Derived.ChangeOld
import Derived.Below
import Derived.Lib.SmallJoins
import Derived.Deep.Slices
import Derived.Deep.Fields
import Derived.ChangeSame

/- VolumeBlocks: the walk. -/
section
set_option linter.unusedVariables false
set_option linter.unusedSimpArgs false
set_option maxHeartbeats 2000000
set_option maxRecDepth 100000
namespace Go.Proofs.Ytichcdoijieddaa.Vd
open Go Go.RowKit
open Go.Proofs.Ytichcdoijieddaa.Ob Go.Proofs.Ytichcdoijieddaa.Ba Go.Proofs.Ytichcdoijieddaa.Ko Go.Proofs.Ytichcdoijieddaa.Ge Go.Proofs.Ytichcdoijieddaa.Oc Go.Proofs.Ytichcdoijieddaa.Pk Go.Proofs.Ytichcdoijieddaa.Su Go.Proofs.Ytichcdoijieddaa.Rf Go.Proofs.Ytichcdoijieddaa.Dv Go.Proofs.Ytichcdoijieddaa.Vo Go.Proofs.Ytichcdoijieddaa.Ra Go.Proofs.Ytichcdoijieddaa.Lo Go.Proofs.Ytichcdoijieddaa.Li Go.Proofs.Ytichcdoijieddaa.Cc Go.Proofs.Ytichcdoijieddaa.Vs

theorem nine {W : World} {q T : Nat} {fr : Nat × Nat} {x0 x1 x2 x3 x4 x5 x6 x7 : Int} {v : Value} (h : W.heap[q]? = some (.cells #[.int .i64 x0, .int .i64 x1, .int .i64 x2, .int .i64 x3, .int .i64 x4, .int .i64 x5, .int .i64 x6, .int .i64 x7, v] T fr)) :
    W.cell? ⟨q, 0, none⟩ = some (.int .i64 x0) ∧ W.cell? ⟨q, 1, none⟩ = some (.int .i64 x1) ∧ W.cell? ⟨q, 2, none⟩ = some (.int .i64 x2) ∧ W.cell? ⟨q, 3, none⟩ = some (.int .i64 x3) ∧ W.cell? ⟨q, 4, none⟩ = some (.int .i64 x4) ∧ W.cell? ⟨q, 5, none⟩ = some (.int .i64 x5) ∧ W.cell? ⟨q, 6, none⟩ = some (.int .i64 x6) ∧ W.cell? ⟨q, 7, none⟩ = some (.int .i64 x7) ∧ W.cell? ⟨q, 8, none⟩ = some v :=
  ⟨cell_of h 0, cell_of h 1, cell_of h 2, cell_of h 3, cell_of h 4, cell_of h 5, cell_of h 6, cell_of h 7, cell_of h 8⟩

theorem add9 {a0 a1 a2 a3 a4 a5 a6 a7 a8 b : Prop} (h : a0 ∧ a1 ∧ a2 ∧ a3 ∧ a4 ∧ a5 ∧ a6 ∧ a7 ∧ a8) (hb : b) : a0 ∧ a1 ∧ a2 ∧ a3 ∧ a4 ∧ a5 ∧ a6 ∧ a7 ∧ a8 ∧ b := ⟨h.1, h.2.1, h.2.2.1, h.2.2.2.1, h.2.2.2.2.1, h.2.2.2.2.2.1, h.2.2.2.2.2.2.1, h.2.2.2.2.2.2.2.1, h.2.2.2.2.2.2.2.2, hb⟩
/-- a world behind another -/
structure Bl (w W : World) : Prop where
  below : Below w.heap.size w W

theorem walk_long (r0 r1 r2 : Nat) {A : Option Addr} (ll c : Nat) {w : World} (i : Int) (D : Option Addr) (dl dc : Nat) (hd : 300 < dl) (hd9 : dl ≤ 9223372036854775807) :
    Calls Try.prog 4 #[.agg #[.int .u8 r0, .int .u8 r1, .int .u8 r2, .slice A ll c], .int .i64 i, .slice D dl dc] w fun e w' => e = .returned (.bool true) ∧ Below w.heap.size w w' := by
  go_enter Try.func4, Try.ntmps4
  go_wp2_with fail
  refine (lives15 _).mono ?_
  rintro e w1 ⟨rfl, hb1⟩
  have HB1 := Lib.hid (bl_then (bl_alloc (Below.refl _ _) _) hb1)
  clear hb1
  go_wp2_with fail
  refine (lives15 _).mono ?_
  rintro e w2 ⟨rfl, hb2⟩
  have HB2 := Lib.hid (bl_then HB1.out hb2)
  clear hb2
  go_wp2_with fail
  go_ret
  exact ⟨rfl, HB2.out⟩

theorem walk (r0 r1 r2 : Nat) (h0 : r0 < 256) (h1 : r1 < 256) (h2 : r2 < 256) {A : Option Addr} {l : List Int} (c : Nat) {w : World} (h : Rk .u64 w A l) (hl9 : l.length ≤ 9223372036854775807) (i : Int) (hi9 : -9223372036854775808 ≤ i ∧ i ≤ 9223372036854775807) {D : Option Addr} {data : List Nat} (hD : Rk .u8 w D (ints data)) (hdl : ∀ x ∈ data, x < 256) (dc : Nat) (hd : data.length ≤ 300) :
    Calls Try.prog 4 #[.agg #[.int .u8 r0, .int .u8 r1, .int .u8 r2, .slice A l.length c], .int .i64 i, .slice D data.length dc] w fun e w' => e = .returned (.bool true) ∧ Below w.heap.size w w' := by
  have hu := Try.underlying32
  have hu3 := Try.underlying24
  obtain ⟨n, hn⟩ : ∃ n, n = gB r0 := ⟨_, rfl⟩
  obtain ⟨m, hm⟩ : ∃ m, m = gB r1 := ⟨_, rfl⟩
  obtain ⟨s, hs⟩ : ∃ s, s = gS r2 := ⟨_, rfl⟩
  have htt := g_tot r0 r1 r2
  rw [← hn, ← hm, ← hs] at htt
  obtain ⟨T, hT⟩ : ∃ T : Nat, (T : Int) = tot n m s := ⟨(tot n m s).toNat, by omega⟩
  have hT1 : Hid (40 ≤ T ∧ T ≤ 1000) := by show _ ∧ _; omega
  have hnn : n ≤ 20 := by have := gB_in r0; omega
  have hmm : m ≤ 20 := by have := gB_in r1; omega
  have hss : s = 64 ∨ s = 128 := by have := gS_or r2; omega
  have hfit : Hid (bkAt n m + n * ((s : Int) / 8) = T ∧ 0 ≤ bkAt n m) := by
    show _ ∧ _
    rw [hT]
    unfold tot bkAt
    have e1 : 0 ≤ up8 n := by unfold up8; omega
    have e2 : 0 ≤ up8 (((n : Int) + 63) / 64) := by unfold up8; omega
    constructor
    · omega
    · omega
  have HLEN := Lib.hid (dws_length (ints (enc n m s)) l T rfl (by have := hT1.out; omega))
  have HO : Hid (∀ {W : World}, Rk .u64 W A l → _) := fun {W} hW => open_ r0 r1 r2 h0 h1 h2 c (w := W) hW hl9 n m s T hn hm hs hT
  have HV : Hid (∀ v, vcells n m s v = #[.int .i64 n, .int .i64 m, .int .i64 s, .int .i64 16, .int .i64 (16 + 8 * m), .int .i64 (bmAt n m), .int .i64 (bkAt n m), .int .i64 (tot n m s), v]) := fun _ => rfl
  have H := Lib.hid h
  have HD := Lib.hid hD
  have HDL := Lib.hid hdl
  generalize dws (ints (enc n m s)) l T = L at *
  generalize vcells n m s = vc at *
  obtain ⟨len, hle⟩ : ∃ len, len = l.length := ⟨_, rfl⟩
  rw [← hle] at HO
  rw [← hle]
  obtain ⟨dl, hde⟩ : ∃ dl, dl = data.length := ⟨_, rfl⟩
  rw [← hde] at hd
  rw [← hde]
  have HDE := Lib.hid hde
  clear h hl9 hn hm hs hT htt h0 h1 h2 hle hD hdl hde
  generalize bmAt n m = p3 at *
  obtain ⟨p4, hp4⟩ : ∃ p4, p4 = bkAt n m := ⟨_, rfl⟩
  have HP4 := Lib.hid hp4
  rw [← hp4] at HV hfit
  clear hp4
  generalize tot n m s = p5 at *
  go_enter Try.func4, Try.ntmps4
  go_wp2_with fail
  refine (lives15 _).mono ?_
  rintro e w1 ⟨rfl, hb1⟩
  have hqr := blk_bl (alloc_new w (.cells #[.int .u8 r0, .int .u8 r1, .int .u8 r2, .slice A len c] 24)) hb1
  have hz1 := hb1.size
  simp only [World.size_alloc] at hz1
  have HZ1 : Hid (w.heap.size + 1 ≤ w1.heap.size) := hz1
  have HB1 := Lib.hid (bl_then (bl_alloc (Below.refl _ _) _) hb1)
  have a0 := cell_of hqr 0
  have a1 := cell_of hqr 1
  have a2 := cell_of hqr 2
  have a3 := cell_of hqr 3
  clear hqr hb1 hz1
  go_wp2_with fail
  refine (HO.out (H.out.below HB1.out)).mono ?_
  rintro e w2 ⟨v, b, g, vw, rfl, hop⟩
  obtain ⟨A8, c8, e8⟩ := own_slice hop.row
  subst e8
  rw [HV.out]
  obtain ⟨W2, hW2⟩ : ∃ W2, W2 = w2.alloc (.cells #[.int .i64 n, .int .i64 m, .int .i64 s, .int .i64 16, .int .i64 (16 + 8 * m), .int .i64 p3, .int .i64 p4, .int .i64 p5, .slice A8 T c8] 32) := ⟨_, rfl⟩
  have hbW : Below w2.heap.size w2 W2 := by rw [hW2]; exact bl_alloc (Below.refl _ _) _
  have hsW : W2.heap.size = w2.heap.size + 1 := by rw [hW2]; simp
  have HSV : Hid (Sv w W2 w2.heap.size n m s p3 p4 p5 A8 T c8 L) :=
    ⟨by rw [hW2]; exact alloc_new _ _, (own_rk (k := .u64) hop.row).1.below hbW, bl_then (bl_then HB1.out hop.below) hbW, by have := HZ1.out; have := hop.below.size; omega⟩
  have HVO := Lib.hid (hop.vol.below hbW)
  have HFT : Hid (∀ k ∈ g.foot b, w.heap.size ≤ k ∧ k < w2.heap.size) := fun k hk => ⟨by have := HZ1.out; have := hop.foot k hk; omega, hop.vol.dev.lt k hk⟩
  have HAP : Hid (∀ a, A8 = some a → a.block ∉ g.foot b) := fun a ha => hop.apart _ (by rw [ha]; rfl)
  have HAL : Hid (∀ a, A8 = some a → a.block < w2.heap.size) := fun a ha => by
    obtain ⟨u, hu9⟩ := some_at (l := L) (i := 0) (by rw [HLEN.out]; have := hT1.out; omega)
    obtain ⟨a', ha', hlt, -⟩ := (own_rk (k := .u64) hop.row).1 0 u hu9
    rw [ha] at ha'; cases ha'
    exact hlt
  have HVL : Hid (v < w2.heap.size) := lt_of hop.vol.blk
  have HSW := Lib.hid hsW
  have HW2 := Lib.hid hW2
  clear hop a0 a1 a2 a3 hbW hsW hW2
  have happ := run_append_arg (W2.alloc (.cells #[] 5)) W2.heap.size 46 0 [] (own_nil _ _ _ _ (Nat.le_refl _) (alloc_new W2 _) 1) (HD.out.below (bl_alloc HSV.out.below _)) dc (by rw [← HDE.out]; omega) (by simp)
  obtain ⟨v9, w3, happ, hown, hgrow⟩ := happ
  rw [← HDE.out, Nat.zero_add, List.nil_append] at hown
  obtain ⟨A9, c9, e9⟩ := own_slice hown
  subst e9
  have hb3 : Below W2.heap.size W2 w3 := bl_grown (bl_alloc (Below.refl _ _) _) hgrow (by intro k hk; cases hk; exact Nat.le_refl _)
  have HZ3 : Hid (W2.heap.size ≤ w3.heap.size) := hb3.size
  have HSV3 := Lib.hid (HSV.out.keep hb3)
  have HVO3 := Lib.hid (HVO.out.below hb3)
  have HOW3 := Lib.hid hown
  rw [HSW.out, HW2.out, ← HDE.out] at happ
  have HAPP := Lib.hid happ
  clear happ hown hgrow hb3
  go_wp2_with (at_builtin; refine Lib.wpList_append_run _ rfl (.tmp 29) (.tmp 30) 46 46 rfl (.slice (some ⟨w2.heap.size + 1, 0, none⟩) 0 0) (.slice D dl dc) rfl rfl (.slice A9 dl c9) w3 HAPP.out ?_)
  have hdat := HD.out.below HSV3.out.below
  have HDT3 := Lib.hid hdat
  clear hdat
  have HRK3 : Hid (Rk .u8 w3 A9 (ints data)) := (own_rk (k := .u8) HOW3.out).1
  have HTX : Hid (txt data = txt data) := rfl
  by_cases hi : i < 0 ∨ (n : Int) ≤ i
  · refine (setblock_range HVO3.out i A9 dl c9 hi).mono ?_
    rintro e w4 ⟨rfl, hb4⟩
    have HSV4 := Lib.hid (HSV3.out.keep hb4)
    have HVO4 := Lib.hid (HVO3.out.below hb4)
    have hc1 := conv_rk (HRK3.out.below hb4) c9
    have hc2 := conv_rk (HDT3.out.below hb4) dc
    have HSY := Lib.hid (HSV4.out.still HVO4.out HLEN.out (by have := hT1.out; omega))
    rw [← HDE.out] at hc1 hc2
    have hst4 := HSV4.out
    generalize txt data = S at *
    have m0 := cell_of hst4.vol 0
    have m1 := cell_of hst4.vol 1
    have m2 := cell_of hst4.vol 2
    have m3 := cell_of hst4.vol 3
    have m4 := cell_of hst4.vol 4
    have m5 := cell_of hst4.vol 5
    have m6 := cell_of hst4.vol 6
    have m7 := cell_of hst4.vol 7
    have m8 := cell_of hst4.vol 8
    clear hst4 hb4
    generalize (16 + 8 * (m : Int)) = p2 at *
    rcases hi with hi | hi
    · go_wp2_with (go_at_call 9; refine HSY.out.mono ?_; rintro e w5 ⟨rfl, hb5⟩; (have HB5 := Lib.hid hb5); clear hb5)
      go_ret
      exact ⟨rfl, bl_then HSV4.out.below HB5.out⟩
    · have hi0 : ¬ i < 0 := by omega
      go_wp2_with (go_at_call 9; refine HSY.out.mono ?_; rintro e w5 ⟨rfl, hb5⟩; (have HB5 := Lib.hid hb5); clear hb5)
      go_ret
      exact ⟨rfl, bl_then HSV4.out.below HB5.out⟩
  obtain ⟨hi0, hin⟩ : 0 ≤ i ∧ i < (n : Int) := by omega
  have hmul : 0 ≤ i * ((s : Int) / 8) ∧ i * ((s : Int) / 8) + (s : Int) / 8 ≤ (n : Int) * ((s : Int) / 8) := by
    rcases hss with rfl | rfl
    · constructor <;> omega
    · constructor <;> omega
  obtain ⟨k, hk⟩ : ∃ k : Nat, (k : Int) = bkAt n m + i * ((s : Int) / 8) := ⟨(bkAt n m + i * ((s : Int) / 8)).toNat, by have := hfit.out; have := HP4.out; omega⟩
  have HKT : Hid (k + s / 8 ≤ T) := by
    show _ ≤ _
    have := hfit.out
    have := HP4.out
    omega
  by_cases hds : s < dl
  · refine (setblock_long HVO3.out i A9 dl c9 ⟨hi0, hin⟩ k hk hds).mono ?_
    rintro e w4 ⟨rfl, hb4⟩
    have HSV4 := Lib.hid (HSV3.out.keep hb4)
    have HVO4 := Lib.hid (HVO3.out.below hb4)
    have hc1 := conv_rk (HRK3.out.below hb4) c9
    have hc2 := conv_rk (HDT3.out.below hb4) dc
    have HSY := Lib.hid (HSV4.out.still HVO4.out HLEN.out (by have := hT1.out; omega))
    rw [← HDE.out] at hc1 hc2
    have hst4 := HSV4.out
    generalize txt data = S at *
    have m0 := cell_of hst4.vol 0
    have m1 := cell_of hst4.vol 1
    have m2 := cell_of hst4.vol 2
    have m3 := cell_of hst4.vol 3
    have m4 := cell_of hst4.vol 4
    have m5 := cell_of hst4.vol 5
    have m6 := cell_of hst4.vol 6
    have m7 := cell_of hst4.vol 7
    have m8 := cell_of hst4.vol 8
    clear hst4 hb4 hmul hk hi hss
    generalize (16 + 8 * (m : Int)) = p2 at *
    go_wp2_with (go_at_call 9; refine HSY.out.mono ?_; rintro e w5 ⟨rfl, hb5⟩; (have HB5 := Lib.hid hb5); clear hb5)
    go_ret
    exact ⟨rfl, bl_then HSV4.out.below HB5.out⟩
  have hws : (wds (pad data s)).length = s / 8 := by rw [wds_len, pad_length data s (by rw [← HDE.out]; omega)]; omega
  obtain ⟨d', hput, hpt⟩ := Wp.put_many (Pm.devOf L) rfl (ints (wds (pad data s))) k (by rw [ints_length, hws]; show k + s / 8 ≤ L.length; rw [HLEN.out]; exact HKT.out)
  rw [words_devOf, ints_length, hws] at hpt
  rw [ints_length] at hput
  have HPT := Lib.hid hpt
  have hsb := setblock_yes HVO3.out (show (0 : Nat) ≤ 1000000000 from Nat.zero_le _) i HRK3.out HDL.out c9 ⟨hi0, hin⟩ k hk (by have := HKT.out; have := hT1.out; omega) (by rw [← HDE.out]; omega) (by omega) _ hput
  rw [← HDE.out] at hsb
  refine hsb.mono ?_
  rintro e w4 ⟨rfl, hto⟩
  obtain ⟨g4, hv4, hf4, hu4⟩ := HVO3.out.to hto (by show d'.las.length = _; rw [hpt.las])
  rw [show ecode (d', some (wds (pad data s)).length) = 0 from rfl]
  have hsv4 := HSV3.out.to hu4 (fun k hk => ⟨(HFT.out k hk).1, Nat.ne_of_lt (HFT.out k hk).2⟩) HAP.out (by rw [HLEN.out]; have := hT1.out; omega)
  have hown4 : w4.ownsRow W2.heap.size 5 1 (.slice A9 dl c9) dl (ivs .u8 (ints data)) := own_kq HOW3.out fun k hk => by
    obtain ⟨cur, hc⟩ := own_blk HOW3.out hk
    have hlo := own_lo HOW3.out k hk
    exact hu4.block k (lt_of hc) (fun hm => by have := (HFT.out k hm).2; have := HSW.out; omega)
  have HZ4 : Hid (W2.heap.size ≤ w4.heap.size) := Nat.le_trans HZ3.out hu4.size
  have HSV4 := Lib.hid hsv4
  have HVO4 := Lib.hid hv4
  have HOW4 := Lib.hid hown4
  have hc1 := conv_own hown4
  have hc2 := conv_rk (HD.out.below hsv4.below) dc
  rw [← HDE.out] at hc2
  have HHK := Lib.hid hk
  have HWS := Lib.hid hws
  obtain ⟨S, hS⟩ : ∃ S, S = txt data := ⟨_, rfl⟩
  rw [← hS] at hc1 hc2
  have m0 := cell_of hsv4.vol 0
  have m2 := cell_of hsv4.vol 2
  have hsl : (dl : Int) ≤ s := by omega
  obtain ⟨j, hj⟩ : ∃ j, s = dl + j := ⟨s - dl, by omega⟩
  have HJ := Lib.hid hj
  have hsub : (s : Int) - (dl : Int) = (j : Int) := by omega
  obtain ⟨i0, hinf, hz0, hz1, hz2⟩ := info_parts (show (Try.prog.info? 5).map (fun i => (i.zero, i.size, i.bytes)) = some (some (.int .u8 0), 1, 1) by kernel_rfl)
  clear hput hpt hsb hto hf4 hu4 hv4 hsv4 hown4 hk hws hmul hi hj
  go_wp2_with (at_builtin; refine Az.wpList_append_zeros rfl (.tmp 68) (.tmp 73) 46 3 rfl W2.heap.size 5 i0 (.int .u8 0) 1 .i64 .i64 Try.underlying46 Try.underlying3 hinf hz0 hz1 hz2 rfl rfl (.slice A9 dl c9) dl (ivs .u8 (ints data)) rfl HOW4.out j rfl (by unfold maxLen; omega) (by omega) HZ4.out ?_; intro v7 w7 hown7 hgrow7; (have HO7 := Lib.hid hown7); (have HG7 := Lib.hid hgrow7); clear hown7 hgrow7)
  have hown9 : ∀ k, (Value.slice A9 dl c9).ownBlock = some k → W2.heap.size ≤ k := own_lo HOW4.out
  have HSV7 := Lib.hid (HSV4.out.grown HG7.out (fun k hk => by
    have h1 := hown9 k hk
    have h2 := HSW.out
    have h3 := HSV.out.lo
    exact ⟨by omega, by omega, fun a ha => by have := HAL.out a ha; omega⟩) (by rw [HLEN.out]; have := hT1.out; omega))
  have HVO7 := Lib.hid (HVO4.out.grown HG7.out (fun k hk => by
    have h1 := hown9 k hk
    have h2 := HSW.out
    have h3 := HVL.out
    obtain ⟨cur, hc⟩ := own_blk HOW4.out hk
    exact ⟨by omega, not_foot HVO4.out.dev hc (by decide) (by decide) (by decide)⟩))
  have HPD : Hid (ivs .u8 (ints data) ++ List.replicate j (Value.int .u8 0) = ivs .u8 (ints (pad data s))) := by
    show _ = _
    unfold pad
    rw [ints_append, ivs_append, show s - data.length = j from by rw [← HDE.out, HJ.out]; omega]
    simp [ivs, ints]
  have hO7 := HO7.out
  rw [HPD.out, ← HJ.out] at hO7
  obtain ⟨A7, c7, e7⟩ := own_slice hO7
  subst e7
  have HOW7 := Lib.hid hO7
  have HPL : Hid (∀ x ∈ pad data s, x < 256) := pad_lt HDL.out s
  have HPN : Hid ((pad data s).length = s) := pad_length data s (by rw [← HDE.out]; omega)
  have HK9 : Hid (k ≤ 1000000000) := by show _ ≤ _; have := HKT.out; have := hT1.out; omega
  have HLD : Hid (lds d' k (wds (pad data s)).length = ints (wds (pad data s))) := by
    have hh := HPT.out.words
    have := Vh.lds_wput hh (by rw [ints_length, HWS.out, HLEN.out]; exact HKT.out)
    rw [ints_length] at this
    exact this
  have HOC : Hid (octs (wds (pad data s)) = pad data s) := Vh.octs_wds _ HPL.out (by rw [HPN.out]; omega)
  have hbg := block_get HVO7.out i ⟨hi0, hin⟩ k HHK.out HK9.out (wds (pad data s)) HLD.out (Vh.wds_lt HPL.out) (by rw [HWS.out]; omega) (by rw [HWS.out]; omega)
  rw [HOC.out, HWS.out, show 8 * (s / 8) = s from by omega] at hbg
  have HBG := Lib.hid hbg
  have HRW : Hid (∀ w, Calls Try.prog 14 #[.string (txt (pad data s))] w fun e w' => ∃ v, e = .returned v ∧ w'.ownsRow w.heap.size 35 1 v (s / 8) (ivs .u64 (ints (wds (pad data s)))) ∧ Below w.heap.size w w') := fun w => by
    have := Rm.rwords_ HPL.out (by rw [HPN.out]; omega) w
    rw [HWS.out] at this
    exact this
  have HPT2 : Hid (Wp.Pt (Pm.devOf L) d' (wput L k (ints (wds (pad data s)))) (ints (wds (pad data s))).length (nline k (ints (wds (pad data s))).length)) := by
    show Wp.Pt _ _ _ _ _
    rw [ints_length, HWS.out]
    exact HPT.out
  clear hO7 hbg hown9 m0 m2 hc1 hc2
  refine HBG.out.mono ?_
  rintro e w8 ⟨v8, rfl, hown8, hb8⟩
  obtain ⟨A10, c10, e8⟩ := own_slice hown8
  subst e8
  have HSV8 := Lib.hid (HSV7.out.keep hb8)
  have HVO8 := Lib.hid (HVO7.out.below hb8)
  have hcg : ∀ W, Bl w8 W → (convert 46 9 (.slice A10 s c10)).run Try.prog W = .ok (.string (txt (pad data s))) W := fun W hb => conv_own (own_bl hown8 hb.below)
  have hca : ∀ W, Bl w8 W → (convert 46 9 (.slice A7 s c7)).run Try.prog W = .ok (.string (txt (pad data s))) W := fun W hb => conv_own (own_bl (own_bl HOW7.out hb8) hb.below)
  have HCG := Lib.hid (And.intro hcg hca)
  clear hcg hca hown8 hb8
  obtain ⟨y1, hy1⟩ : ∃ y1, y1 = i * (s : Int) := ⟨_, rfl⟩
  obtain ⟨y2, hy2⟩ : ∃ y2, y2 = i * ((s : Int) / 8) := ⟨_, rfl⟩
  have hys : y1 = 8 * y2 ∧ 0 ≤ y2 ∧ y2 ≤ 10000 := by
    rw [hy1, hy2]
    rcases hss with rfl | rfl
    · refine ⟨?_, ?_, ?_⟩ <;> omega
    · refine ⟨?_, ?_, ?_⟩ <;> omega
  have hk2 : p4 + y2 = (k : Int) := by rw [hy2, HP4.out]; exact HHK.out.symm
  have hm1 : IntKind.i64.wrap (i * (s : Int)) = y1 := by rw [← hy1]; exact IntWalk.i64_in _ (by omega)
  have hm2 : IntKind.i64.wrap (y1.tdiv 8) = y2 := by
    rw [Int.tdiv_eq_ediv_of_nonneg (by omega), show y1 / 8 = y2 from by omega]
    exact IntWalk.i64_in _ (by omega)
  have hm3 : IntKind.i64.wrap (p4 + y2) = (k : Int) := by rw [hk2]; exact IntWalk.i64_in _ (by have := HK9.out; omega)
  have HWR : Hid (∀ {W : World} {A : Option Addr} {c : Nat}, Below w8.heap.size w8 W → Rk .u64 W A (ints (wds (pad data s))) → Calls Try.prog 11 #[.pointer (some ⟨v, 0, none⟩), .agg #[.int .i64 n, .int .i64 m, .int .i64 s, .int .i64 16, .int .i64 (16 + 8 * (m : Int)), .int .i64 p3, .int .i64 p4, .int .i64 p5, .slice A8 T c8], .int .i64 k, .slice A (s / 8) c] W fun e w' => e = .returned (.bool true) ∧ Below W.heap.size W w') := fun {W A c} hb hr => by
    have := (HSV8.out.keep hb).wrote (HVO8.out.below hb) HLEN.out (by have := hT1.out; omega) k HPT2.out (by rw [ints_length, HWS.out]; exact HKT.out) hr (c2 := c)
    rw [ints_length, HWS.out] at this
    exact this
  obtain ⟨S8, hS8⟩ : ∃ S8, S8 = txt (pad data s) := ⟨_, rfl⟩
  rw [← hS8] at HCG HRW
  obtain ⟨hcg, hca⟩ := HCG.out
  clear hy1 hy2 hys hk2 hS8
  generalize hse : s / 8 = e8 at *
  clear hse
  have hst8 : w8.drew.cell? ⟨w2.heap.size, 0, none⟩ = some (.int .i64 n) ∧ w8.drew.cell? ⟨w2.heap.size, 1, none⟩ = some (.int .i64 m) ∧ w8.drew.cell? ⟨w2.heap.size, 2, none⟩ = some (.int .i64 s) ∧ w8.drew.cell? ⟨w2.heap.size, 3, none⟩ = some (.int .i64 16) ∧ w8.drew.cell? ⟨w2.heap.size, 4, none⟩ = some (.int .i64 (16 + 8 * (m : Int))) ∧ w8.drew.cell? ⟨w2.heap.size, 5, none⟩ = some (.int .i64 p3) ∧ w8.drew.cell? ⟨w2.heap.size, 6, none⟩ = some (.int .i64 p4) ∧ w8.drew.cell? ⟨w2.heap.size, 7, none⟩ = some (.int .i64 p5) ∧ w8.drew.cell? ⟨w2.heap.size, 8, none⟩ = some (.slice A8 T c8) ∧ Bl w8 w8.drew := add9 (nine (W := w8.drew) HSV8.out.vol) ⟨bl_drew (Below.refl _ _)⟩
  have HST8 := Lib.hid hst8
  clear hst8
  go_wp2_with fail
  go_region_held3 (fun w' => w'.cell? ⟨w2.heap.size, 0, none⟩ = some (.int .i64 n) ∧ w'.cell? ⟨w2.heap.size, 1, none⟩ = some (.int .i64 m) ∧ w'.cell? ⟨w2.heap.size, 2, none⟩ = some (.int .i64 s) ∧ w'.cell? ⟨w2.heap.size, 3, none⟩ = some (.int .i64 16) ∧ w'.cell? ⟨w2.heap.size, 4, none⟩ = some (.int .i64 (16 + 8 * (m : Int))) ∧ w'.cell? ⟨w2.heap.size, 5, none⟩ = some (.int .i64 p3) ∧ w'.cell? ⟨w2.heap.size, 6, none⟩ = some (.int .i64 p4) ∧ w'.cell? ⟨w2.heap.size, 7, none⟩ = some (.int .i64 p5) ∧ w'.cell? ⟨w2.heap.size, 8, none⟩ = some (.slice A8 T c8) ∧ Bl w8 w')
    (first | assumption | exact HST8.out | exact add9 (nine HX9.out) ⟨HB9.out⟩ | exact add9 (nine HX10.out) ⟨HB10.out⟩)
    (first | (go_at_call 14; refine (HRW.out _).mono ?_; rintro e w9 ⟨v9, rfl, hown9, hb9⟩; (obtain ⟨A11, c11, e9⟩ := own_slice hown9); subst e9; (have HB9 := Lib.hid (bl_then (w1 := w8.drew) (bl_drew (Below.refl _ _)) hb9)); (have HX9 := Lib.hid (HSV8.out.keep HB9.out).vol); (have HR9 := Lib.hid (own_rk (k := .u64) hown9).1); clear hown9 hb9) |
      (go_at_call 11; refine (HWR.out HB9.out HR9.out).mono ?_; rintro e w10 ⟨rfl, hb10⟩; (have HB10 := Lib.hid (bl_then HB9.out hb10)); (have HX10 := Lib.hid (HSV8.out.keep HB10.out).vol); clear hb10))
  all_goals
    go_wp2
    go_ret
    exact ⟨rfl, bl_then HSV8.out.below HB10.out⟩

end Go.Proofs.Ytichcdoijieddaa.Vd
end

/- Arguments opened: the laws' raw images, numbers, slots. -/
section
namespace Go.Proofs.Ytichcdoijieddaa.Ao
open Go Go.RowKit Go.ChangeShapes Go.WideShapes Go.ChangeAt Go.Joins Go.Deep
open Go.Proofs.Ytichcdoijieddaa.Ba
set_option linter.unusedVariables false
set_option maxHeartbeats 2000000
set_option maxRecDepth 100000

theorem own : ownKnob Try.prog.godebug = none := by kernel_rfl
theorem laidOut : laidOutB Try.prog = true := by kernel_rfl

theorem cell_plain {w : World} {a : Addr} {v : Value} (h : w.cell? a = some v) : a = ⟨a.block, a.off, none⟩ ∧ a.block < w.heap.size := by
  obtain ⟨b, o, s⟩ := a
  simp only [World.cell?] at h
  split at h
  · rename_i c e f hb
    refine ⟨?_, (Array.getElem?_eq_some_iff.1 hb).1⟩
    cases s with
    | none => rfl
    | some _ => simp at h
  · cases h

theorem int_wf {k : IntKind} {n : Int} (h : (Lit.int k n).wf = true) : k.min ≤ n ∧ n ≤ k.max := by
  simpa [Lit.wf] using h


theorem words_open {H : Type} {enc : TypeId × Value → H} {w : World} {fuel : Nat} {cs : List Value} {x : DataW H × List MemPlace} (h : DataW.trod enc Try.prog w 0 (fun _ => true) true fuel 22 cs = some x) :
    ∃ (A : Option Addr) (l : List Int) (c : Nat), cs = [.slice A l.length c] ∧ Rk .u64 w A l ∧ l.length ≤ 9223372036854775807 := by
  rcases open_ints Try.underlying22 Try.underlying35 (by kernel_rfl) h with ⟨hcs, _⟩ | ⟨a, l, c, zs, hcs, _, hl, hm, hz, _, hcell, hwz⟩
  · exact ⟨none, [], 0, hcs, Rk.nil _ _ _, by decide⟩
  · simp only [if_true] at hz
    have hlen : (zs.take l).length = l := by rw [List.length_take]; omega
    refine ⟨some a, zs.take l, c, by rw [hlen]; exact hcs, ?_, by rw [hlen]; unfold maxLen at hm; omega⟩
    intro i z hx
    obtain ⟨hi, hz2⟩ := List.getElem?_eq_some_iff.1 hx
    rw [List.getElem_take] at hz2
    simp only [List.length_take] at hi
    have hi2 : i < zs.length := by omega
    have hci := hcell i hi2
    obtain ⟨p1, p2⟩ := cell_plain hci
    refine ⟨a, rfl, by rw [add_block] at p2; exact p2, ?_⟩
    rw [hci, List.getD_eq_getElem?_getD, List.getElem?_eq_getElem hi2, hz2]
    rfl

theorem bytes_open {H : Type} {enc : TypeId × Value → H} {w : World} {fuel : Nat} {cs : List Value} {x : DataW H × List MemPlace} (h : DataW.trod enc Try.prog w 0 (fun _ => true) true fuel 46 cs = some x) :
    ∃ (A : Option Addr) (l : List Nat) (c : Nat), cs = [.slice A l.length c] ∧ Rk .u8 w A (l.map fun (x : Nat) => (x : Int)) ∧ (∀ x ∈ l, x < 256) ∧ l.length ≤ 9223372036854775807 := by
  rcases open_ints Try.underlying46 Try.underlying5 (by kernel_rfl) h with ⟨hcs, _⟩ | ⟨a, l, c, zs, hcs, _, hl, hm, hz, _, hcell, hwz⟩
  · exact ⟨none, [], 0, hcs, Rk.nil _ _ _, by simp, by decide⟩
  · simp only [if_true] at hz
    have hlen : (zs.take l).length = l := by rw [List.length_take]; omega
    have hwf : ∀ z ∈ zs, 0 ≤ z ∧ z ≤ 255 := fun z hz => by
      have h := int_wf (hwz z hz)
      simp [IntKind.min, IntKind.max, IntKind.bits, IntKind.signed] at h
      exact h
    refine ⟨some a, (zs.take l).map Int.toNat, c, by rw [List.length_map, hlen]; exact hcs, ?_, ?_, by rw [List.length_map, hlen]; unfold maxLen at hm; omega⟩
    · intro i z hx
      simp only [List.getElem?_map, Option.map_eq_some_iff, List.map_map, Function.comp] at hx
      obtain ⟨y, hy, rfl⟩ := hx
      obtain ⟨hi, hz2⟩ := List.getElem?_eq_some_iff.1 hy
      rw [List.getElem_take] at hz2
      simp only [List.length_take] at hi
      have hi2 : i < zs.length := by omega
      have hci := hcell i hi2
      obtain ⟨p1, p2⟩ := cell_plain hci
      refine ⟨a, rfl, by rw [add_block] at p2; exact p2, ?_⟩
      rw [hci, List.getD_eq_getElem?_getD, List.getElem?_eq_getElem hi2, hz2]
      have := hwf y (by rw [← hz2]; exact List.getElem_mem _)
      simp only [Option.getD_some]
      rw [Int.toNat_of_nonneg this.1]
    · intro x hx
      simp only [List.mem_map] at hx
      obtain ⟨z, hz, rfl⟩ := hx
      have := hwf z (List.mem_of_mem_take hz)
      omega

theorem u8_open {H : Type} {enc : TypeId × Value → H} {w : World} {fuel : Nat} {v : Value} {x : DataW H × List MemPlace} (h : DataW.trod enc Try.prog w 0 (fun _ => true) true fuel 5 [v] = some x) : ∃ n : Nat, v = .int .u8 n ∧ n < 256 := by
  obtain ⟨k, e0, _, w0⟩ := DataW.trod_int Try.underlying5 h
  simp only [List.cons.injEq, and_true] at e0
  have b0 := int_wf w0
  simp [IntKind.min, IntKind.max, IntKind.bits, IntKind.signed] at b0
  exact ⟨k.toNat, by rw [e0, Int.toNat_of_nonneg b0.1], by omega⟩
theorem int_open {H : Type} {enc : TypeId × Value → H} {w : World} {fuel : Nat} {v : Value} {x : DataW H × List MemPlace} (h : DataW.trod enc Try.prog w 0 (fun _ => true) true fuel 3 [v] = some x) : ∃ n : Int, v = .int .i64 n ∧ -9223372036854775808 ≤ n ∧ n ≤ 9223372036854775807 := by
  obtain ⟨k, e0, _, w0⟩ := DataW.trod_int Try.underlying3 h
  simp only [List.cons.injEq, and_true] at e0
  have b0 := int_wf w0
  simp [IntKind.min, IntKind.max, IntKind.bits, IntKind.signed] at b0
  exact ⟨k, e0, b0.1, b0.2⟩

theorem raw_open {H : Type} {enc : TypeId × Value → H} {w : World} {b0 : Nat} {v : Value} {d : DataW H} {p : List MemPlace} (hv : Value.okWide Try.prog w .any b0 24 v) (h : DataW.Trod enc Try.prog w 0 (fun _ => true) true 24 v d p) :
    ∃ (r0 r1 r2 : Nat) (A : Option Addr) (l : List Int) (c : Nat), v = .agg #[.int .u8 r0, .int .u8 r1, .int .u8 r2, .slice A l.length c] ∧ r0 < 256 ∧ r1 < 256 ∧ r2 < 256 ∧ Rk .u64 w A l ∧ l.length ≤ 9223372036854775807 := by
  obtain ⟨v0, v1, v2, v3, y0, y1, y2, y3, n, rfl, -, -, t0, t1, t2, t3⟩ := open_agg4 Try.underlying24 (by kernel_rfl) (by kernel_rfl) hv h
  obtain ⟨r0, rfl, h0⟩ := u8_open t0
  obtain ⟨r1, rfl, h1⟩ := u8_open t1
  obtain ⟨r2, rfl, h2⟩ := u8_open t2
  obtain ⟨A, l, c, e3, hr, hl⟩ := words_open t3
  simp only [List.cons.injEq, and_true] at e3
  subst e3
  exact ⟨r0, r1, r2, A, l, c, rfl, h0, h1, h2, hr, hl⟩

end Go.Proofs.Ytichcdoijieddaa.Ao
end
