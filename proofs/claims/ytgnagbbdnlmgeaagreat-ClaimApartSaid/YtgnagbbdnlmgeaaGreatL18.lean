/- Parts of the proof, one behind the other: Co, Ho, Ef, Ek, Eg, Ci, Cj, Ha, Hb. -/
import Derived.Test.YtgnagbbdnlmgeaaGreatL12
import Derived.Test.YtgnagbbdnlmgeaaGreatL17
import Derived.Test.YtgnagbbdnlmgeaaGreatL16
import Derived.Test.YtgnagbbdnlmgeaaGreatL13
import Derived.Carry
import Derived.Deep.RegionHeld3
import Derived.Deep.QuietTactic
import Derived.BigQuiet
set_option linter.unusedVariables false
set_option linter.unusedSimpArgs false
set_option linter.unusedSectionVars false
section
set_option maxHeartbeats 2000000
set_option maxRecDepth 100000
namespace Go.Proofs.YtgnagbbdnlmgeaaGreat.Ra
open Go Go.RowKit
open Ob Ba Ko Ge Oc Pk Su Rf Dv Vo
theorem open16_ (r0 r1 r2 : Nat) (h0 : r0 < 256) (h1 : r1 < 256) (h2 : r2 < 256) {A : Option Addr} {l : List Int} (c : Nat) {w : World} (h : Rk .u64 w A l) (hl9 : l.length ≤ 9223372036854775807) (n m s T : Nat) (hn : n = gB r0) (hm : m = gB r1) (hs : s = gS r2) (hT : (T : Int) = tot n m s) :
    Calls Tryz.prog 33 #[.agg #[.int .u8 r0, .int .u8 r1, .int .u8 r2, .slice A l.length c]] w fun e w' => ∃ v b g vw, e = .returned (.tuple #[.pointer (some ⟨v, 0, none⟩), .agg (vcells n m s vw)]) ∧ Opn w w' v b n m s T (dws (ints (enc n m s)) l T) g vw := by
  have hu := Tryz.underlying30
  have hok : geoOk n m s = true := by rw [hn, hm, hs]; exact g_ok r0 r1 r2
  have htt := g_tot r0 r1 r2
  rw [← hn, ← hm, ← hs, ← hT] at htt
  have hn9 : n < 65536 := by have := gB_in r0; omega
  have hm9 : m < 65536 := by have := gB_in r1; omega
  have hs9 : s < 65536 := by have := gS_or r2; omega
  have hlen : (dws (ints (enc n m s)) l T).length = T := dws_length _ _ _ rfl (by omega)
  have htk : (dws (ints (enc n m s)) l T).take 8 = ints (enc n m s) := dws_take8 _ _ _ rfl
  have HDV : Hid (∀ {W : World}, Rk .u64 W A l → _) := fun {W} hW => device_ r0 r1 r2 h0 h1 h2 c (w := W) hW hl9 n m s T hn hm hs hT
  have HOP : Hid (∀ {W : World} {b : Nat} {g : Lay}, DevIs W b (Pm.devOf (dws (ints (enc n m s)) l T)) g → _) := fun {W} {b} {g} hD => open_ok hD n m s hok hn9 hm9 hs9 (by show ((dws (ints (enc n m s)) l T).length : Int) = _; rw [hlen, hT]) (by show 8 ≤ (dws (ints (enc n m s)) l T).length; rw [hlen]; omega) (fun i x hx => by
    refine devOf_load ?_
    have hi := (List.getElem?_eq_some_iff.1 hx).1
    have h8 : i < 8 := hi
    have h9 : ((dws (ints (enc n m s)) l T).take 8)[i]? = some (x : Int) := by rw [htk]; exact ints_get hx
    rw [List.getElem?_take, if_pos h8] at h9
    exact h9)
  have HV : Hid (∀ v, vcells n m s v = #[.int .i64 n, .int .i64 m, .int .i64 s, .int .i64 16, .int .i64 (16 + 8 * m), .int .i64 (bmAt n m), .int .i64 (bkAt n m), .int .i64 (tot n m s), v]) := fun _ => rfl
  have H := Lib.hid h
  generalize dws (ints (enc n m s)) l T = L at *
  generalize vcells n m s = vc at *
  obtain ⟨len, hle⟩ : ∃ len, len = l.length := ⟨_, rfl⟩
  rw [← hle] at HDV
  rw [← hle]
  clear h hl9 hn hm hs hT hok htt h0 h1 h2 hlen htk hle hn9 hm9 hs9
  generalize (16 + 8 * m : Int) = p2 at *
  generalize bmAt n m = p3 at *
  generalize bkAt n m = p4 at *
  generalize tot n m s = p5 at *
  go_enter Tryz.func33, Tryz.ntmps33
  go_wp2_with fail
  refine (HDV.out (H.out.below (bl_alloc (bl_alloc (Below.refl _ _) (.cells #[.int .u8 r0, .int .u8 r1, .int .u8 r2, .slice A len c] 24)) (.cells #[.int .i64 0, .int .i64 0, .int .i64 0, .int .i64 0, .int .i64 0, .int .i64 0, .int .i64 0, .int .i64 0, .slice none 0 0] 30)))).mono ?_
  rintro e w1 ⟨b, g, vw, rfl, hd1, hf1, ho1, ha1, hb1⟩
  obtain ⟨A8, c8, e8⟩ := own_slice ho1
  subst e8
  rw [HV.out]
  have hqz := alloc_new (w.alloc (.cells #[.int .u8 r0, .int .u8 r1, .int .u8 r2, .slice A len c] 24)) (.cells #[.int .i64 0, .int .i64 0, .int .i64 0, .int .i64 0, .int .i64 0, .int .i64 0, .int .i64 0, .int .i64 0, .slice none 0 0] 30)
  rw [World.size_alloc] at hqz
  have HZ1 := Lib.hid (blk_bl hqz hb1)
  have hsz := hb1.size
  simp only [World.size_alloc] at hsz hf1 ho1
  have HS1 : Hid (w.heap.size + 2 ≤ w1.heap.size) := hsz
  have HB1 := Lib.hid (bl_then (bl_alloc (bl_alloc (Below.refl _ _) _) _) hb1)
  have hbv : Below w1.heap.size w1 (w1.alloc (.cells #[.int .i64 n, .int .i64 m, .int .i64 s, .int .i64 16, .int .i64 p2, .int .i64 p3, .int .i64 p4, .int .i64 p5, .slice A8 T c8] 30)) := bl_alloc (Below.refl _ _) _
  have HOPN := Lib.hid (HOP.out (hd1.below hbv))
  have HALL := Lib.hid (And.intro hf1 (And.intro ho1 ha1))
  clear hqz hb1 hsz hf1 ho1 ha1 hbv hd1
  go_wp2_with (go_at_call 74; refine HOPN.out.mono ?_; rintro e w2 ⟨v, rfl, hv, hvol, hb2⟩; (have HVB := Lib.hid (blk_bl (alloc_new w1 (.cells #[.int .i64 n, .int .i64 m, .int .i64 s, .int .i64 16, .int .i64 p2, .int .i64 p3, .int .i64 p4, .int .i64 p5, .slice A8 T c8] 30)) hb2)); (have hb3 := bl_then (bl_alloc (Below.refl _ _) _) hb2); (have HZ2 := Lib.hid (blk_bl HZ1.out hb3)); (have HV2 := Lib.hid (And.intro hv hvol)); (have HB3 := Lib.hid hb3); clear hv hvol hb2 hb3)
  have hxv := HVB.out
  have hxz := HZ2.out
  have m0 := cell_of hxv 0
  have m1 := cell_of hxv 1
  have m2 := cell_of hxv 2
  have m3 := cell_of hxv 3
  have m4 := cell_of hxv 4
  have m5 := cell_of hxv 5
  have m6 := cell_of hxv 6
  have m7 := cell_of hxv 7
  have m8 := cell_of hxv 8
  have z0 := cell_of hxz 0
  have z1 := cell_of hxz 1
  have z2 := cell_of hxz 2
  have z3 := cell_of hxz 3
  have z4 := cell_of hxz 4
  have z5 := cell_of hxz 5
  have z6 := cell_of hxz 6
  have z7 := cell_of hxz 7
  have z8 := cell_of hxz 8
  have f0 := free_of hxz 0
  have f1 := free_of hxz 1
  have f2 := free_of hxz 2
  have f3 := free_of hxz 3
  have f4 := free_of hxz 4
  have f5 := free_of hxz 5
  have f6 := free_of hxz 6
  have f7 := free_of hxz 7
  have f8 := free_of hxz 8
  have hz2 : Hid (w.heap.size + 2 ≤ w2.heap.size) := Nat.le_trans HS1.out HB3.out.size
  clear hxv hxz
  go_region
  go_wp2
  have hp9 := put9 HZ2.out (.int .i64 n) (.int .i64 m) (.int .i64 s) (.int .i64 16) (.int .i64 p2) (.int .i64 p3) (.int .i64 p4) (.int .i64 p5) (.slice A8 T c8)
  have hb0 := bl_then HB1.out HB3.out
  have hb9 := bl_put9 hb0 (Nat.le_succ _) (.int .i64 n) (.int .i64 m) (.int .i64 s) (.int .i64 16) (.int .i64 p2) (.int .i64 p3) (.int .i64 p4) (.int .i64 p5) (.slice A8 T c8)
  have hsa := HS1.out
  have ho2 := own_bl HALL.out.2.1 HB3.out
  have ho9 := own_low9 ho2 (q := w.heap.size + 1) (by omega) (.int .i64 n) (.int .i64 m) (.int .i64 s) (.int .i64 16) (.int .i64 p2) (.int .i64 p3) (.int .i64 p4) (.int .i64 p5) (.slice A8 T c8)
  have hvlo : w1.heap.size + 1 ≤ v := by have := HV2.out.1; simpa using this
  refine bodyPost_ret (res_tc (u := 2) rfl _ _ (w.heap.size + 1) 30 _ (0, 0) _ rfl ((drew_heap _ _).trans hp9) hu rfl ?_) rfl ⟨v, b, g, .slice A8 T c8, by rw [HV.out]; rfl, ⟨?_, ?_, own_base (own_kp ho9 (fun _ _ _ => drew_heap _ _)) (by omega), HALL.out.2.2, by omega, bl_drew hb9⟩⟩
  · kernel_rfl
  · exact VolIs.keep HV2.out.2 ((drew_heap _ _).trans (put9_other (by omega))) (fun k hk => (drew_heap _ _).trans (put9_other (by have := HALL.out.1 k hk; omega)))
  · intro k hk
    have := HALL.out.1 k hk
    omega
theorem open17_ (r0 r1 r2 : Nat) (h0 : r0 < 256) (h1 : r1 < 256) (h2 : r2 < 256) {A : Option Addr} {l : List Int} (c : Nat) {w : World} (h : Rk .u64 w A l) (hl9 : l.length ≤ 9223372036854775807) (n m s T : Nat) (hn : n = gB r0) (hm : m = gB r1) (hs : s = gS r2) (hT : (T : Int) = tot n m s) :
    Calls Tryz.prog 49 #[.agg #[.int .u8 r0, .int .u8 r1, .int .u8 r2, .slice A l.length c]] w fun e w' => ∃ v b g vw, e = .returned (.tuple #[.pointer (some ⟨v, 0, none⟩), .agg (vcells n m s vw)]) ∧ Opn w w' v b n m s T (dws (ints (enc n m s)) l T) g vw := by
  have hu := Tryz.underlying30
  have hok : geoOk n m s = true := by rw [hn, hm, hs]; exact g_ok r0 r1 r2
  have htt := g_tot r0 r1 r2
  rw [← hn, ← hm, ← hs, ← hT] at htt
  have hn9 : n < 65536 := by have := gB_in r0; omega
  have hm9 : m < 65536 := by have := gB_in r1; omega
  have hs9 : s < 65536 := by have := gS_or r2; omega
  have hlen : (dws (ints (enc n m s)) l T).length = T := dws_length _ _ _ rfl (by omega)
  have htk : (dws (ints (enc n m s)) l T).take 8 = ints (enc n m s) := dws_take8 _ _ _ rfl
  have HDV : Hid (∀ {W : World}, Rk .u64 W A l → _) := fun {W} hW => device_ r0 r1 r2 h0 h1 h2 c (w := W) hW hl9 n m s T hn hm hs hT
  have HOP : Hid (∀ {W : World} {b : Nat} {g : Lay}, DevIs W b (Pm.devOf (dws (ints (enc n m s)) l T)) g → _) := fun {W} {b} {g} hD => open_ok hD n m s hok hn9 hm9 hs9 (by show ((dws (ints (enc n m s)) l T).length : Int) = _; rw [hlen, hT]) (by show 8 ≤ (dws (ints (enc n m s)) l T).length; rw [hlen]; omega) (fun i x hx => by
    refine devOf_load ?_
    have hi := (List.getElem?_eq_some_iff.1 hx).1
    have h8 : i < 8 := hi
    have h9 : ((dws (ints (enc n m s)) l T).take 8)[i]? = some (x : Int) := by rw [htk]; exact ints_get hx
    rw [List.getElem?_take, if_pos h8] at h9
    exact h9)
  have HV : Hid (∀ v, vcells n m s v = #[.int .i64 n, .int .i64 m, .int .i64 s, .int .i64 16, .int .i64 (16 + 8 * m), .int .i64 (bmAt n m), .int .i64 (bkAt n m), .int .i64 (tot n m s), v]) := fun _ => rfl
  have H := Lib.hid h
  generalize dws (ints (enc n m s)) l T = L at *
  generalize vcells n m s = vc at *
  obtain ⟨len, hle⟩ : ∃ len, len = l.length := ⟨_, rfl⟩
  rw [← hle] at HDV
  rw [← hle]
  clear h hl9 hn hm hs hT hok htt h0 h1 h2 hlen htk hle hn9 hm9 hs9
  generalize (16 + 8 * m : Int) = p2 at *
  generalize bmAt n m = p3 at *
  generalize bkAt n m = p4 at *
  generalize tot n m s = p5 at *
  go_enter Tryz.func49, Tryz.ntmps49
  go_wp2_with fail
  refine (HDV.out (H.out.below (bl_alloc (bl_alloc (Below.refl _ _) (.cells #[.int .u8 r0, .int .u8 r1, .int .u8 r2, .slice A len c] 24)) (.cells #[.int .i64 0, .int .i64 0, .int .i64 0, .int .i64 0, .int .i64 0, .int .i64 0, .int .i64 0, .int .i64 0, .slice none 0 0] 30)))).mono ?_
  rintro e w1 ⟨b, g, vw, rfl, hd1, hf1, ho1, ha1, hb1⟩
  obtain ⟨A8, c8, e8⟩ := own_slice ho1
  subst e8
  rw [HV.out]
  have hqz := alloc_new (w.alloc (.cells #[.int .u8 r0, .int .u8 r1, .int .u8 r2, .slice A len c] 24)) (.cells #[.int .i64 0, .int .i64 0, .int .i64 0, .int .i64 0, .int .i64 0, .int .i64 0, .int .i64 0, .int .i64 0, .slice none 0 0] 30)
  rw [World.size_alloc] at hqz
  have HZ1 := Lib.hid (blk_bl hqz hb1)
  have hsz := hb1.size
  simp only [World.size_alloc] at hsz hf1 ho1
  have HS1 : Hid (w.heap.size + 2 ≤ w1.heap.size) := hsz
  have HB1 := Lib.hid (bl_then (bl_alloc (bl_alloc (Below.refl _ _) _) _) hb1)
  have hbv : Below w1.heap.size w1 (w1.alloc (.cells #[.int .i64 n, .int .i64 m, .int .i64 s, .int .i64 16, .int .i64 p2, .int .i64 p3, .int .i64 p4, .int .i64 p5, .slice A8 T c8] 30)) := bl_alloc (Below.refl _ _) _
  have HOPN := Lib.hid (HOP.out (hd1.below hbv))
  have HALL := Lib.hid (And.intro hf1 (And.intro ho1 ha1))
  clear hqz hb1 hsz hf1 ho1 ha1 hbv hd1
  go_wp2_with (go_at_call 74; refine HOPN.out.mono ?_; rintro e w2 ⟨v, rfl, hv, hvol, hb2⟩; (have HVB := Lib.hid (blk_bl (alloc_new w1 (.cells #[.int .i64 n, .int .i64 m, .int .i64 s, .int .i64 16, .int .i64 p2, .int .i64 p3, .int .i64 p4, .int .i64 p5, .slice A8 T c8] 30)) hb2)); (have hb3 := bl_then (bl_alloc (Below.refl _ _) _) hb2); (have HZ2 := Lib.hid (blk_bl HZ1.out hb3)); (have HV2 := Lib.hid (And.intro hv hvol)); (have HB3 := Lib.hid hb3); clear hv hvol hb2 hb3)
  have hxv := HVB.out
  have hxz := HZ2.out
  have m0 := cell_of hxv 0
  have m1 := cell_of hxv 1
  have m2 := cell_of hxv 2
  have m3 := cell_of hxv 3
  have m4 := cell_of hxv 4
  have m5 := cell_of hxv 5
  have m6 := cell_of hxv 6
  have m7 := cell_of hxv 7
  have m8 := cell_of hxv 8
  have z0 := cell_of hxz 0
  have z1 := cell_of hxz 1
  have z2 := cell_of hxz 2
  have z3 := cell_of hxz 3
  have z4 := cell_of hxz 4
  have z5 := cell_of hxz 5
  have z6 := cell_of hxz 6
  have z7 := cell_of hxz 7
  have z8 := cell_of hxz 8
  have f0 := free_of hxz 0
  have f1 := free_of hxz 1
  have f2 := free_of hxz 2
  have f3 := free_of hxz 3
  have f4 := free_of hxz 4
  have f5 := free_of hxz 5
  have f6 := free_of hxz 6
  have f7 := free_of hxz 7
  have f8 := free_of hxz 8
  have hz2 : Hid (w.heap.size + 2 ≤ w2.heap.size) := Nat.le_trans HS1.out HB3.out.size
  clear hxv hxz
  go_region
  go_wp2
  have hp9 := put9 HZ2.out (.int .i64 n) (.int .i64 m) (.int .i64 s) (.int .i64 16) (.int .i64 p2) (.int .i64 p3) (.int .i64 p4) (.int .i64 p5) (.slice A8 T c8)
  have hb0 := bl_then HB1.out HB3.out
  have hb9 := bl_put9 hb0 (Nat.le_succ _) (.int .i64 n) (.int .i64 m) (.int .i64 s) (.int .i64 16) (.int .i64 p2) (.int .i64 p3) (.int .i64 p4) (.int .i64 p5) (.slice A8 T c8)
  have hsa := HS1.out
  have ho2 := own_bl HALL.out.2.1 HB3.out
  have ho9 := own_low9 ho2 (q := w.heap.size + 1) (by omega) (.int .i64 n) (.int .i64 m) (.int .i64 s) (.int .i64 16) (.int .i64 p2) (.int .i64 p3) (.int .i64 p4) (.int .i64 p5) (.slice A8 T c8)
  have hvlo : w1.heap.size + 1 ≤ v := by have := HV2.out.1; simpa using this
  refine bodyPost_ret (res_tc (u := 2) rfl _ _ (w.heap.size + 1) 30 _ (0, 0) _ rfl ((drew_heap _ _).trans hp9) hu rfl ?_) rfl ⟨v, b, g, .slice A8 T c8, by rw [HV.out]; rfl, ⟨?_, ?_, own_base (own_kp ho9 (fun _ _ _ => drew_heap _ _)) (by omega), HALL.out.2.2, by omega, bl_drew hb9⟩⟩
  · kernel_rfl
  · exact VolIs.keep HV2.out.2 ((drew_heap _ _).trans (put9_other (by omega))) (fun k hk => (drew_heap _ _).trans (put9_other (by have := HALL.out.1 k hk; omega)))
  · intro k hk
    have := HALL.out.1 k hk
    omega
end Go.Proofs.YtgnagbbdnlmgeaaGreat.Ra
end
section
namespace Go.Proofs.YtgnagbbdnlmgeaaGreat.Ho
open Go Go.RowKit
open Ob Ba Ko Ge Oc Pk Su Rf Dv Vo Ra Jh
structure Im (r0 r1 r2 : Nat) (l : List Nat) (n m s T p3 p4 p5 : Nat) (ws : List Nat) : Prop where
  n_is : n = gB r0
  m_is : m = gB r1
  s_is : s = gS r2
  n1 : 1 ≤ n
  n2 : n ≤ 20
  m1 : 1 ≤ m
  m2 : m ≤ 20
  s2 : s = 64 ∨ s = 128
  T1 : 40 ≤ T
  T2 : T ≤ 1000
  p3_is : (p3 : Int) = bmAt n m
  p4_is : (p4 : Int) = bkAt n m
  p5_is : (p5 : Int) = tot n m s
  T_is : (T : Int) = tot n m s
  len : ws.length = T
  lt : ∀ x ∈ ws, x < 18446744073709551616
  words : dws (ints (enc n m s)) (ints l) T = ints ws
  fit : 16 + 8 * m + n ≤ T
  fit3 : p3 + 1 ≤ T
  fit4 : ∀ i : Nat, i < n → p4 + i * (s / 8) + s / 8 ≤ T
theorem im_ (r0 r1 r2 : Nat) (l : List Nat) (hlw : ∀ x ∈ l, x < 18446744073709551616) : ∃ n m s T p3 p4 p5 ws, Im r0 r1 r2 l n m s T p3 p4 p5 ws := by
  obtain ⟨n, hn⟩ : ∃ n, n = gB r0 := ⟨_, rfl⟩
  obtain ⟨m, hm⟩ : ∃ m, m = gB r1 := ⟨_, rfl⟩
  obtain ⟨s, hs⟩ : ∃ s, s = gS r2 := ⟨_, rfl⟩
  have htt := g_tot r0 r1 r2
  rw [← hn, ← hm, ← hs] at htt
  obtain ⟨T, hT⟩ : ∃ T : Nat, (T : Int) = tot n m s := ⟨(tot n m s).toNat, by omega⟩
  have hT1 : 40 ≤ T ∧ T ≤ 1000 := by omega
  have hnn : 1 ≤ n ∧ n ≤ 20 := by have := gB_in r0; omega
  have hmm : 1 ≤ m ∧ m ≤ 20 := by have := gB_in r1; omega
  have hss : s = 64 ∨ s = 128 := by have := gS_or r2; omega
  obtain ⟨p3, hp3⟩ : ∃ p3 : Nat, (p3 : Int) = bmAt n m := ⟨(bmAt n m).toNat, by unfold bmAt up8; omega⟩
  obtain ⟨p4, hp4⟩ : ∃ p4 : Nat, (p4 : Int) = bkAt n m := ⟨(bkAt n m).toNat, by unfold bkAt up8; omega⟩
  have hfit : 16 + 8 * (m : Int) + n ≤ T ∧ p3 + 1 ≤ T ∧ ∀ i : Nat, i < n → p4 + i * (s / 8) + s / 8 ≤ T := by
    have e1 : up8 (((n : Int) + 63) / 64) = 8 := by rw [show ((n : Int) + 63) / 64 = 1 from by omega]; decide
    have e2 : tot n m s = bkAt n m + n * ((s : Int) / 8) := rfl
    have e3 : bkAt n m = bmAt n m + up8 (((n : Int) + 63) / 64) := rfl
    have e4 : bmAt n m = 16 + 8 * m + up8 n := rfl
    have e5 : (n : Int) ≤ up8 n := by unfold up8; omega
    have e6 : 0 ≤ (n : Int) * ((s : Int) / 8) := Int.mul_nonneg (by omega) (by omega)
    refine ⟨by omega, by omega, fun i hi => ?_⟩
    rcases hss with rfl | rfl
    · omega
    · omega
  obtain ⟨ws, hws, hwlt⟩ := dws_nat (enc n m s) l T (Su.enc_lt (by omega) (by omega) (by omega)) hlw
  have hLEN : ws.length = T := by
    have := dws_length (ints (enc n m s)) (ints l) T rfl (by omega)
    rw [hws, ints_length] at this
    exact this
  exact ⟨n, m, s, T, p3, p4, T, ws, hn, hm, hs, hnn.1, hnn.2, hmm.1, hmm.2, hss, hT1.1, hT1.2, hp3, hp4, hT, hT, hLEN, hwlt, hws, by omega, hfit.2.1, hfit.2.2⟩
def volA (n m s p3 p4 p5 T : Nat) (a8 : Addr) (c8 : Nat) : Value := .agg #[.int .i64 n, .int .i64 m, .int .i64 s, .int .i64 16, .int .i64 (16 + 8 * (m : Int)), .int .i64 p3, .int .i64 p4, .int .i64 p5, .slice (some a8) T c8]
structure OpN (w W : World) (v b n m s T : Nat) (ws : List Nat) (g : Lay) (a8 : Addr) (c8 : Nat) : Prop where
  vol : VolIs W v b n m s (Pm.devOf (ints ws)) g
  foot : ∀ k ∈ g.foot b, w.heap.size ≤ k
  row : Rk .u64 W (some a8) (ints ws)
  cap : T ≤ c8
  lo : w.heap.size ≤ a8.block
  apart : a8.block ∉ g.foot b
  vlo : w.heap.size ≤ v
  below : Below w.heap.size w W
theorem opn_n {r0 r1 r2 : Nat} {l : List Nat} {n m s T p3 p4 p5 : Nat} {ws : List Nat} (hi : Im r0 r1 r2 l n m s T p3 p4 p5 ws) {w W : World} {v b : Nat} {g : Lay} {vw : Value} {e : Ending}
    (he : e = .returned (.tuple #[.pointer (some ⟨v, 0, none⟩), .agg (vcells n m s vw)])) (h : Opn w W v b n m s T (dws (ints (enc n m s)) (ints l) T) g vw) :
    ∃ v b g a8 c8, e = .returned (.tuple #[.pointer (some ⟨v, 0, none⟩), volA n m s p3 p4 p5 T a8 c8]) ∧ OpN w W v b n m s T ws g a8 c8 := by
  rw [hi.words] at h
  obtain ⟨A8, c8, e8⟩ := own_slice h.row
  subst e8
  obtain ⟨hr1, hr2, hr3⟩ := own_rk (k := .u64) h.row
  obtain ⟨u, hu9⟩ := some_at (l := ints ws) (i := 0) (by rw [ints_length, hi.len]; have := hi.T1; omega)
  obtain ⟨a8, rfl, -, -⟩ := hr1 0 u hu9
  refine ⟨v, b, g, a8, c8, ?_, h.vol, h.foot, hr1, hr3, own_lo h.row _ rfl, h.apart _ rfl, h.vlo, h.below⟩
  rw [he]
  have e1 : vcells n m s (.slice (some a8) T c8) = #[.int .i64 n, .int .i64 m, .int .i64 s, .int .i64 16, .int .i64 (16 + 8 * (m : Int)), .int .i64 (bmAt n m), .int .i64 (bkAt n m), .int .i64 (tot n m s), .slice (some a8) T c8] := rfl
  rw [e1, ← hi.p3_is, ← hi.p4_is, ← hi.p5_is]
  rfl
theorem open16N {r0 r1 r2 : Nat} (h0 : r0 < 256) (h1 : r1 < 256) (h2 : r2 < 256) {l : List Nat} {n m s T p3 p4 p5 : Nat} {ws : List Nat} (hi : Im r0 r1 r2 l n m s T p3 p4 p5 ws) {A : Option Addr} (c : Nat) (hl9 : l.length ≤ 9223372036854775807) {w : World} (h : Rk .u64 w A (ints l)) :
    Calls Tryz.prog 33 #[.agg #[.int .u8 r0, .int .u8 r1, .int .u8 r2, .slice A l.length c]] w fun e w' => ∃ v b g a8 c8, e = .returned (.tuple #[.pointer (some ⟨v, 0, none⟩), volA n m s p3 p4 p5 T a8 c8]) ∧ OpN w w' v b n m s T ws g a8 c8 := by
  have := open16_ r0 r1 r2 h0 h1 h2 c h (by rw [ints_length]; exact hl9) n m s T hi.n_is hi.m_is hi.s_is hi.T_is
  rw [ints_length] at this
  refine this.mono ?_
  rintro e w' ⟨v, b, g, vw, he, ho⟩
  exact opn_n hi he ho
theorem open17N {r0 r1 r2 : Nat} (h0 : r0 < 256) (h1 : r1 < 256) (h2 : r2 < 256) {l : List Nat} {n m s T p3 p4 p5 : Nat} {ws : List Nat} (hi : Im r0 r1 r2 l n m s T p3 p4 p5 ws) {A : Option Addr} (c : Nat) (hl9 : l.length ≤ 9223372036854775807) {w : World} (h : Rk .u64 w A (ints l)) :
    Calls Tryz.prog 49 #[.agg #[.int .u8 r0, .int .u8 r1, .int .u8 r2, .slice A l.length c]] w fun e w' => ∃ v b g a8 c8, e = .returned (.tuple #[.pointer (some ⟨v, 0, none⟩), volA n m s p3 p4 p5 T a8 c8]) ∧ OpN w w' v b n m s T ws g a8 c8 := by
  have := open17_ r0 r1 r2 h0 h1 h2 c h (by rw [ints_length]; exact hl9) n m s T hi.n_is hi.m_is hi.s_is hi.T_is
  rw [ints_length] at this
  refine this.mono ?_
  rintro e w' ⟨v, b, g, vw, he, ho⟩
  exact opn_n hi he ho
end Go.Proofs.YtgnagbbdnlmgeaaGreat.Ho
end
section
set_option maxHeartbeats 4000000
set_option maxRecDepth 100000
namespace Go.Proofs.YtgnagbbdnlmgeaaGreat.Cm
open Go Go.RowKit
open Rr Ob Ba Ko Ge Oc Pk Su Rf Dv Vo Ra Jh Tr Iq Bm In Je Lo Ho
def ixD : List Dat → Nat → Int
  | [], _ => -1
  | d :: r, i => if d.1.1 = 0 then (i : Int) else ixD r (i + 1)
theorem indexO_ {w : World} {A : Option Addr} {l : List Own} (h : OR w A l) (c : Nat) (hl : l.length ≤ 1000000000) :
    Calls Tryz.prog 154 #[.slice A l.length c, .func (.func 155) #[] #[]] w fun e w' => e = .returned (.int .i64 (ixD (l.map Own.dat) 0)) ∧ Below w.heap.size w w' := by
  have hu := Tryz.underlying185
  have H := Lib.hid h
  obtain ⟨m, hm⟩ : ∃ m, m = l.length := ⟨_, rfl⟩
  rw [← hm] at hl
  rw [← hm]
  have HN := Lib.hid hm
  obtain ⟨R, hR⟩ : ∃ R, R = ixD (l.map Own.dat) 0 := ⟨_, rfl⟩
  rw [← hR]
  have HR0 : Hid (R = ixD ((l.drop 0).map Own.dat) 0) := hR
  clear h hm hR
  go_enter Tryz.func154, Tryz.ntmps154
  go_wp2_with fail
  go_loopw [8] (fun c8 wr => ∃ i : Nat, i ≤ m ∧ c8 = .int .i64 i ∧ Hid (R = ixD ((l.drop i).map Own.dat) i ∧ Below w.heap.size w wr)) (fun c8 _ => m - (intOf c8).toNat)
  case atStart => exact ⟨0, Nat.zero_le _, rfl, HR0.out, Below.refl _ _⟩
  case round =>
    obtain ⟨i, hi, rfl, HR⟩ := hrel
    by_cases hlt : i < m
    · obtain ⟨p, hp⟩ := some_at (l := l) (i := i) (by rw [← HN.out]; exact hlt)
      obtain ⟨g, off, rfl, -, g1, g2, g3, g4, g5⟩ := (H.out.below HR.out.2) i p hp
      have hdr : l.drop i = p :: l.drop (i + 1) := by
        obtain ⟨h1, h2⟩ := List.getElem?_eq_some_iff.1 hp
        rw [List.drop_eq_getElem_cons h1, h2]
      have HD : Hid (R = if p.k = 0 then (i : Int) else ixD ((l.drop (i + 1)).map Own.dat) (i + 1)) := by
        show _ = _
        rw [HR.out.1, hdr]
        rfl
      have HC := Lib.hid (next1_ p.k p.h p.z (.slice p.sa p.L.length p.sc) (.slice p.pa p.L.length p.pc) wr)
      obtain ⟨k, h, z, sa, sc, pa, pc, L⟩ := p
      simp only at g1 g2 g3 g4 g5 HC HD
      clear hp hdr
      generalize L.length = ll at *
      by_cases hk : k = 0
      · subst hk
        rw [if_pos rfl] at HD
        go_wp2_with fail
        refine HC.out.mono ?_
        rintro e w2 ⟨rfl, hb2⟩
        have HB2 := Lib.hid (bl_then HR.out.2 hb2)
        clear hb2
        go_wp2_with fail
        go_ret
        exact ⟨by rw [HD.out]; rfl, HB2.out⟩
      · have hk0 : (k == 0) = false := beq_eq_false_iff_ne.2 hk
        rw [hk0] at HC
        rw [if_neg hk] at HD
        clear hk
        go_wp2_with fail
        refine HC.out.mono ?_
        rintro e w2 ⟨rfl, hb2⟩
        have HB2 := Lib.hid (bl_then HR.out.2 hb2)
        clear hb2
        go_wp2_with fail
        go_roundw
        case rel => exact ⟨i + 1, by omega, by go_num, HD.out, HB2.out⟩
        case measure => simp [intOf]; omega
    · obtain rfl : i = m := by omega
      have HD : Hid (R = -1) := by
        show _ = _
        rw [HR.out.1, List.drop_of_length_le (by rw [← HN.out]; exact Nat.le_refl _)]
        rfl
      go_wp2_with fail
      go_ret
      exact ⟨by rw [HD.out]; rfl, HR.out.2⟩
theorem nexti_ {W : World} {B q b1 b2 n : Nat} {l1 l2 : List Nat} {g1 g2 c1 c2 : Nat} {es : List Own} {LA : Option Addr} {lc : Nat} (h : Cl W B q b1 b2 n l1 l2 g1 g2 c1 c2 es LA lc) (hl : es.length ≤ 1000000000) :
    Calls Tryz.prog 107 #[.pointer (some ⟨q, 0, none⟩)] W fun e w' => e = .returned (.int .i64 (ixD (es.map Own.dat) 0)) ∧ Below W.heap.size W w' := by
  have hu := Tryz.underlying179
  have HC := Lib.hid (indexO_ (own_or h.row) lc hl)
  have k1 := cell_of h.blk 0
  clear h hl
  go_enter Tryz.func107, Tryz.ntmps107
  go_wp2_with fail
  refine HC.out.mono ?_
  rintro e w1 ⟨rfl, hb⟩
  have HM := Lib.hid hb
  clear hb
  go_wp2_with fail
  go_ret
  exact ⟨rfl, HM.out⟩
theorem zero_ (W : World) : Calls Tryz.prog 50 #[] W fun e w' => e = .returned (.agg #[.int .u8 4, .int .u8 2, .int .u8 0, .slice none 0 0]) ∧ Below W.heap.size W w' := by
  have hu := Tryz.underlying24
  go_enter Tryz.func50, Tryz.ntmps50
  go_wp2_with fail
  exact bodyPost_ret (res_c rfl _ _ W.heap.size 24 #[.int .u8 4, .int .u8 2, .int .u8 0, .slice none 0 0] (0, 0) _ rfl (alloc_new W _) hu rfl (by kernel_rfl)) rfl ⟨rfl, bl_alloc (Below.refl _ _) _⟩
end Go.Proofs.YtgnagbbdnlmgeaaGreat.Cm
end
section
set_option maxHeartbeats 4000000
set_option maxRecDepth 100000
namespace Go.Proofs.YtgnagbbdnlmgeaaGreat.Cm
open Go Go.RowKit
open Rr Ob Ba Ko Ge Oc Pk Su Rf Dv Vo Ra Jh Tr Iq Bm In Je Lo Ho
def usedD : List Dat → Nat → List Int
  | [], _ => []
  | d :: r, i => if d.1.1 = 0 then usedD r (i + 1) else (i : Int) :: usedD r (i + 1)
theorem usedD_snoc : ∀ (l : List Dat) (d : Dat) (i : Nat), usedD (l ++ [d]) i = usedD l i ++ (if d.1.1 = 0 then [] else [((i + l.length : Nat) : Int)])
  | [], d, i => by
    show (if d.1.1 = 0 then usedD [] (i + 1) else (i : Int) :: usedD [] (i + 1)) = _
    simp [usedD]
  | x :: r, d, i => by
    have h := usedD_snoc r d (i + 1)
    show (if x.1.1 = 0 then usedD (r ++ [d]) (i + 1) else (i : Int) :: usedD (r ++ [d]) (i + 1)) = (if x.1.1 = 0 then usedD r (i + 1) else (i : Int) :: usedD r (i + 1)) ++ _
    rw [h, show i + 1 + r.length = i + (x :: r).length by simp; omega]
    split <;> rfl
theorem usedD_len : ∀ (l : List Dat) (i : Nat), (usedD l i).length ≤ l.length
  | [], i => Nat.le_refl _
  | x :: r, i => by
    have h := usedD_len r (i + 1)
    show (if x.1.1 = 0 then usedD r (i + 1) else (i : Int) :: usedD r (i + 1)).length ≤ _
    split
    · simp; omega
    · simp; omega
theorem used_ {W : World} {B q b1 b2 n : Nat} {l1 l2 : List Nat} {g1 g2 c1 c2 : Nat} {es : List Own} {LA : Option Addr} {lc : Nat} (h : Cl W B q b1 b2 n l1 l2 g1 g2 c1 c2 es LA lc) (hl : es.length ≤ 65534) :
    Calls Tryz.prog 57 #[.pointer (some ⟨q, 0, none⟩)] W fun e w' => ∃ v, e = .returned v ∧ w'.ownsRow W.heap.size 3 1 v (usedD (es.map Own.dat) 0).length (ivs .i64 (usedD (es.map Own.dat) 0)) ∧ Below W.heap.size W w' := by
  have hu := Tryz.underlying179
  have hu2 := Tryz.underlying185
  have hu3 := Tryz.underlying42
  obtain ⟨z0, hinf, hz0, hz1, hz2⟩ := info_parts info_int
  have H := Lib.hid (own_or h.row)
  have k1 := cell_of h.blk 0
  obtain ⟨m, hm⟩ : ∃ m, m = es.length := ⟨_, rfl⟩
  rw [← hm] at hl k1
  have HN := Lib.hid hm
  clear h hm
  go_enter Tryz.func57, Tryz.ntmps57
  go_wp2_with fail
  clear k1
  go_loopw [11, 3] (fun c11 c3 wr => ∃ i d : Nat, i ≤ m ∧ d ≤ i ∧ c11 = .int .i64 i ∧ Hid (d = (usedD ((es.take i).map Own.dat) 0).length ∧ wr.ownsRow W.heap.size 3 1 c3 d (ivs .i64 (usedD ((es.take i).map Own.dat) 0)) ∧ Below W.heap.size W wr)) (fun c11 _ _ => m - (intOf c11).toNat)
  case atStart => exact ⟨0, 0, Nat.zero_le _, Nat.le_refl _, rfl, by simp [usedD], own_nil0 _ _ _ _, Below.refl _ _⟩
  case round =>
    obtain ⟨i, d, hi, hd, rfl, HR⟩ := hrel
    by_cases hlt : i < m
    · obtain ⟨p, hp⟩ := some_at (l := es) (i := i) (by rw [← HN.out]; exact hlt)
      obtain ⟨g, off, rfl, -, a1, a2, a3, a4, a5⟩ := (H.out.below HR.out.2.2) i p hp
      have HS : Hid (usedD ((es.take (i + 1)).map Own.dat) 0 = usedD ((es.take i).map Own.dat) 0 ++ (if p.k = 0 then [] else [(i : Int)])) := by
        show _ = _
        rw [take_next hp, List.map_append, List.map_cons, List.map_nil, usedD_snoc, List.length_map, List.length_take, Nat.min_eq_left (by rw [← HN.out]; omega), Nat.zero_add]
        rfl
      obtain ⟨k, h, z, sa, sc, pa, pc, L⟩ := p
      simp only at a1 a2 a3 a4 a5 HS
      generalize L.length = ll at *
      clear hp
      have HBW : Hid (∀ o, Below W.heap.size W (wr.alloc o)) := fun o => bl_alloc HR.out.2.2 _
      have HOW : Hid (∀ o, (wr.alloc o).ownsRow W.heap.size 3 1 u3 d (ivs .i64 (usedD ((es.take i).map Own.dat) 0))) := fun o => own_kp HR.out.2.1 (fun k _ hk => Below.heap_alloc _ _ k hk)
      by_cases hk : k = 0
      · subst hk
        rw [if_pos rfl, List.append_nil] at HS
        go_wp2_with fail
        go_roundw
        case rel => exact ⟨i + 1, d, by omega, by omega, by go_num, by rw [HS.out]; exact HR.out.1, by rw [HS.out]; exact HOW.out _, HBW.out _⟩
        case measure => simp [intOf]; omega
      · have hk0 : (k != 0) = true := bne_iff_ne.2 hk
        rw [if_neg hk] at HS
        have HOX : Hid (∀ o o', ((wr.alloc o).alloc o').ownsRow W.heap.size 3 1 u3 d (ivs .i64 (usedD ((es.take i).map Own.dat) 0))) := fun o o' => own_kp (HOW.out o) (fun k _ hk => Below.heap_alloc _ _ k hk)
        have HPN : Hid (∀ o, ∀ j u, [Value.int .i64 (i : Int)][j]? = some u → ((wr.alloc o).alloc (.cells #[.int .i64 (i : Int)] 3)).cell? ((⟨wr.heap.size + 1, 0, none⟩ : Addr).add j) = some u) := fun o => by
          have h9 := one_at (wr.alloc o) (.int .i64 (i : Int)) 3
          rw [World.size_alloc] at h9
          exact h9
        have HLO := Lib.hid (own_lo HR.out.2.1)
        have hsz : Hid (W.heap.size ≤ wr.heap.size + 2) := by show _ ≤ _; have := HR.out.2.2.size; omega
        clear hk
        go_wp2_with (at_builtin; refine wpList_append_own _ rfl (.tmp 20) (.tmp 22) 79 rfl W.heap.size 3 z0 (.int .i64 0) 1 8 Tryz.underlying79 hinf hz0 hz1 hz2 rfl (by decide) _ d _ rfl (HOX.out _ _) ⟨wr.heap.size + 1, 0, none⟩ 1 1 [.int .i64 (i : Int)] rfl rfl (HPN.out _) (by intro u hu; simp at hu; subst hu; rfl) (by unfold maxLen; omega) (by omega) (by have h1 := hsz.out; simp; omega) ?_; intro v' w7 hown' hgrow _; (have HO := Lib.hid hown'); (have HG := Lib.hid hgrow); clear hown' hgrow)
        go_roundw
        case rel =>
          refine ⟨i + 1, d + 1, by omega, by omega, by go_num, ?_, ?_, bl_grown (bl_alloc (HBW.out _) _) HG.out HLO.out⟩
          · rw [HS.out, List.length_append, ← HR.out.1]; rfl
          · rw [HS.out, ivs_append]; exact HO.out
        case measure => simp [intOf]; omega
    · obtain rfl : i = m := by omega
      go_wp2_with fail
      go_ret
      have h9 := HR.out
      rw [List.take_of_length_le (by rw [← HN.out]; exact Nat.le_refl _)] at h9
      rw [← h9.1]
      exact ⟨_, rfl, h9.2.1, h9.2.2⟩
end Go.Proofs.YtgnagbbdnlmgeaaGreat.Cm
end
section
set_option maxRecDepth 100000
namespace Go.Proofs.YtgnagbbdnlmgeaaGreat.Cm
open Go Go.RowKit
open Rr Ob Ba Ko Ge Oc Pk Su Rf Dv Vo Ra Jh Tr Iq Bm In Je Lo Ho
theorem zero_at {r0 r1 r2 n m s T p3 p4 p5 : Nat} {ws : List Nat} (hi : Im r0 r1 r2 [] n m s T p3 p4 p5 ws) {i : Nat} (h8 : 8 ≤ i) (hT : i < T) : ws[i]? = some 0 := by
  have h1 := dws_at (ints (enc n m s)) (ints []) T i rfl h8 hT
  rw [hi.words] at h1
  have h2 : rwd (ints []) i = 0 := by simp [rwd, ints]
  rw [h2] at h1
  obtain ⟨hl, he⟩ := List.getElem?_eq_some_iff.1 h1
  have hl2 : i < ws.length := by rw [ints_length] at hl; exact hl
  obtain ⟨x, hx⟩ := some_at (l := ws) (i := i) hl2
  have h3 := ints_get hx
  rw [h1] at h3
  have : (0 : Int) = (x : Int) := Option.some.inj h3
  rw [hx]
  congr 1
  omega
structure Zs (ws : List Nat) (f0 f1 : Int × Int × Int) (u0 u1 : Option Tri) : Prop where
  len : ws.length = 96
  lt : ∀ x ∈ ws, x < 18446744073709551616
  i0 : inF ws 3 0 = some f0
  i1 : inF ws 3 1 = some f1
  i2 : inF ws 3 2 = some (0, -1, 0)
  s0 : slF ws 5 3 0 = u0
  s1 : slF ws 5 3 1 = u1
theorem inF_at {ws : List Nat} {i : Nat} (hi : i < 3) {l : List Nat} (h : inL ws i = l) (hok : ok6 l = true) : inF ws 3 i = some (n6 l) := by
  unfold inF
  rw [if_pos (by omega), show ((i : Nat) : Int).toNat = i from by omega, h, if_pos hok]
theorem inL_ext {ws l : List Nat} {i : Nat} (hl : l.length = 8) (h : ∀ j, j < 8 → ws[16 + 8 * i + j]? = l[j]?) : inL ws i = l := by
  unfold inL
  apply List.ext_getElem?
  intro j
  rw [List.getElem?_take]
  by_cases hj : j < 8
  · rw [if_pos hj, List.getElem?_drop]
    exact h j hj
  · rw [if_neg hj, List.getElem?_eq_none (by omega)]
end Go.Proofs.YtgnagbbdnlmgeaaGreat.Cm
end
section
set_option maxHeartbeats 2000000
set_option maxRecDepth 100000
namespace Go.Proofs.YtgnagbbdnlmgeaaGreat.Tr
open Go Go.RowKit
open Ob Ba Oc Pk Rr
def badR (n : Nat) (p : Int × Int) : Bool := decide (p.1 < 0 ∨ (n : Int) ≤ p.1 ∨ p.2 < 1 ∨ (n : Int) - p.1 < p.2)
theorem right1_ {w : World} {q n : Nat} (hq : w.cell? ⟨q, 0, none⟩ = some (.int .i64 n)) (hlt : q < w.heap.size) (hn : n ≤ 65534) (x y : Int) :
    Calls Tryz.prog 149 #[.agg #[.int .i64 x, .int .i64 y], .pointer (some ⟨q, 0, none⟩)] w fun e w' => e = .returned (.bool (badR n (x, y))) ∧ Below w.heap.size w w' := by
  have hu := Tryz.underlying93
  by_cases h0 : x < 0
  · have hb : badR n (x, y) = true := decide_eq_true (.inl h0)
    rw [hb]
    clear hb
    go_enter Tryz.func149, Tryz.ntmps149
    go_wp2_with fail
    go_ret
    exact ⟨rfl, bl_alloc (Below.refl _ _) _⟩
  · by_cases h1 : (n : Int) ≤ x
    · have hb : badR n (x, y) = true := decide_eq_true (.inr (.inl h1))
      rw [hb]
      clear hb
      go_enter Tryz.func149, Tryz.ntmps149
      go_wp2_with fail
      go_ret
      exact ⟨rfl, bl_alloc (Below.refl _ _) _⟩
    · by_cases h2 : y < 1
      · have hb : badR n (x, y) = true := decide_eq_true (.inr (.inr (.inl h2)))
        rw [hb]
        clear hb
        go_enter Tryz.func149, Tryz.ntmps149
        go_wp2_with fail
        go_ret
        exact ⟨rfl, bl_alloc (Below.refl _ _) _⟩
      · by_cases h3 : (n : Int) - x < y
        · have hb : badR n (x, y) = true := decide_eq_true (.inr (.inr (.inr h3)))
          rw [hb]
          clear hb
          go_enter Tryz.func149, Tryz.ntmps149
          go_wp2_with fail
          go_ret
          exact ⟨rfl, bl_alloc (Below.refl _ _) _⟩
        · have hb : badR n (x, y) = false := decide_eq_false (by rintro (h | h | h | h) <;> omega)
          rw [hb]
          have h3' : y ≤ (n : Int) - x := by omega
          clear hb
          go_enter Tryz.func149, Tryz.ntmps149
          go_wp2_with fail
          go_ret
          exact ⟨rfl, bl_alloc (Below.refl _ _) _⟩
theorem index_ {w : World} {A : Option Addr} {l : List (Int × Int)} (h : RR w A l) (c : Nat) (hl : l.length ≤ 1000000000) {q n : Nat} (hq : w.cell? ⟨q, 0, none⟩ = some (.int .i64 n)) (hlt : q < w.heap.size) (hn : n ≤ 65534) :
    Calls Tryz.prog 181 #[.slice A l.length c, .func (.func 149) #[] #[.pointer (some ⟨q, 0, none⟩)]] w fun e w' => ∃ r : Int, e = .returned (.int .i64 r) ∧ (decide (0 ≤ r) = l.any (badR n)) ∧ Below w.heap.size w w' := by
  have hu := Tryz.underlying93
  have H := Lib.hid h
  obtain ⟨m, hm⟩ : ∃ m, m = l.length := ⟨_, rfl⟩
  rw [← hm] at hl
  rw [← hm]
  have HN := Lib.hid hm
  have HQ : Hid (∀ {W : World} (x y : Int), Below w.heap.size w W → _) := fun {W} x y hb => right1_ (w := W) (q := q) (n := n) ((hb.cell (p := ⟨q, 0, none⟩) hlt).trans hq) (Nat.lt_of_lt_of_le hlt hb.size) hn x y
  clear h hm hq hlt
  go_enter Tryz.func181, Tryz.ntmps181
  go_wp2_with fail
  go_loopw [8] (fun c8 wr => ∃ i : Nat, i ≤ m ∧ c8 = .int .i64 i ∧ Hid ((l.take i).any (badR n) = false ∧ Below w.heap.size w wr)) (fun c8 _ => m - (intOf c8).toNat)
  case atStart => exact ⟨0, Nat.zero_le _, rfl, by simp, Below.refl _ _⟩
  case round =>
    obtain ⟨i, hi, rfl, HR⟩ := hrel
    by_cases hlt : i < m
    · obtain ⟨p, hp⟩ := some_at (l := l) (i := i) (by rw [← HN.out]; exact hlt)
      obtain ⟨g, off, rfl, -, g1, g2⟩ := (H.out.below HR.out.2) i p hp
      have HP := Lib.hid hp
      have HT : Hid ((l.take (i + 1)).any (badR n) = badR n p) := by
        show _ = _
        rw [take_next hp, List.any_append, HR.out.1]
        simp
      have HC := Lib.hid (HQ.out (W := wr) p.1 p.2 HR.out.2)
      obtain ⟨x, y⟩ := p
      simp only at g1 g2 HC
      cases hb : badR n (x, y) with
      | true =>
        rw [hb] at HC
        have HA : Hid (l.any (badR n) = true) := List.any_eq_true.2 ⟨_, List.mem_of_getElem? HP.out, hb⟩
        clear hp hb
        go_wp2_with fail
        refine HC.out.mono ?_
        rintro e w2 ⟨rfl, hb2⟩
        have HB2 := Lib.hid (bl_then HR.out.2 hb2)
        clear hb2
        go_wp2_with fail
        go_ret
        exact ⟨_, rfl, by rw [HA.out]; exact decide_eq_true (by omega), HB2.out⟩
      | false =>
        rw [hb] at HC HT
        clear hp hb
        go_wp2_with fail
        refine HC.out.mono ?_
        rintro e w2 ⟨rfl, hb2⟩
        have HB2 := Lib.hid (bl_then HR.out.2 hb2)
        clear hb2
        go_wp2_with fail
        go_roundw
        case rel => exact ⟨i + 1, by omega, by go_num, HT.out, HB2.out⟩
        case measure => simp [intOf]; omega
    · obtain rfl : i = m := by omega
      have HA := Lib.hid HR.out.1
      rw [List.take_of_length_le (by rw [← HN.out]; exact Nat.le_refl _)] at HA
      go_wp2_with fail
      go_ret
      exact ⟨_, rfl, by rw [HA.out]; rfl, HR.out.2⟩
theorem contains_ {w : World} {A : Option Addr} {l : List (Int × Int)} (h : RR w A l) (c : Nat) (hl : l.length ≤ 1000000000) {q n : Nat} (hq : w.cell? ⟨q, 0, none⟩ = some (.int .i64 n)) (hlt : q < w.heap.size) (hn : n ≤ 65534) :
    Calls Tryz.prog 148 #[.slice A l.length c, .func (.func 149) #[] #[.pointer (some ⟨q, 0, none⟩)]] w fun e w' => e = .returned (.bool (l.any (badR n))) ∧ Below w.heap.size w w' := by
  have HI := Lib.hid (index_ h c hl hq hlt hn)
  clear h hq hlt
  go_enter Tryz.func148, Tryz.ntmps148
  go_wp2_with fail
  refine HI.out.mono ?_
  rintro e w2 ⟨r, rfl, hr, hb⟩
  have HR := Lib.hid hr
  have HB := Lib.hid hb
  clear hr hb
  go_wp2_with fail
  go_ret
  exact ⟨by rw [← HR.out]; rfl, HB.out⟩
end Go.Proofs.YtgnagbbdnlmgeaaGreat.Tr
end
section
set_option maxHeartbeats 2000000
set_option maxRecDepth 100000
namespace Go.Proofs.YtgnagbbdnlmgeaaGreat.Tr
open Go Go.RowKit
open Ob Ba Oc Pk Rr Dv Vo Mp
def rightB (n : Nat) (l : List Int) (rs : List (Int × Int)) : Bool := decide ((∀ x ∈ l, 0 ≤ x ∧ x < n) ∧ l.Nodup ∧ l.length = rs.length ∧ rs.any (badR n) = false)
theorem zero_bool (w : World) : (zeroValue 4).run Tryz.prog w = .ok (.bool false) w := rfl
theorem field0' (x y z : Value) (w : World) : (Instr.field 34 (.agg #[x, y, z]) 0).run Tryz.prog w = .ok x w := rfl
structure Seen (w wr : World) (q M n : Nat) (l : List Int) : Prop where
  bl : Below w.heap.size w wr
  cell : wr.heap[q]? = some (.cells #[.int .i64 n] 3 (0, 0))
  map : ∃ es clock, wr.heap[M]? = some (obj (kInt .i64) es clock) ∧ es.map Prod.fst = l ∧ ∀ x ∈ es, x.2.1 = .bool true
  range : ∀ x ∈ l, 0 ≤ x ∧ x < n
  nodup : l.Nodup
theorem Seen.no {w wr : World} {q M n : Nat} {l : List Int} (h : Seen w wr q M n l) {x : Int} (hx : x ∉ l) : (Instr.lookup 211 (.map (some M)) (.int .i64 x) false).run Tryz.prog wr = .ok (.bool false) wr := by
  obtain ⟨es, clock, hb, he, -⟩ := h.map
  exact run_lookup_none (K := kInt .i64) (k := x) Tryz.underlying211 Tryz.underlying3 hb (fun y hy e => hx (by rw [← he, ← e]; exact List.mem_map_of_mem hy)) (zero_bool wr)
theorem Seen.yes {w wr : World} {q M n : Nat} {l : List Int} (h : Seen w wr q M n l) {x : Int} (hx : x ∈ l) : (Instr.lookup 211 (.map (some M)) (.int .i64 x) false).run Tryz.prog wr = .ok (.bool true) wr := by
  obtain ⟨es, clock, hb, he, ht⟩ := h.map
  rw [← he] at hx
  obtain ⟨y, hy, rfl⟩ := List.mem_map.1 hx
  have hnd := h.nodup
  rw [← he] at hnd
  obtain ⟨pre, post, rfl⟩ := List.append_of_mem hy
  have hty := ht y hy
  obtain ⟨k, v, b⟩ := y
  simp only at hty
  subst hty
  refine run_lookup_some (K := kInt .i64) (k := k) (pre := pre) (post := post) (b := b) Tryz.underlying211 Tryz.underlying3 hb (fun z hz e => ?_)
  rw [List.map_append, List.map_cons] at hnd
  exact (List.nodup_append.1 hnd).2.2 z.1 (List.mem_map_of_mem hz) k (by simp) e
theorem right_ {w : World} {v b n m s : Nat} {d : Dev} {g : Lay} (hv : VolIs w v b n m s d g) (hn : n ≤ 65534) {A : Option Addr} {l : List Int} (hA : Rk .i64 w A l) (cA : Nat) (hl : l.length ≤ 1000000000) {B : Option Addr} {rs : List (Int × Int)} (hB : RR w B rs) (cB : Nat) (hr : rs.length ≤ 1000000000) :
    Calls Tryz.prog 102 #[.pointer (some ⟨v, 0, none⟩), .slice A l.length cA, .slice B rs.length cB] w fun e w' => e = .returned (.bool (rightB n l rs)) ∧ Below w.heap.size w w' := by
  have hu := Tryz.underlying34
  have hmm := @run_makeMap Tryz.prog
  have hmf : ∀ (fn : Fn) (first cap : Array Value) (w : World), (Instr.makeFunc fn first cap).run Tryz.prog w = .ok (.func fn first cap) w := fun _ _ _ _ => rfl
  have HG := Lib.hid (Jh.geom_ hv)
  have HA := Lib.hid hA
  have HCT : Hid (∀ {W : World} {q : Nat}, Below w.heap.size w W → W.cell? ⟨q, 0, none⟩ = some (.int .i64 n) → q < W.heap.size → _) := fun {W} {q} hb hq hlt => contains_ (w := W) (hB.below hb) cB hr (q := q) (n := n) hq hlt hn
  have HNO : Hid (¬ ((∀ x ∈ l, 0 ≤ x ∧ x < n) ∧ l.Nodup) → rightB n l rs = false) := fun h => decide_eq_false (fun h2 => h ⟨h2.1, h2.2.1⟩)
  have HLE : Hid (l.length ≠ rs.length → rightB n l rs = false) := fun h => decide_eq_false (fun h2 => h h2.2.2.1)
  have HOK : Hid ((∀ x ∈ l, 0 ≤ x ∧ x < n) → l.Nodup → l.length = rs.length → rightB n l rs = !(rs.any (badR n))) := fun h1 h2 h3 => by
    unfold rightB
    cases hq : rs.any (badR n) with
    | true => exact decide_eq_false (fun h => by cases h.2.2.2)
    | false => exact decide_eq_true ⟨h1, h2, h3, rfl⟩
  generalize rightB n l rs = R at *
  generalize rs.any (badR n) = bad at *
  obtain ⟨ln, hln⟩ : ∃ ln, ln = l.length := ⟨_, rfl⟩
  obtain ⟨rn, hrn⟩ : ∃ rn, rn = rs.length := ⟨_, rfl⟩
  rw [← hln] at hl HLE HOK
  rw [← hrn] at hr HLE HOK HCT
  rw [← hln, ← hrn]
  have HLN := Lib.hid hln
  clear hv hA hB hln hrn
  go_enter Tryz.func102, Tryz.ntmps102
  go_wp2_with fail
  refine HG.out.mono ?_
  rintro e w1 ⟨rfl, hb1⟩
  have HB1 := Lib.hid hb1
  have hfld := field0' (.int .i64 n) (.int .i64 m) (.int .i64 s) w1
  have hs2 : ((w1.alloc (.cells #[.int .i64 n] 3)).alloc (.map #[] 0)).heap[w1.heap.size + 1]? = some (.map #[] 0) := Je.two_new _ _ _
  have HSN : Hid (Seen w ((w1.alloc (.cells #[.int .i64 n] 3)).alloc (.map #[] 0)) w1.heap.size (w1.heap.size + 1) n []) := ⟨bl_alloc (bl_alloc hb1 _) _, alloc_old (alloc_new _ _) _, ⟨[], 0, hs2, rfl, by simp⟩, by simp, by simp⟩
  clear hb1 hs2
  go_wp2_with fail
  clear hfld
  go_loopw [17] (fun c17 wr => ∃ i : Nat, i ≤ ln ∧ c17 = .int .i64 i ∧ Hid (Seen w wr w1.heap.size (w1.heap.size + 1) n (l.take i))) (fun c17 _ => ln - (intOf c17).toNat)
  case atStart => exact ⟨0, Nat.zero_le _, rfl, HSN.out⟩
  case round =>
    obtain ⟨i, hi, rfl, HR⟩ := hrel
    have hc := HR.out.cell
    have q0 := cell_of hc 0
    have qlt := lt_of hc
    clear hc
    by_cases hlt : i < ln
    · obtain ⟨x, hx⟩ := some_at (l := l) (i := i) (by rw [← HLN.out]; exact hlt)
      obtain ⟨a, rfl, -, ha⟩ := (HA.out.below HR.out.bl) i x hx
      have HX := Lib.hid hx
      have hmem := List.mem_of_getElem? hx
      clear hx
      by_cases h0 : x < 0
      · have HF : Hid (R = false) := HNO.out (fun h => by have := h.1 x hmem; omega)
        clear hmem
        go_wp2_with fail
        go_ret
        exact ⟨by rw [HF.out]; rfl, HR.out.bl⟩
      · by_cases h1 : (n : Int) ≤ x
        · have HF : Hid (R = false) := HNO.out (fun h => by have := h.1 x hmem; omega)
          clear hmem
          go_wp2_with fail
          go_ret
          exact ⟨by rw [HF.out]; rfl, HR.out.bl⟩
        · by_cases hin : x ∈ l.take i
          · have HF : Hid (R = false) := HNO.out (fun h => by
              have h9 := h.2
              rw [← List.take_append_drop i l] at h9
              exact (List.nodup_append.1 h9).2.2 x hin x (by rw [List.mem_iff_getElem?]; exact ⟨0, by rw [List.getElem?_drop]; exact HX.out⟩) rfl)
            have hlk := HR.out.yes hin
            clear hmem hin
            go_wp2_with fail
            go_ret
            exact ⟨by rw [HF.out]; rfl, HR.out.bl⟩
          · have hlk := HR.out.no hin
            have HIN := Lib.hid hin
            obtain ⟨es, clock, hmp, hes, htr⟩ := HR.out.map
            have HMP := Lib.hid (And.intro hmp (And.intro hes htr))
            have h0' : 0 ≤ x := by omega
            have h1' : x < (n : Int) := by omega
            clear hmem hin hmp hes htr
            go_wp2_with (at_mapUpdate; refine Wl.wpl_put_new (kInt .i64) es rfl _ _ _ _ rfl Tryz.underlying211 Tryz.underlying3 rfl x rfl _ rfl HMP.out.1 (fun y hy e => HIN.out (by rw [← HMP.out.2.1, ← e]; exact List.mem_map_of_mem hy)) ?_; intro W2 hW2; (have HW2 := Lib.hid hW2); clear hW2)
            go_roundw
            case rel =>
              refine ⟨i + 1, by omega, by go_num, ?_⟩
              rw [take_next HX.out]
              have hup := HW2.out.upd [w1.heap.size + 1] (by simp)
              have hbel : Below w.heap.size w W2 := HR.out.bl.trans (hup.belowB HR.out.bl.size (fun k hk => by
                have e : k = w1.heap.size + 1 := by simpa using hk
                have := HB1.out.size
                omega))
              refine ⟨hbel, hup.blk HR.out.cell (by simp), ⟨_, _, HW2.out.here, by rw [List.map_append, HMP.out.2.1]; rfl, fun y hy => ?_⟩, fun y hy => ?_, List.nodup_append.2 ⟨HR.out.nodup, by simp, fun y hy z hz e => HIN.out (by simp at hz; rw [← hz, ← e]; exact hy)⟩⟩
              · rcases List.mem_append.1 hy with h | h
                · exact HMP.out.2.2 y h
                · simp at h; rw [h]; rfl
              · rcases List.mem_append.1 hy with h | h
                · exact HR.out.range y h
                · simp at h; rw [h]; exact ⟨h0', h1'⟩
            case measure => simp [intOf]; omega
    · obtain rfl : i = ln := by omega
      have hse := HR.out
      rw [List.take_of_length_le (by rw [← HLN.out]; exact Nat.le_refl _)] at hse
      by_cases hlr : i = rn
      · subst hlr
        have HF : Hid (R = !bad) := HOK.out hse.range hse.nodup rfl
        have HC := Lib.hid (HCT.out hse.bl q0 qlt)
        clear hse
        go_wp2_with (go_at_call 148; refine HC.out.mono ?_; rintro e w5 ⟨rfl, hb5⟩; (have HB5 := Lib.hid (bl_then HR.out.bl hb5)); clear hb5)
        go_ret
        exact ⟨by rw [HF.out]; rfl, HB5.out⟩
      · have e1 : ((i : Int) == (rn : Int)) = false := by rw [beq_eq_false_iff_ne]; omega
        have HF : Hid (R = false) := HLE.out hlr
        clear hse hlr
        go_wp2_with fail
        go_ret
        exact ⟨by rw [HF.out]; rfl, HR.out.bl⟩
end Go.Proofs.YtgnagbbdnlmgeaaGreat.Tr
end
section
set_option maxHeartbeats 4000000
set_option maxRecDepth 100000
namespace Go.Proofs.YtgnagbbdnlmgeaaGreat.Tr
open Go Go.RowKit
open Rr Ob Ba Oc Pk Ko Dv Vo Ra Su Lo Je Rf
theorem rr_keep {w w' : World} {A : Option Addr} {l : List (Int × Int)} (h : RR w A l) (hk : ∀ a, A = some a → w'.heap[a.block]? = w.heap[a.block]?) (hs : w.heap.size ≤ w'.heap.size) : RR w' A l := by
  intro i p hi
  obtain ⟨q, off, rfl, h0, h1, h2⟩ := h i p hi
  have hb := hk ⟨q, off, none⟩ rfl
  exact ⟨q, off, rfl, Nat.lt_of_lt_of_le h0 hs, (cell_blk hb _).trans h1, (cell_blk hb _).trans h2⟩
theorem rightB_out {n : Nat} {l : List Int} {rs : List (Int × Int)} (h : rightB n l rs = true) : l.length = rs.length ∧ GoodS n (l.zip rs) ∧ ((l.zip rs).map Prod.fst).Nodup ∧ l.length ≤ n := by
  obtain ⟨h1, h2, h3, h4⟩ := of_decide_eq_true h
  refine ⟨h3, fun x hx => ?_, ?_, pigeon n l h2 h1⟩
  · have hx1 := (List.of_mem_zip hx).1
    have hx2 := (List.of_mem_zip hx).2
    have h5 := h1 x.1 hx1
    have h6 : badR n x.2 = false := by
      have := List.any_eq_false.1 h4 x.2 hx2
      simpa using this
    unfold badR at h6
    simp at h6
    omega
  · rw [List.map_fst_zip (by omega)]
    exact h2
structure Wr (w wr : World) (v b n m s : Nat) (d : Dev) (g : Lay) (ws : List Nat) (z : List (Int × (Int × Int))) (c7 : Value) (d' : Dev) (g' : Lay) : Prop where
  next : c7 = .int .i64 (nxS z)
  vol : VolIs wr v b n m s d' g'
  words : Pm.wordsOf d' = ints (wrW m ws z)
  fuse : d'.fuse = none
  stores : d'.stores = d.stores + z.length
  steps : d'.steps = d.steps + 2 * z.length
  foot : ∀ q ∈ g'.foot b, q ∈ g.foot b ∨ w.heap.size ≤ q
  upd : Upd (g.foot b) w wr
theorem write_yes {w : World} {v b n m s : Nat} {d : Dev} {g : Lay} (hv : VolIs w v b n m s d g) (hn : n ≤ 65534) {ws : List Nat} (hwd : Pm.wordsOf d = ints ws) (hfit : 16 + 8 * m + n ≤ ws.length) (hf : d.fuse = none) (hst : d.steps ≤ 900000000)
    {A : Option Addr} {l : List Int} (hA : Rk .i64 w A l) (cA : Nat) {B : Option Addr} {rs : List (Int × Int)} (hB : RR w B rs) (cB : Nat) (hr : rightB n l rs = true) (hpA : ∀ a, A = some a → a.block ∉ g.foot b) (hpB : ∀ a, B = some a → a.block ∉ g.foot b) :
    Calls Tryz.prog 36 #[.pointer (some ⟨v, 0, none⟩), .slice A l.length cA, .slice B rs.length cB] w fun e w' => e = .returned (.int .i64 0) ∧ ∃ d' g', Wr w w' v b n m s d g ws (l.zip rs) (.int .i64 (nxS (l.zip rs))) d' g' := by
  obtain ⟨hlen, hgood, hnd, hle⟩ := rightB_out hr
  have hri := right_ hv hn hA cA (by omega) hB cB (by omega)
  rw [hr] at hri
  have HRI := Lib.hid hri
  have HV := Lib.hid hv
  have HA := Lib.hid hA
  have HB := Lib.hid hB
  have HP := Lib.hid (And.intro hpA hpB)
  have HF := Lib.hid (And.intro hwd (And.intro hfit (And.intro hf hst)))
  obtain ⟨z, hz⟩ : ∃ z, z = l.zip rs := ⟨_, rfl⟩
  rw [← hz] at hgood hnd
  rw [← hz]
  have hzl : z.length = l.length := by rw [hz, List.length_zip]; omega
  have hza : z.map Prod.fst = l := by rw [hz, List.map_fst_zip (by omega)]
  have hzb : z.map Prod.snd = rs := by rw [hz, List.map_snd_zip (by omega)]
  have HZ := Lib.hid (And.intro hgood (And.intro hnd (And.intro hza hzb)))
  have HZL := Lib.hid hzl
  obtain ⟨ln, hln⟩ : ∃ ln, ln = l.length := ⟨_, rfl⟩
  rw [← hlen] at HRI
  rw [← hlen]
  rw [← hln] at HZL hle HRI
  rw [← hln]
  clear hlen hgood hnd hri hr hv hA hB hpA hpB hwd hfit hf hst hz hza hzb hzl hln
  go_enter Tryz.func36, Tryz.ntmps36
  go_wp2_with fail
  refine HRI.out.mono ?_
  rintro e w1 ⟨rfl, hb1⟩
  have HW1 : Hid (Wr w w1 v b n m s d g ws (z.drop ln) (.int .i64 (-1)) d g) := by
    rw [List.drop_of_length_le (by rw [HZL.out]; exact Nat.le_refl _)]
    exact ⟨rfl, HV.out.below hb1, HF.out.1, HF.out.2.2.1, rfl, rfl, fun q hq => .inl hq, Upd.of_below hb1⟩
  clear hb1
  go_wp2_with fail
  go_loopw [7, 8] (fun c7 c8 wr => ∃ (j : Nat) (x : Int), j ≤ ln ∧ c8 = .int .i64 x ∧ x = (j : Int) - 1 ∧ Hid (∃ d' g', Wr w wr v b n m s d g ws (z.drop j) c7 d' g')) (fun _ c8 _ => (intOf c8 + 1).toNat)
  case atStart => exact ⟨ln, _, Nat.le_refl _, rfl, rfl, d, g, HW1.out⟩
  case round =>
    obtain ⟨j, x, hj, rfl, hx, d', g', HWR⟩ := hrel
    have HWR := Lib.hid HWR
    cases j with
    | zero =>
      have hx0 : ¬ 0 ≤ x := by omega
      clear hx
      go_wp2_with fail
      go_ret
      have h9 := HWR.out
      rw [h9.next] at h9
      exact ⟨rfl, d', g', h9⟩
    | succ i =>
      obtain rfl : x = (i : Int) := by omega
      have hu7 := HWR.out.next
      subst hu7
      obtain ⟨p, hp⟩ := some_at (l := z) (i := i) (by rw [HZL.out]; omega)
      have hdr : z.drop i = p :: z.drop (i + 1) := by
        obtain ⟨h1, h2⟩ := List.getElem?_eq_some_iff.1 hp
        rw [List.drop_eq_getElem_cons h1, h2]
      have hgd : GoodS n (p :: z.drop (i + 1)) := fun y hy => HZ.out.1 y (by rw [← hdr] at hy; exact List.mem_of_mem_drop hy)
      have hgp := hgd p (by simp)
      have hmay := hgd.may (by omega)
      have hla : l[i]? = some p.1 := by rw [← HZ.out.2.2.1, List.getElem?_map, hp]; rfl
      have hlb : rs[i]? = some p.2 := by rw [← HZ.out.2.2.2, List.getElem?_map, hp]; rfl
      have hra := HA.out.keep (fun a ha => by
        obtain ⟨a', ha', hlt, -⟩ := HA.out i _ hla
        rw [ha] at ha'
        cases ha'
        exact HWR.out.upd.block _ hlt (HP.out.1 a ha)) HWR.out.upd.size
      have hrb := rr_keep HB.out (fun a ha => by
        obtain ⟨q, off, hq, hlt, -⟩ := HB.out i _ hlb
        rw [ha] at hq
        cases hq
        exact HWR.out.upd.block _ hlt (HP.out.2 _ ha)) HWR.out.upd.size
      obtain ⟨a, rfl, -, ha⟩ := hra i _ hla
      obtain ⟨q, off, rfl, -, hb0, hb1⟩ := hrb i _ hlb
      obtain ⟨k, hk⟩ : ∃ k : Nat, k = 16 + 8 * m + p.1.toNat := ⟨_, rfl⟩
      have hfit := HF.out.2.1
      have hln9 : d'.las.length = ws.length := by
        rw [← Pm.wordsOf_length, HWR.out.words, ints_length, wrW_len]
      obtain ⟨d2, hput, hpt⟩ := Wp.put_many d' HWR.out.fuse [(sEnc p.2.1 p.2.2 (nxS (z.drop (i + 1))) : Int)] k (by rw [hln9]; simp; omega)
      have HSS := Lib.hid (setslot_yes (HWR.out.vol.below (bl_drew (Below.refl _ _))) (by have := HWR.out.steps; have := HF.out.2.2.2; have : (z.drop (i+1)).length ≤ 65534 := (by rw [List.length_drop, HZL.out]; omega); omega) p.1 p.2.1 p.2.2 (nxS (z.drop (i + 1))) ⟨hgp.1, hgp.2.1⟩ hmay k (by omega) _ hput)
      have HNX : Hid (∀ w2, DevTo wr.drew w2 b g' d2 → ∃ g2, Wr w w2 v b n m s d g ws (z.drop i) (.int .i64 p.1) d2 g2 ∧ Upd (g'.foot b) wr.drew w2) := fun w2 hto => by
        obtain ⟨g2, hv2, hf2, hu2⟩ := (HWR.out.vol.below (bl_drew (Below.refl _ _))).to hto (by rw [hpt.las])
        refine ⟨g2, ⟨by rw [hdr]; rfl, hv2, ?_, hpt.fuse, ?_, ?_, fun q hq => ?_, HWR.out.upd.drew.trans hu2 HWR.out.foot⟩, hu2⟩
        · rw [hpt.words, HWR.out.words, hdr]
          show (ints _).set k _ = ints ((wrW m ws (z.drop (i + 1))).set _ _)
          rw [hk]
          simp [ints]
        · rw [hpt.stores, HWR.out.stores, hdr]
          simp; omega
        · rw [hpt.steps, HWR.out.steps, hdr]
          simp [nline]; omega
        · rcases hf2 q hq with h1 | h1
          · exact HWR.out.foot q h1
          · exact .inr (Nat.le_trans HWR.out.upd.size h1)
      have HKP : Hid (∀ w2, Upd (g'.foot b) wr.drew w2 → w2.cell? (a.add i) = some (.int .i64 p.1) ∧ w2.cell? ⟨q, off + i * 2, none⟩ = some (.int .i64 p.2.1) ∧ w2.cell? ⟨q, off + i * 2 + 1, none⟩ = some (.int .i64 p.2.2)) := fun w2 hu2 => by
        have g1 : a.block ∉ g'.foot b := fun hm => by
          rcases HWR.out.foot _ hm with h9 | h9
          · exact HP.out.1 a rfl h9
          · obtain ⟨a', ha', hlt, -⟩ := HA.out i _ hla
            cases ha'
            omega
        have g2 : q ∉ g'.foot b := fun hm => by
          rcases HWR.out.foot _ hm with h9 | h9
          · exact HP.out.2 ⟨q, off, none⟩ rfl h9
          · obtain ⟨q', off', hq', hlt, -⟩ := HB.out i _ hlb
            cases hq'
            omega
        have k1 := hu2.block a.block (by obtain ⟨a', ha', hlt, -⟩ := hra i _ hla; cases ha'; exact hlt) g1
        have k2 := hu2.block q (by obtain ⟨q', off', hq', hlt, -⟩ := hrb i _ hlb; cases hq'; exact hlt) g2
        refine ⟨?_, (cell_blk k2 _).trans hb0, (cell_blk k2 _).trans hb1⟩
        rw [World.cell?_of_block (w := wr) (a := a.add i) (by rw [add_block]; exact k1)]
        exact ha
      have HS0 : Hid (wr.drew.cell? (a.add i) = some (.int .i64 p.1) ∧ wr.drew.cell? ⟨q, off + i * 2, none⟩ = some (.int .i64 p.2.1) ∧ wr.drew.cell? ⟨q, off + i * 2 + 1, none⟩ = some (.int .i64 p.2.2)) := ⟨ha, hb0, hb1⟩
      clear ha hb0 hb1 hput hpt hra hrb hla hlb hp hdr hgd hln9 hk hfit hx
      obtain ⟨p0, pa', pb'⟩ := p
      simp only at HS0 HSS HNX hgp hmay
      generalize nxS (z.drop (i + 1)) = nx7 at *
      have hil : (i : Int) < (ln : Int) := by omega
      have hi0 : (0 : Int) ≤ (i : Int) := by omega
      clear hmay hgp
      go_wp2_with fail
      go_region_held3 (fun w' => w'.cell? (a.add i) = some (.int .i64 p0) ∧ w'.cell? ⟨q, off + i * 2, none⟩ = some (.int .i64 pa') ∧ w'.cell? ⟨q, off + i * 2 + 1, none⟩ = some (.int .i64 pb'))
        (first | exact HS0.out | exact HS2.out)
        (first | (go_at_call 41; refine HSS.out.mono ?_; rintro e w2 ⟨rfl, hto⟩; (obtain ⟨g2, hw2, hu2⟩ := HNX.out w2 hto); (have HS2 : Hid (w2.cell? (a.add i) = some (.int .i64 p0) ∧ w2.cell? ⟨q, off + i * 2, none⟩ = some (.int .i64 pa') ∧ w2.cell? ⟨q, off + i * 2 + 1, none⟩ = some (.int .i64 pb')) := HKP.out w2 hu2); (have HW2 := Lib.hid hw2); clear hto hu2 hw2))
      go_wp2_with fail
      go_roundw
      case rel => exact ⟨i, _, by omega, rfl, rfl, d2, g2, HW2.out⟩
      case measure => simp [intOf]
end Go.Proofs.YtgnagbbdnlmgeaaGreat.Tr
end
section
set_option maxHeartbeats 2000000
set_option maxRecDepth 100000
namespace Go.Proofs.YtgnagbbdnlmgeaaGreat.Tr
open Go Go.RowKit
open Ob Ba Oc Pk
theorem same16_ {w : World} {A1 B1 A2 B2 : Option Addr} {l : List Int} {p : List Tri} (h1 : Rk .i64 w A1 l) (h2 : TR w B1 p) (h3 : Rk .i64 w A2 l) (h4 : TR w B2 p) (c1 c2 c3 c4 : Nat) (hl : l.length ≤ 65534) (hp : p.length ≤ 65534) :
    Calls Tryz.prog 44 #[.agg #[.slice A1 l.length c1, .slice B1 p.length c2], .agg #[.slice A2 l.length c3, .slice B2 p.length c4]] w fun e w' => e = .returned (.bool true) ∧ Below w.heap.size w w' := by
  have hu := Tryz.underlying82
  have hu2 := Tryz.underlying100
  have hu3 := Tryz.underlying51
  have hu4 := Tryz.underlying54
  have HSA : Hid (∀ {W : World}, Below w.heap.size w W → _) := fun {W} hb => rsame_ (h1.below hb) (h3.below hb) c1 c3 (by omega) (by omega)
  rw [decide_eq_true rfl] at HSA
  have H2 := Lib.hid h2
  have H4 := Lib.hid h4
  obtain ⟨ln, hln⟩ : ∃ ln, ln = l.length := ⟨_, rfl⟩
  obtain ⟨pn, hpn⟩ : ∃ pn, pn = p.length := ⟨_, rfl⟩
  rw [← hpn] at hp
  rw [← hln] at HSA
  rw [← hln, ← hpn]
  have HN := Lib.hid hpn
  clear h1 h2 h3 h4 hln hpn hl
  have hq2 := alloc_old (alloc_new w (.cells #[.slice A1 ln c1, .slice B1 pn c2] 82)) (.cells #[.slice A2 ln c3, .slice B2 pn c4] 100)
  have hq3 := Je.two_new w (.cells #[.slice A1 ln c1, .slice B1 pn c2] 82) (.cells #[.slice A2 ln c3, .slice B2 pn c4] 100)
  have HB0 : Hid (Below w.heap.size w ((w.alloc (.cells #[.slice A1 ln c1, .slice B1 pn c2] 82)).alloc (.cells #[.slice A2 ln c3, .slice B2 pn c4] 100))) := bl_alloc (bl_alloc (Below.refl _ _) _) _
  have HQ := Lib.hid (And.intro hq2 hq3)
  clear hq2 hq3
  go_enter Tryz.func44, Tryz.ntmps44
  go_wp2_with fail
  refine (HSA.out HB0.out).mono ?_
  rintro e w1 ⟨rfl, n1, hw1⟩
  have HW1 : Hid (w1.heap[w.heap.size]? = some (.cells #[.slice A1 ln c1, .slice B1 pn c2] 82 (0, 0)) ∧ w1.heap[w.heap.size + 1]? = some (.cells #[.slice A2 ln c3, .slice B2 pn c4] 100 (0, 0)) ∧ Below w.heap.size w w1) := by
    show _ ∧ _ ∧ _
    rw [hw1]
    exact ⟨HQ.out.1, HQ.out.2, bl_drewN HB0.out _⟩
  clear hw1
  have k0 := cell_of HW1.out.1 0
  have k1 := cell_of HW1.out.1 1
  have k2 := cell_of HW1.out.2.1 0
  have k3 := cell_of HW1.out.2.1 1
  go_wp2_with fail
  clear k0 k1 k2 k3
  go_loopw [24] (fun c24 wr => ∃ i : Nat, i ≤ pn ∧ c24 = .int .i64 i ∧ Hid (wr.heap[w.heap.size]? = some (.cells #[.slice A1 ln c1, .slice B1 pn c2] 82 (0, 0)) ∧ wr.heap[w.heap.size + 1]? = some (.cells #[.slice A2 ln c3, .slice B2 pn c4] 100 (0, 0)) ∧ Below w.heap.size w wr)) (fun c24 _ => pn - (intOf c24).toNat)
  case atStart => exact ⟨0, Nat.zero_le _, rfl, HW1.out⟩
  case round =>
    obtain ⟨i, hi, rfl, HR⟩ := hrel
    by_cases hlt : i < pn
    · obtain ⟨t, ht⟩ := some_at (l := p) (i := i) (by rw [← HN.out]; exact hlt)
      obtain ⟨q1, o1, rfl, -, a1, a2, a3⟩ := (H2.out.below HR.out.2.2) i t ht
      obtain ⟨q2, o2, rfl, -, b1, b2, b3⟩ := (H4.out.below HR.out.2.2) i t ht
      have k1 := cell_of HR.out.1 1
      have k3 := cell_of HR.out.2.1 1
      obtain ⟨x, y, z⟩ := t
      simp only at a1 a2 a3 b1 b2 b3
      clear ht
      go_wp2_with fail
      go_quiet (fail)
      go_wp2_with fail
      go_roundw
      case rel => exact ⟨i + 1, by omega, by go_num, HR.out.1, HR.out.2.1, bl_drewN HR.out.2.2 _⟩
      case measure => simp [intOf]; omega
    · obtain rfl : i = pn := by omega
      go_wp2_with fail
      go_ret
      exact ⟨rfl, HR.out.2.2⟩
end Go.Proofs.YtgnagbbdnlmgeaaGreat.Tr
end
