/- Parts of the proof, one behind the other: Rb, Ry, Vl, Vp, Vq. -/
import Derived.Test.YtgnagbbdnlmgeaaGreatL10
import Derived.Deep.QuietTactic
import Derived.BigQuiet
import Derived.Deep.RegionWith
import Derived.Test.YtgnagbbdnlmgeaaGreatL07
import Derived.Test.YtgnagbbdnlmgeaaGreatL04
set_option linter.unusedVariables false
set_option linter.unusedSimpArgs false
set_option linter.unusedSectionVars false
section
set_option maxHeartbeats 2000000
set_option maxRecDepth 100000
namespace Go.Proofs.YtgnagbbdnlmgeaaGreat.Ra
open Go Go.RowKit
open Ob Ba Ko Ge Oc Pk Su Rf Dv
def rwd (l : List Int) (i : Nat) : Int := if l.length = 0 then 0 else l.getD (i % l.length) 0
def dws (h l : List Int) (T : Nat) : List Int := h ++ (List.range (T - 8)).map fun j => rwd l (8 + j)
theorem dws_length (h l : List Int) (T : Nat) (hh : h.length = 8) (hT : 8 ≤ T) : (dws h l T).length = T := by simp [dws, hh]; omega
theorem dws_at (h l : List Int) (T i : Nat) (hh : h.length = 8) (hi : 8 ≤ i) (hT : i < T) : (dws h l T)[i]? = some (rwd l i) := by
  unfold dws
  rw [List.getElem?_append_right (by omega), hh, List.getElem?_map, List.getElem?_range (by omega)]
  show some (rwd l (8 + (i - 8))) = _
  rw [show 8 + (i - 8) = i from by omega]
theorem dws_take8 (h l : List Int) (T : Nat) (hh : h.length = 8) : (dws h l T).take 8 = h := by
  unfold dws
  rw [← hh, List.take_left]
theorem res_tc {P : Program} {fn : Func} {p u : Tmp} {ty : TypeId} (h : fn.results = #[.tmp u, .cell p ty]) (tmps : Array Value) (w : World) (g : Nat) (t : TypeId) (cs : Array Value) (fr : Nat × Nat) (d : TypeDesc)
    (hp : tmps.getD p undef = .pointer (some ⟨g, 0, none⟩)) (hg : w.heap[g]? = some (.cells cs t fr))
    (hu : P.underlying ty = some d) (hd : (match d with | .struct _ | .array _ _ => true | _ => false) = true) (hi : (P.info? ty).map (·.size) = some cs.size) :
    (results fn tmps).run P w = .ok (.tuple #[tmps.getD u undef, .agg cs]) w := by
  have hp' : tmps[p]?.getD undef = .pointer (some ⟨g, 0, none⟩) := by simpa using hp
  simp [results, h, hp', asAddr, run_loadVar_row w g t ty cs fr d hg hu hd hi]
theorem put9_other {W : World} {q k : Nat} (h : k ≠ q) {u0 u1 u2 u3 u4 u5 u6 u7 u8 : Value} :
    (((((((((W.setCell ⟨q, 0, none⟩ u0).setCell ⟨q, 1, none⟩ u1).setCell ⟨q, 2, none⟩ u2).setCell ⟨q, 3, none⟩ u3).setCell ⟨q, 4, none⟩ u4).setCell ⟨q, 5, none⟩ u5).setCell ⟨q, 6, none⟩ u6).setCell ⟨q, 7, none⟩ u7).setCell ⟨q, 8, none⟩ u8).heap[k]? = W.heap[k]? := by
  have h1 : ∀ (V : World) (o : Nat) (u : Value), (V.setCell ⟨q, o, none⟩ u).heap[k]? = V.heap[k]? := fun V o u => Below.heap_setCell _ _ _ k h
  rw [h1, h1, h1, h1, h1, h1, h1, h1, h1]
theorem device_ (r0 r1 r2 : Nat) (h0 : r0 < 256) (h1 : r1 < 256) (h2 : r2 < 256) {A : Option Addr} {l : List Int} (c : Nat) {w : World} (h : Rk .u64 w A l) (hl9 : l.length ≤ 9223372036854775807) (n m s T : Nat) (hn : n = gB r0) (hm : m = gB r1) (hs : s = gS r2) (hT : (T : Int) = tot n m s) :
    Calls Tryz.prog 68 #[.agg #[.int .u8 r0, .int .u8 r1, .int .u8 r2, .slice A l.length c]] w fun e w' => ∃ b g v, e = .returned (.tuple #[.pointer (some ⟨b, 0, none⟩), .agg (vcells n m s v)]) ∧
      DevIs w' b (Pm.devOf (dws (ints (enc n m s)) l T)) g ∧ (∀ k ∈ g.foot b, w.heap.size ≤ k) ∧ w'.ownsRow w.heap.size 94 1 v T (ivs .u64 (dws (ints (enc n m s)) l T)) ∧ (∀ k, v.ownBlock = some k → k ∉ g.foot b) ∧ Below w.heap.size w w' := by
  have hu := Tryz.underlying30
  have hok : geoOk n m s = true := by rw [hn, hm, hs]; exact g_ok r0 r1 r2
  have htt := g_tot r0 r1 r2
  rw [← hn, ← hm, ← hs, ← hT] at htt
  have hgeo := geometry_ r0 r1 r2 h0 h1 h2 A l.length c
  rw [← hn, ← hm, ← hs] at hgeo
  have hn9 : n < 65536 := by have := gB_in r0; omega
  have hm9 : m < 65536 := by have := gB_in r1; omega
  have hs9 : s < 65536 := by have := gS_or r2; omega
  have HGEO := Lib.hid hgeo
  have HENC := Lib.hid (Su.rencode_yes n m s hok hn9 hm9 hs9)
  have HOF := Lib.hid (of15_ n m s hok none 0 0)
  have HV : Hid (∀ v, vcells n m s v = #[.int .i64 n, .int .i64 m, .int .i64 s, .int .i64 16, .int .i64 (16 + 8 * m), .int .i64 (bmAt n m), .int .i64 (bkAt n m), .int .i64 (tot n m s), v]) := fun _ => rfl
  rw [← hT] at HV
  have HH8 : Hid ((ints (enc n m s)).length = 8) := rfl
  have H := Lib.hid h
  have hv0 : vcells n m s (.slice none 0 0) = _ := HV.out _
  rw [hv0] at HOF
  generalize vcells n m s = vc at *
  generalize ints (enc n m s) = hd at *
  obtain ⟨len, hlen⟩ : ∃ len, len = l.length := ⟨_, rfl⟩
  rw [← hlen] at HGEO
  rw [← hlen]
  have HLEN := Lib.hid hlen
  have hlen9 : len ≤ 9223372036854775807 := by omega
  obtain ⟨i0, hinf, hz0, hz1, hz2⟩ := info_parts info_u64
  clear h hl9 hn hm hs hT hok hgeo hlen h0 h1 h2 hv0
  generalize bmAt n m = p3 at *
  generalize bkAt n m = p4 at *
  generalize (16 + 8 * m : Int) = p2 at *
  go_enter Tryz.func68, Tryz.ntmps68
  go_wp2_with fail
  refine (HGEO.out _).mono ?_
  rintro e w1 ⟨rfl, hb1⟩
  have hqr := blk_bl (alloc_old (alloc_new w (.cells #[.int .u8 r0, .int .u8 r1, .int .u8 r2, .slice A len c] 24)) (.cells #[.int .i64 0, .int .i64 0, .int .i64 0, .int .i64 0, .int .i64 0, .int .i64 0, .int .i64 0, .int .i64 0, .slice none 0 0] 30)) hb1
  have hqz := alloc_new (w.alloc (.cells #[.int .u8 r0, .int .u8 r1, .int .u8 r2, .slice A len c] 24)) (.cells #[.int .i64 0, .int .i64 0, .int .i64 0, .int .i64 0, .int .i64 0, .int .i64 0, .int .i64 0, .int .i64 0, .slice none 0 0] 30)
  rw [World.size_alloc] at hqz
  have HR1 := Lib.hid hqr
  have HZ1 := Lib.hid (blk_bl hqz hb1)
  have HB1 := Lib.hid (bl_then (bl_alloc (bl_alloc (Below.refl _ _) _) _) hb1)
  have hs1 := hb1.size
  simp only [World.size_alloc] at hs1
  have HS1 : Hid (w.heap.size + 2 ≤ w1.heap.size) := hs1
  clear hqr hqz hb1 hs1
  go_wp2_with fail
  refine (HENC.out _).mono ?_
  rintro e w2 ⟨v5, rfl, hown5, hb2⟩
  have hq4 := blk_bl (alloc_new w1 (.cells #[.int .i64 n, .int .i64 m, .int .i64 s] 34)) hb2
  have c40 := cell_of hq4 0
  have c41 := cell_of hq4 1
  have c42 := cell_of hq4 2
  have HB2 := Lib.hid (bl_then (bl_alloc (Below.refl _ _) _) hb2)
  have HBG := Lib.hid hb2
  obtain ⟨A5, c5, rfl⟩ := own_slice hown5
  have HO5 := Lib.hid hown5
  clear hown5 hb2 hq4
  go_wp2_with fail
  refine (HOF.out _).mono ?_
  rintro e w3 ⟨rfl, hb3⟩
  have HB3 := Lib.hid hb3
  clear hb3
  have hrk5 := (own_rk HO5.out).1
  obtain ⟨y5, hy5⟩ := some_at (l := hd) (i := 0) (by rw [HH8.out]; decide)
  obtain ⟨q5, rfl, -, -⟩ := own_at HO5.out hy5
  clear hy5
  obtain ⟨wA, hwA⟩ : ∃ wA, wA = w3.alloc (.cells #[.int .i64 n, .int .i64 m, .int .i64 s, .int .i64 16, .int .i64 p2, .int .i64 p3, .int .i64 p4, .int .i64 T, .slice none 0 0] 30) := ⟨_, rfl⟩
  obtain ⟨wB, hwB⟩ : ∃ wB, wB = (w3.alloc (.cells #[.int .i64 n, .int .i64 m, .int .i64 s, .int .i64 16, .int .i64 p2, .int .i64 p3, .int .i64 p4, .int .i64 T, .slice none 0 0] 30)).alloc (.cells #[] 94) := ⟨_, rfl⟩
  have HSA : Hid (wA.heap.size = w3.heap.size + 1) := by rw [hwA]; show _ = _; simp
  have HSB : Hid (wB.heap.size = w3.heap.size + 2) := by rw [hwB]; show _ = _; simp
  have HQ7 : Hid (wA.heap[w3.heap.size]? = some (.cells #[.int .i64 n, .int .i64 m, .int .i64 s, .int .i64 16, .int .i64 p2, .int .i64 p3, .int .i64 p4, .int .i64 T, .slice none 0 0] 30 (0, 0))) := by rw [hwA]; exact alloc_new _ _
  have HAB : Hid (Below wA.heap.size wA wB) := by rw [hwB, ← hwA]; exact bl_alloc (Below.refl _ _) _
  have HE : Hid (wB.ownsRow wA.heap.size 94 1 (.slice (some ⟨w3.heap.size + 1, 0, none⟩) 0 0) 0 []) := by
    have := alloc_new wA (.cells #[] 94)
    rw [HSA.out] at this
    rw [hwB, ← hwA]
    exact own_nil _ _ _ _ (by rw [HSA.out]; exact Nat.le_refl _) this 1
  have HWB := Lib.hid hwB
  have h1A : Below w1.heap.size w1 wA := by rw [hwA]; exact bl_alloc (bl_then HB2.out HB3.out) _
  have HWA1 := Lib.hid (bl_then HB1.out h1A)
  have HR : Hid (wA.heap[w.heap.size]? = some (.cells #[.int .u8 r0, .int .u8 r1, .int .u8 r2, .slice A len c] 24 (0, 0))) := blk_bl HR1.out h1A
  have HZ : Hid (wA.heap[w.heap.size + 1]? = some (.cells #[.int .i64 0, .int .i64 0, .int .i64 0, .int .i64 0, .int .i64 0, .int .i64 0, .int .i64 0, .int .i64 0, .slice none 0 0] 30 (0, 0))) := blk_bl HZ1.out h1A
  have HL5 : Hid (Rk .u64 wB (some ⟨q5, 0, none⟩) hd) := (hrk5.below (by
    have : Below w2.heap.size w2 wA := by rw [hwA]; exact bl_alloc HB3.out _
    exact bl_then this HAB.out))
  have HA := Lib.hid (H.out.below HWA1.out)
  have HS3 : Hid (w.heap.size + 3 ≤ wA.heap.size) := by
    have h5 := HB2.out.size
    have h6 := HB3.out.size
    have h7 := HS1.out
    have h8 := HSA.out
    show _ ≤ _
    have h9 : w1.heap.size + 1 ≤ w2.heap.size := by
      have := lt_of (blk_bl (W' := w2) (alloc_new w1 (.cells #[.int .i64 n, .int .i64 m, .int .i64 s] 34)) HBG.out)
      omega
    omega
  clear hwA hwB h1A hrk5 HO5 HB1 HB2 HB3 HR1 HZ1 HGEO HENC HOF c40 c41 c42
  go_wp2_with (rw [← HWB.out]; at_builtin; refine wpList_append_own _ rfl (.tmp 30) (.tmp 31) 22 rfl wA.heap.size 94 i0 (.int .u64 0) 1 8 Tryz.underlying22 hinf hz0 hz1 hz2 rfl (by decide) _ 0 [] rfl HE.out ⟨q5, 0, none⟩ 8 c5 (ivs .u64 hd) rfl (by rw [ivs_length, HH8.out]) (by intro j u hj; simp only [ivs, List.getElem?_map, Option.map_eq_some_iff] at hj; obtain ⟨z, hz, rfl⟩ := hj; exact HL5.out.at_ hz) (ivs_oneCell _ _) (by unfold maxLen; omega) (by omega) (by rw [HSA.out, HSB.out]; omega) ?_; intro v8 w4 hown hgrow _; (have HO : Hid (w4.ownsRow wA.heap.size 94 1 v8 8 (ivs .u64 hd)) := hown); (have HG : Hid (wB.grownBy w4 (some (w3.heap.size + 1))) := hgrow); clear hown hgrow)
  have hI : w4.ownsRow wA.heap.size 94 1 v8 8 (ivs .u64 ((dws hd l T).take 8)) ∧ Below wA.heap.size wA w4 := by
    refine ⟨by rw [dws_take8 hd l T HH8.out]; exact HO.out, bl_grown HAB.out HG.out (fun b hb => by simp at hb; rw [← hb, HSA.out]; exact Nat.le_refl _)⟩
  have HI := Lib.hid hI
  have HL2 : Hid (∀ i, 8 ≤ i → i < T → (dws hd l T)[i]? = some (rwd l i)) := fun i hi hT => dws_at hd l T i HH8.out hi hT
  have HLT : Hid ((dws hd l T).length = T) := dws_length hd l T HH8.out (by omega)
  generalize hLL : dws hd l T = L at *
  have HLL := Lib.hid hLL
  clear hLL
  have hT9 : T ≤ 1000 := by omega
  have hT8 : 8 ≤ T := by omega
  clear hI HO HG HE HL5 HAB HSB HWB htt
  go_loopw [8, 9] (fun c8 c9 wr => ∃ i : Nat, 8 ≤ i ∧ i ≤ T ∧ c9 = .int .i64 i ∧ Hid (wr.ownsRow wA.heap.size 94 1 c8 i (ivs .u64 (L.take i)) ∧ Below wA.heap.size wA wr)) (fun _ c9 _ => T - (intOf c9).toNat)
  case atStart => exact ⟨8, Nat.le_refl _, hT8, rfl, HI.out⟩
  case round =>
    obtain ⟨i, hi8, hiT, rfl, HJ⟩ := hrel
    have HBW := Lib.hid HJ.out.2
    have hq7 := blk_bl HQ7.out HBW.out
    have c7 := cell_of hq7 7
    have hqr := blk_bl HR.out HBW.out
    have r3 := cell_of hqr 3
    obtain ⟨A8, c8, e8⟩ := own_slice HJ.out.1
    subst e8
    by_cases hlt : i < T
    · have HX := Lib.hid (HL2.out i hi8 hlt)
      by_cases hl0 : len = 0
      · have HRW : Hid (rwd l i = 0) := by show (if l.length = 0 then _ else _) = _; rw [if_pos (by rw [← HLEN.out]; exact hl0)]
        have e0 : ¬ ((len : Int) > 0) := by omega
        have HOW := Lib.hid (fun o => own_kp (W' := wr.alloc o) HJ.out.1 (fun k _ hk => Below.heap_alloc _ _ k hk))
        go_wp2_with (at_builtin; refine wpList_append_own _ rfl (.tmp 55) (.tmp 57) 22 rfl wA.heap.size 94 i0 (.int .u64 0) 1 8 Tryz.underlying22 hinf hz0 hz1 hz2 rfl (by decide) _ i _ rfl (HOW.out _) ⟨wr.heap.size, 0, none⟩ 1 1 [.int .u64 0] rfl rfl (one_at _ _ _) (by intro u hu; simp at hu; subst hu; rfl) (by unfold maxLen; omega) (by omega) (by have h1 := HBW.out.size; simp; omega) ?_; intro v' w7 hown' hgrow _; (have HO7 := Lib.hid hown'); (have HG7 := Lib.hid hgrow); clear hown' hgrow)
        go_roundw
        case rel => exact ⟨i + 1, by omega, hlt, by go_num, by rw [take_next HX.out, HRW.out, ivs_append]; exact HO7.out, bl_grown (bl_alloc HBW.out _) HG7.out (own_lo HJ.out.1)⟩
        case measure => simp [intOf]; omega
      · have hk9 : i % len < len := Nat.mod_lt _ (by omega)
        obtain ⟨x, hx⟩ := some_at (l := l) (i := i % len) (by rw [← HLEN.out]; exact hk9)
        have HRW : Hid (rwd l i = x) := by show (if l.length = 0 then _ else _) = _; rw [if_neg (by rw [← HLEN.out]; exact hl0), ← HLEN.out, List.getD_eq_getElem?_getD, hx]; rfl
        obtain ⟨p, rfl, hp0, hp⟩ := (HA.out.below HBW.out) _ x hx
        have e0 : (len : Int) > 0 := by omega
        obtain ⟨k, hk⟩ : ∃ k, k = i % len := ⟨_, rfl⟩
        have em : (i : Int) % len = (k : Int) := by omega
        have et : (i : Int).tmod len = (k : Int) := by rw [Int.tmod_eq_emod_of_nonneg (by omega)]; exact em
        rw [← hk] at hp hk9
        clear hk hx
        go_wp2_with fail
        go_quiet (fail)
        have hown : (wr.drewN nq).ownsRow wA.heap.size 94 1 (.slice A8 i c8) i (ivs .u64 (L.take i)) := own_kp HJ.out.1 (fun _ _ _ => rfl)
        have hbq := bl_drewN HBW.out nq
        generalize wr.drewN nq = wq at *
        have HBQ := Lib.hid hbq
        have HOQ := Lib.hid hown
        have HOW := Lib.hid (fun o => own_kp (W' := wq.alloc o) hown (fun k _ hk => Below.heap_alloc _ _ k hk))
        clear hown hbq hp hqr hq7
        go_wp2_with (at_builtin; refine wpList_append_own _ rfl (.tmp 55) (.tmp 57) 22 rfl wA.heap.size 94 i0 (.int .u64 0) 1 8 Tryz.underlying22 hinf hz0 hz1 hz2 rfl (by decide) _ i _ rfl (HOW.out _) ⟨wq.heap.size, 0, none⟩ 1 1 [.int .u64 x] rfl rfl (one_at _ _ _) (by intro u hu; simp at hu; subst hu; rfl) (by unfold maxLen; omega) (by omega) (by have h1 := HBQ.out.size; simp; omega) ?_; intro v' w7 hown' hgrow _; (have HO7 := Lib.hid hown'); (have HG7 := Lib.hid hgrow); clear hown' hgrow)
        go_roundw
        case rel => exact ⟨i + 1, by omega, hlt, by go_num, by rw [take_next HX.out, HRW.out, ivs_append]; exact HO7.out, bl_grown (bl_alloc HBQ.out _) HG7.out (own_lo HOQ.out)⟩
        case measure => simp [intOf]; omega
    · obtain rfl : i = T := by omega
      have hown := HJ.out.1
      rw [List.take_of_length_le (by rw [HLT.out]; exact Nat.le_refl _)] at hown
      obtain ⟨y8, hy8⟩ := some_at (l := L) (i := 0) (by rw [HLT.out]; omega)
      obtain ⟨q8, rfl, -, -⟩ := own_at hown hy8
      have hq8 : wA.heap.size ≤ q8 := own_lo hown q8 rfl
      have hsz := HBW.out.size
      have f78 := free_of hq7 8
      have c78 := cell_of hq7 8
      have hW1 := set_same hq7 8 (.slice (some ⟨q8, 0, none⟩) i c8)
      have hown2 := own_low hown (q := w3.heap.size) (by rw [HSA.out]; omega) 8 (.slice (some ⟨q8, 0, none⟩) i c8)
      have hzz := set_other (a := ⟨w3.heap.size, 8, none⟩) (blk_bl HZ.out HBW.out) (by show _ ≠ w3.heap.size; have := HSA.out; have := HS3.out; omega) (.slice (some ⟨q8, 0, none⟩) i c8)
      have hbz : Below w.heap.size w (wr.setCell ⟨w3.heap.size, 8, none⟩ (.slice (some ⟨q8, 0, none⟩) i c8)) := bl_set (bl_then HWA1.out HBW.out) (by have := HSA.out; have := HS3.out; omega) _
      have hrk := (own_rk hown2).1
      have HPO : Hid (∀ W, Rk .u64 W (some ⟨q8, 0, none⟩) L → Calls Tryz.prog 124 #[.slice (some ⟨q8, 0, none⟩) i c8] W fun e w' => ∃ v, e = .returned v ∧ Pm.DevNew W w' v (Pm.devOf L)) := by
        intro W hW
        have h9 := Pm.of_any (a := ⟨q8, 0, none⟩) hW c8 (by rw [HLT.out]; exact (own_rk hown).2.2) (by rw [HLT.out]; omega)
        rw [HLT.out] at h9
        exact h9
      have HALL := Lib.hid (And.intro hW1 (And.intro hown2 (And.intro hzz (And.intro hbz hrk))))
      clear hown hy8 hq7 hqr hW1 hown2 hzz hbz hrk hlt HJ
      go_wp2_with fail
      generalize wr.setCell ⟨w3.heap.size, 8, none⟩ (.slice (some ⟨q8, 0, none⟩) i c8) = wX at *
      have hx7 : wX.heap[w3.heap.size]? = some (.cells #[.int .i64 n, .int .i64 m, .int .i64 s, .int .i64 16, .int .i64 p2, .int .i64 p3, .int .i64 p4, .int .i64 i, .slice (some ⟨q8, 0, none⟩) i c8] 30 (0, 0)) := HALL.out.1
      have hxz := HALL.out.2.2.1
      have HX7 := Lib.hid hx7
      have HXZ := Lib.hid hxz
      clear c7 c78 f78 r3
      have m0 := cell_of hx7 0
      have m1 := cell_of hx7 1
      have m2 := cell_of hx7 2
      have m3 := cell_of hx7 3
      have m4 := cell_of hx7 4
      have m5 := cell_of hx7 5
      have m6 := cell_of hx7 6
      have m7 := cell_of hx7 7
      have m8 := cell_of hx7 8
      have z0 := cell_of hxz 0
      have z1 := cell_of hxz 1
      have z2 := cell_of hxz 2
      have z3 := cell_of hxz 3
      have z4 := cell_of hxz 4
      have z5 := cell_of hxz 5
      have z6 := cell_of hxz 6
      have z7 := cell_of hxz 7
      have z8 := cell_of hxz 8
      have f0 := free_of hxz 0
      have f1 := free_of hxz 1
      have f2 := free_of hxz 2
      have f3 := free_of hxz 3
      have f4 := free_of hxz 4
      have f5 := free_of hxz 5
      have f6 := free_of hxz 6
      have f7 := free_of hxz 7
      have f8 := free_of hxz 8
      clear hx7 hxz
      go_region_with (go_at_call 124; refine (HPO.out _ ?hX).mono ?_; (case hX => exact HALL.out.2.2.2.2); rintro e w5 ⟨_, rfl, bd, gd, rfl, hd5, hf5, hb5⟩; (have hx5 := blk_bl (W := wX.drew) HX7.out hb5); (have hz5 := blk_bl (W := wX.drew) HXZ.out hb5); (have mm0 := cell_of hx5 0); (have mm1 := cell_of hx5 1); (have mm2 := cell_of hx5 2); (have mm3 := cell_of hx5 3); (have mm4 := cell_of hx5 4); (have mm5 := cell_of hx5 5); (have mm6 := cell_of hx5 6); (have mm7 := cell_of hx5 7); (have mm8 := cell_of hx5 8); (have zz0 := cell_of hz5 0); (have zz1 := cell_of hz5 1); (have zz2 := cell_of hz5 2); (have zz3 := cell_of hz5 3); (have zz4 := cell_of hz5 4); (have zz5 := cell_of hz5 5); (have zz6 := cell_of hz5 6); (have zz7 := cell_of hz5 7); (have zz8 := cell_of hz5 8); (have ff0 := free_of hz5 0); (have ff1 := free_of hz5 1); (have ff2 := free_of hz5 2); (have ff3 := free_of hz5 3); (have ff4 := free_of hz5 4); (have ff5 := free_of hz5 5); (have ff6 := free_of hz5 6); (have ff7 := free_of hz5 7); (have ff8 := free_of hz5 8); (have HZ5 := Lib.hid hz5); (have HN5 := Lib.hid (And.intro hd5 (And.intro hf5 hb5))); clear hd5 hf5 hb5 hx5 hz5)
      all_goals
        go_wp2
        have hp9 := put9 HZ5.out (.int .i64 n) (.int .i64 m) (.int .i64 s) (.int .i64 16) (.int .i64 p2) (.int .i64 p3) (.int .i64 p4) (.int .i64 i) (.slice (some ⟨q8, 0, none⟩) i c8)
        have hs3 := HS3.out
        have hszx := HALL.out.2.1
        obtain ⟨xx, hxx⟩ := some_at (l := L) (i := 0) (by rw [HLT.out]; omega)
        have hqlt : q8 < wX.heap.size := by
          obtain ⟨a9, e9, h9, -⟩ := HALL.out.2.2.2.2 0 xx hxx
          cases e9
          exact h9
        have hwx : wA.heap.size ≤ wX.heap.size := Nat.le_trans hq8 (Nat.le_of_lt hqlt)
        have ho5 : w5.ownsRow wA.heap.size 94 1 (.slice (some ⟨q8, 0, none⟩) i c8) i (ivs .u64 L) := own_bl (W := wX) HALL.out.2.1 ⟨HN5.out.2.2.os, HN5.out.2.2.tape, HN5.out.2.2.output, HN5.out.2.2.size, HN5.out.2.2.block⟩
        have ho9 := own_low9 ho5 (q := w.heap.size + 1) (by omega) (.int .i64 n) (.int .i64 m) (.int .i64 s) (.int .i64 16) (.int .i64 p2) (.int .i64 p3) (.int .i64 p4) (.int .i64 i) (.slice (some ⟨q8, 0, none⟩) i c8)
        have hbx5 : Below w.heap.size w w5 := bl_then (bl_drew HALL.out.2.2.2.1) HN5.out.2.2
        have hb9 := bl_put9 hbx5 (Nat.le_succ _) (.int .i64 n) (.int .i64 m) (.int .i64 s) (.int .i64 16) (.int .i64 p2) (.int .i64 p3) (.int .i64 p4) (.int .i64 i) (.slice (some ⟨q8, 0, none⟩) i c8)
        rw [HLL.out]
        refine bodyPost_ret (res_tc (u := 2) rfl _ _ (w.heap.size + 1) 30 _ (0, 0) _ rfl hp9 hu rfl ?_) rfl ⟨bd, gd, .slice (some ⟨q8, 0, none⟩) i c8, by rw [HV.out]; rfl, ?_, ?_, own_base ho9 (by omega), ?_, hb9⟩
        · kernel_rfl
        · refine HN5.out.1.keep fun k hk => put9_other ?_
          have h9 := HN5.out.2.1 k hk
          have h8 : wX.heap.size ≤ k := h9
          omega
        · intro k hk
          have h9 : wX.heap.size ≤ k := HN5.out.2.1 k hk
          omega
        · intro k hk hm
          simp only [Value.ownBlock, Option.some.injEq] at hk
          have h9 : wX.heap.size ≤ k := HN5.out.2.1 k hm
          omega
end Go.Proofs.YtgnagbbdnlmgeaaGreat.Ra
end
section
set_option maxHeartbeats 2000000
set_option maxRecDepth 100000
namespace Go.Proofs.YtgnagbbdnlmgeaaGreat.Su
open Go Go.RowKit
open Ob Ba Ko Ge Cr Cc Oc Pk Dv
theorem enc_len (n m s : Nat) : (enc n m s).length = 8 := rfl
theorem enc_at1 (n m s : Nat) : (enc n m s).getD 1 0 = word1 n m s := rfl
theorem enc_lt {n m s : Nat} (hn : n < 65536) (hm : m < 65536) (hs : s < 65536) : ∀ x ∈ enc n m s, x < 18446744073709551616 := by
  intro x hx
  have h1 : word1 n m s < 18446744073709551616 := by unfold word1; omega
  have h2 : sum7 magic (word1 n m s) < 18446744073709551616 := Nat.lt_trans (sum7_lt _ _) (by decide)
  have h3 : magic < 18446744073709551616 := by decide
  unfold enc line at hx
  simp only [List.cons_append, List.nil_append, List.mem_cons, List.not_mem_nil, or_false] at hx
  rcases hx with rfl | rfl | rfl | rfl | rfl | rfl | rfl | rfl
  · exact h3
  · exact h1
  all_goals first | exact h2 | decide
theorem dec_enc {w : World} {A : Option Addr} {n m s : Nat} (h : Rk .u64 w A (ints (enc n m s))) (c : Nat) (hok : geoOk n m s = true) (hn : n < 65536) (hm : m < 65536) (hs : s < 65536) :
    Calls Tryz.prog 171 #[.slice A 8 c] w fun e w' => e = .returned (.tuple #[.agg #[.int .i64 n, .int .i64 m, .int .i64 s], .int .i64 0]) ∧ Below w.heap.size w w' := by
  have hp : pa (word1 n m s) = n ∧ pb (word1 n m s) = m ∧ pc (word1 n m s) = s ∧ word1 n m s < 281474976710656 := by unfold pa pb pc word1; omega
  have := dec_rest h c (enc_len n m s) (enc_lt hn hm hs) (word1 n m s) (enc_at1 n m s) hp.2.2.2 n m s hp.1.symm hp.2.1.symm hp.2.2.1.symm
  rw [enc_len] at this
  refine this.mono ?_
  rintro e w' ⟨hd, hb⟩
  unfold DecIs at hd
  rw [if_pos ⟨hok, rfl⟩] at hd
  exact ⟨hd, hb⟩
theorem own_drewN {W : World} {B T s n : Nat} {v : Value} {xs : List Value} (h : W.ownsRow B T s v n xs) (q : Nat) : (W.drewN q).ownsRow B T s v n xs := own_kp h (fun _ _ _ => rfl)
theorem read_ok {w : World} {b : Nat} {d : Dev} {g : Lay} (h : DevIs w b d g) (n m s : Nat) (hok : geoOk n m s = true) (hn : n < 65536) (hm : m < 65536) (hs : s < 65536) (hlen : (d.las.length : Int) = tot n m s) (h8 : 8 ≤ d.las.length)
    (hl : ∀ (i : Nat) x, (enc n m s)[i]? = some x → d.load i = (x : Int)) :
    Calls Tryz.prog 131 #[.pointer (some ⟨b, 0, none⟩)] w fun e w' => e = .returned (.tuple #[.agg #[.int .i64 n, .int .i64 m, .int .i64 s], .int .i64 0]) ∧ Below w.heap.size w w' := by
  have hu := Tryz.underlying34
  have HD := Lib.hid h
  have HL : Hid (∀ W, DevIs W b d g → Calls Tryz.prog 170 #[.pointer (some ⟨b, 0, none⟩)] W fun e w' => e = .returned (.int .i64 (tot n m s)) ∧ W = w') := by
    intro W hW
    rw [← hlen]
    exact Go.Proofs.YtgnagbbdnlmgeaaGreat.Pm.len_any hW
  have HLD := Lib.hid hl
  have HW := Lib.hid (words_ n m s hok)
  have HDE : Hid (∀ {w : World} {A : Option Addr} (h : Rk .u64 w A (ints (enc n m s))) (c : Nat), _) := fun h c => dec_enc h c hok hn hm hs
  have ht : (8 : Int) ≤ tot n m s := by omega
  have HE8 := Lib.hid (enc_len n m s)
  have HLT := Lib.hid (enc_lt hn hm hs)
  generalize enc n m s = l at *
  generalize ht0 : tot n m s = t at *
  clear h hok hn hm hs hlen h8 hl ht0
  have hinf0 : True := trivial
  obtain ⟨i0, hinf, hz0, hz1, hz2⟩ := info_parts info_u64
  go_enter Tryz.func131, Tryz.ntmps131
  go_wp2_with fail
  refine (HL.out _ (HD.out.below (bl_alloc (Below.refl _ _) _))).mono ?_
  rintro e w1 ⟨rfl, hw1⟩
  have HB1 : Hid (Below w.heap.size w w1) := by rw [← hw1]; exact bl_alloc (Below.refl _ _) _
  have HQ1 : Hid (w1.heap[w.heap.size]? = some (.cells #[.int .i64 0, .int .i64 0, .int .i64 0] 34 (0, 0))) := by rw [← hw1]; exact alloc_new _ _
  have HD1 : Hid (DevIs w1 b d g) := HD.out.below HB1.out
  clear hw1 HD
  go_wp2_with fail
  go_loopw [4, 11] (fun c4 c11 wr => ∃ i : Nat, i ≤ 8 ∧ c11 = .int .i64 i ∧ Hid (wr.ownsRow w1.heap.size 94 1 c4 i (ivs .u64 (ints (l.take i)))) ∧ Hid (Below w1.heap.size w1 wr)) (fun _ c11 _ => 8 - (intOf c11).toNat)
  case atStart => exact ⟨0, Nat.zero_le _, rfl, by show World.ownsRow _ _ _ _ _ _ _; have := own_nil0 w1 w1.heap.size 94 1; simpa [ints, ivs] using this, Below.refl _ _⟩
  case round =>
    obtain ⟨i, hi, rfl, HR, HB⟩ := hrel
    obtain ⟨A4, c4, e4⟩ := own_slice HR.out
    subst e4
    by_cases hlt : i < 8
    · obtain ⟨x, hx⟩ := some_at (l := l) (i := i) (by rw [HE8.out]; exact hlt)
      have hld := Go.Proofs.YtgnagbbdnlmgeaaGreat.Pm.load_any (HD1.out.below HB.out) (i : Int)
      rw [HLD.out i x hx] at hld
      have HX := Lib.hid hx
      have HLO := Lib.hid hld
      clear hx hld hi
      go_wp2_with fail
      refine HLO.out.mono ?_
      rintro e w3 ⟨rfl, q, rfl⟩
      have HB3 : Hid (Below w1.heap.size w1 (wr.drewN q)) := bl_drewN HB.out q
      have hown0 := own_drewN HR.out q
      generalize wr.drewN q = w3 at *
      have HR3 := Lib.hid hown0
      have HOW := Lib.hid (fun o => own_kp (W' := w3.alloc o) hown0 (fun k _ hk => Below.heap_alloc _ _ k hk))
      clear hown0 HR HB HLO
      go_wp2_with (at_builtin; refine wpList_append_own _ rfl (.tmp 14) (.tmp 18) 22 rfl w1.heap.size 94 i0 (.int .u64 0) 1 8 Tryz.underlying22 hinf hz0 hz1 hz2 rfl (by decide) _ i _ rfl (HOW.out _) ⟨w3.heap.size, 0, none⟩ 1 1 [.int .u64 x] rfl rfl (one_at _ _ _) (by intro u hu; simp at hu; subst hu; rfl) (by unfold maxLen; omega) (by omega) (by have h1 := HB3.out.size; simp; omega) ?_; intro v' w7 hown' hgrow _; (obtain ⟨A7, c7, rfl⟩ := own_slice hown'); (have HO := Lib.hid hown'); (have HG := Lib.hid hgrow); clear hown' hgrow)
      go_roundw
      case rel => exact ⟨i + 1, hlt, by go_num, by show World.ownsRow _ _ _ _ _ _ _; rw [take_next HX.out, ints_append, ivs_append]; exact HO.out, bl_grown (bl_alloc HB3.out _) HG.out (own_lo HR3.out)⟩
      case measure => simp [intOf]; omega
    · obtain rfl : i = 8 := by omega
      have hown := HR.out
      rw [List.take_of_length_le (by rw [HE8.out]; omega)] at hown
      have HDC := Lib.hid (HDE.out (own_rk hown).1 c4)
      clear hown HR hlt hi
      go_wp2_with fail
      refine HDC.out.mono ?_
      rintro e w5 ⟨rfl, hb5⟩
      have HB5 := Lib.hid (bl_then HB.out hb5)
      have HD5 : Hid (DevIs w5 b d g) := HD1.out.below HB5.out
      have HQ5 : Hid (w5.heap[w.heap.size]? = some (.cells #[.int .i64 0, .int .i64 0, .int .i64 0] 34 (0, 0))) := blk_bl HQ1.out HB5.out
      have HA5 : Hid (Below w.heap.size w w5) := bl_then HB1.out HB5.out
      clear hb5 HDC HB HB5 HDE HLT HE8 HLD
      go_wp2_with fail
      go_region_held3 (fun w' => w'.cell? ⟨w5.heap.size, 0, none⟩ = some (.int .i64 n) ∧ w'.cell? ⟨w5.heap.size, 1, none⟩ = some (.int .i64 m) ∧ w'.cell? ⟨w5.heap.size, 2, none⟩ = some (.int .i64 s) ∧ Ge.Bx w5 w')
        (first | assumption | exact Ge.bx_start rfl | exact Ge.bx_keep ‹_› ‹_›)
        (first | (go_at_call 170; refine (HL.out _ (HD5.out.below (Ge.bx_of ‹_›).below)).mono ?_; rintro e w6 ⟨rfl, rfl⟩) | (go_at_call 167; refine (HW.out _).mono ?_; rintro e w7 ⟨rfl, hb⟩))
      rename_i hS
      obtain ⟨m0, m1, m2, hbx⟩ := hS
      have hq7 := blk_bl HQ5.out hbx.below
      have l0 := cell_of hq7 0
      have l1 := cell_of hq7 1
      have l2 := cell_of hq7 2
      have f0 := free_of hq7 0
      have f1 := free_of hq7 1
      have f2 := free_of hq7 2
      have HR7 := Lib.hid hq7
      have HB7 := Lib.hid (bl_then HA5.out hbx.below)
      clear hq7 hb hbx
      go_wp2_with fail
      exact bodyPost_ret (res_ct (u := 3) rfl _ _ w.heap.size 34 #[.int .i64 n, .int .i64 m, .int .i64 s] (0, 0) _ rfl (put3 HR7.out _ _ _) hu rfl (by kernel_rfl)) rfl ⟨rfl, bl_put3 HB7.out (Nat.le_refl _) _ _ _⟩
end Go.Proofs.YtgnagbbdnlmgeaaGreat.Su
end
section
set_option maxHeartbeats 2000000
set_option maxRecDepth 100000
namespace Go.Proofs.YtgnagbbdnlmgeaaGreat.Vo
open Go Go.RowKit
open Ob Ba Oc Pk Dv Su
def lds (d : Dev) (a n : Nat) : List Int := (List.range n).map fun i : Nat => d.load ((a + i : Nat) : Int)
theorem lds_succ (d : Dev) (a n : Nat) : lds d a (n + 1) = lds d a n ++ [d.load ((a + n : Nat) : Int)] := by
  unfold lds
  rw [List.range_succ, List.map_append]
  rfl
theorem lds_length (d : Dev) (a n : Nat) : (lds d a n).length = n := by simp [lds]
theorem line_ {w : World} {b : Nat} {d : Dev} {g : Lay} (h : DevIs w b d g) (a n : Nat) (ha : a ≤ 1000000000) (hn : n ≤ 1000000) :
    Calls Tryz.prog 78 #[.agg #[.pointer (some ⟨b, 0, none⟩)], .int .i64 a, .int .i64 n] w fun e w' => ∃ v, e = .returned v ∧ w'.ownsRow w.heap.size 94 1 v n (ivs .u64 (lds d a n)) ∧ Below w.heap.size w w' := by
  have hu := Tryz.underlying138
  have HD := Lib.hid h
  clear h
  obtain ⟨z, hz⟩ : ∃ z : Nat, z = a + n := ⟨_, rfl⟩
  have HZ := Lib.hid hz
  have hz9 : z ≤ 2000000000 := by omega
  clear hz
  obtain ⟨i0, hinf, hz0, hz1, hz2⟩ := info_parts info_u64
  go_enter Tryz.func78, Tryz.ntmps78
  go_wp2_with fail
  generalize hw1 : w.alloc (.cells #[.pointer (some ⟨b, 0, none⟩)] 138) = w1
  have HB1 : Hid (Below w.heap.size w w1) := by rw [← hw1]; exact bl_alloc (Below.refl _ _) _
  have HQ1 : Hid (w1.heap[w.heap.size]? = some (.cells #[.pointer (some ⟨b, 0, none⟩)] 138 (0, 0))) := by rw [← hw1]; exact alloc_new _ _
  have HD1 : Hid (DevIs w1 b d g) := HD.out.below HB1.out
  clear hw1 HD
  go_loopw [7, 8] (fun c7 c8 wr => ∃ i : Nat, i ≤ n ∧ c8 = .int .i64 (a + i : Nat) ∧ Hid (wr.ownsRow w1.heap.size 94 1 c7 i (ivs .u64 (lds d a i))) ∧ Hid (Below w1.heap.size w1 wr)) (fun _ c8 _ => z - (intOf c8).toNat)
  case atStart => exact ⟨0, Nat.zero_le _, rfl, by show World.ownsRow _ _ _ _ _ _ _; have := own_nil0 w1 w1.heap.size 94 1; simpa [lds, ivs] using this, Below.refl _ _⟩
  case round =>
    obtain ⟨i, hi, rfl, HR, HB⟩ := hrel
    obtain ⟨A7, c7, e7⟩ := own_slice HR.out
    subst e7
    by_cases hlt : i < n
    · obtain ⟨k, hk⟩ : ∃ k, k = a + i := ⟨_, rfl⟩
      rw [← hk]
      have hkz : (k : Int) < (a : Int) + n := by omega
      have hld := Go.Proofs.YtgnagbbdnlmgeaaGreat.Pm.load_any (HD1.out.below HB.out) (k : Int)
      obtain ⟨y, hy⟩ : ∃ y, y = d.load (k : Int) := ⟨_, rfl⟩
      rw [← hy] at hld
      have HY := Lib.hid hy
      have HLO := Lib.hid hld
      have hbq := blk_bl HQ1.out HB.out
      have hbc : wr.cell? ⟨w.heap.size, 0, none⟩ = some (.pointer (some ⟨b, 0, none⟩)) := cell_of hbq 0
      have HK := Lib.hid hk
      clear hy hld hi hbq hk
      go_wp2_with fail
      refine HLO.out.mono ?_
      rintro e w3 ⟨rfl, q, rfl⟩
      have HB3 : Hid (Below w1.heap.size w1 (wr.drewN q)) := bl_drewN HB.out q
      have hown0 := own_drewN HR.out q
      generalize wr.drewN q = w3 at *
      have HR3 := Lib.hid hown0
      have HOW := Lib.hid (fun o => own_kp (W' := w3.alloc o) hown0 (fun k _ hk => Below.heap_alloc _ _ k hk))
      clear hown0 HR HB HLO
      go_wp2_with (at_builtin; refine wpList_append_own _ rfl (.tmp 17) (.tmp 22) 22 rfl w1.heap.size 94 i0 (.int .u64 0) 1 8 Tryz.underlying22 hinf hz0 hz1 hz2 rfl (by decide) _ i _ rfl (HOW.out _) ⟨w3.heap.size, 0, none⟩ 1 1 [.int .u64 y] rfl rfl (one_at _ _ _) (by intro u hu; simp at hu; subst hu; rfl) (by unfold maxLen; omega) (by omega) (by have h1 := HB3.out.size; simp; omega) ?_; intro v' w7 hown' hgrow _; (obtain ⟨A9, c9, rfl⟩ := own_slice hown'); (have HO := Lib.hid hown'); (have HG := Lib.hid hgrow); clear hown' hgrow)
      go_roundw
      case rel => exact ⟨i + 1, hlt, by have := HK.out; go_num, by show World.ownsRow _ _ _ _ _ _ _; rw [lds_succ, ivs_append, ← HK.out, ← HY.out]; exact HO.out, bl_grown (bl_alloc HB3.out _) HG.out (own_lo HR3.out)⟩
      case measure => have := HZ.out; simp [intOf]; omega
    · obtain rfl : i = n := by omega
      rw [← HZ.out]
      have hkz : (a : Int) + i ≤ (z : Int) := by have := HZ.out; omega
      go_wp2_with fail
      go_ret
      exact ⟨_, rfl, own_base HR.out HB1.out.size, bl_then HB1.out HB.out⟩
end Go.Proofs.YtgnagbbdnlmgeaaGreat.Vo
end
section
namespace Go.Proofs.YtgnagbbdnlmgeaaGreat.Vo
open Go Go.RowKit
open Ob Ba Oc Pk Dv Su Mp
structure Ps where
  d : Dev
  k : Nat
  ls : List Nat
def keepW (all : Bool) (d : Dev) (k : Nat) (x : Int) : Bool := !all && decide (d.load k = x)
def addLn (ls : List Nat) (k : Nat) : List Nat := if ls.getLast? = some k then ls else ls ++ [k]
def flushGo : List Nat → Dev → Nat → Dev × Option Nat
  | [], d, k => (d, some k)
  | x :: r, d, k => if d.flushOk x then flushGo r (d.flushed x) k else (d, none)
def putGo (all : Bool) : List Int → Nat → Ps → Dev × Option Nat
  | [], _, s => flushGo s.ls s.d s.k
  | x :: r, a, s => if keepW all s.d a x then putGo all r (a + 1) s else if s.d.storeOk a then putGo all r (a + 1) ⟨s.d.stored a x, s.k + 1, addLn s.ls (a / 8)⟩ else (s.d, none)
theorem stored_steps (d : Dev) (k x : Int) : (d.stored k x).steps ≤ d.steps + 1 := by unfold Dev.stored; split <;> simp [Dev.stepped]
theorem flushed_steps (d : Dev) (k : Int) : (d.flushed k).steps ≤ d.steps + 1 := by unfold Dev.flushed; split <;> simp [Dev.stepped]
theorem stored_no {d : Dev} {k x : Int} (h : d.storeOk k = false) : d.stored k x = d := by unfold Dev.stored; rw [h]; rfl
theorem flushed_no {d : Dev} {k : Int} (h : d.flushOk k = false) : d.flushed k = d := by unfold Dev.flushed; rw [h]; rfl
theorem not_foot {W : World} {b : Nat} {d : Dev} {g : Lay} (h : DevIs W b d g) {q T : Nat} {cs : Array Value} {fr : Nat × Nat} (hq : W.heap[q]? = some (.cells cs T fr))
    (h1 : T ≠ 94) (h2 : T ≠ 146) (h3 : T ≠ 149) : q ∉ g.foot b := by
  intro hm
  simp only [Lay.foot, List.mem_cons, List.mem_append] at hm
  rcases hm with rfl | rfl | hm | hm
  · rw [h.blk] at hq
    simp at hq
    exact h2 hq.2.1.symm
  · rw [h.map] at hq
    simp [obj] at hq
  · obtain ⟨_, ⟨_, e⟩ | ⟨q', o', cs', _, e, hb', _⟩⟩ := h.las
    · rw [e] at hm
      simp at hm
    · rw [e] at hm
      simp at hm
      subst hm
      rw [hb'] at hq
      simp at hq
      exact h1 hq.2.1.symm
  · simp only [Lay.ents, List.mem_flatMap] at hm
    obtain ⟨x, hx, hk⟩ := hm
    obtain ⟨e1, cs', e2, _⟩ := h.ents x hx
    simp at hk
    rcases hk with rfl | rfl
    · rw [e1] at hq
      simp at hq
      exact h3 hq.2.1.symm
    · rw [e2] at hq
      simp at hq
      exact h1 hq.2.1.symm
theorem own_kq {W W' : World} {B T s n : Nat} {v : Value} {xs : List Value} (h : W.ownsRow B T s v n xs) (hk : ∀ k, v.ownBlock = some k → W'.heap[k]? = W.heap[k]?) : W'.ownsRow B T s v n xs := by
  obtain ⟨h1, h2 | ⟨g, cap, cur, hv, hg, hb, r⟩⟩ := h
  · exact ⟨h1, .inl h2⟩
  · exact ⟨h1, .inr ⟨g, cap, cur, hv, hg, (hk g (by rw [hv]; rfl)).trans hb, r⟩⟩
theorem own_blk {W : World} {B T s n k : Nat} {v : Value} {xs : List Value} (h : W.ownsRow B T s v n xs) (hk : v.ownBlock = some k) : ∃ cur, W.heap[k]? = some (.cells cur T (0, 0)) := by
  obtain ⟨h1, ⟨rfl, _⟩ | ⟨g, cap, cur, rfl, hg, hb, r⟩⟩ := h
  · simp [Value.ownBlock] at hk
  · simp [Value.ownBlock] at hk
    subst hk
    exact ⟨_, hb⟩
structure Vs (w wr : World) (b : Nat) (g : Lay) (c : Value) (s : Ps) (g' : Lay) : Prop where
  dev : DevIs wr b s.d g'
  foot : ∀ k ∈ g'.foot b, k ∈ g.foot b ∨ w.heap.size ≤ k
  upd : Upd (g.foot b) w wr
  row : wr.ownsRow w.heap.size 3 1 c s.ls.length (ivs .i64 (ints s.ls))
theorem Vs.apart {w wr : World} {b : Nat} {g g' : Lay} {c : Value} {s : Ps} (h : Vs w wr b g c s g') {k : Nat} (hk : c.ownBlock = some k) : k ∉ g'.foot b := by
  obtain ⟨cur, hc⟩ := own_blk h.row hk
  exact not_foot h.dev hc (by decide) (by decide) (by decide)
theorem Vs.to {w wr w2 : World} {b : Nat} {g g' : Lay} {c : Value} {s : Ps} {d2 : Dev} (h : Vs w wr b g c s g') (k : DevTo wr w2 b g' d2) : ∃ g2, Vs w w2 b g c ⟨d2, s.k, s.ls⟩ g2 := by
  obtain ⟨g2, h1, h2, h3⟩ := k
  refine ⟨g2, h1, fun x hx => ?_, h.upd.trans h3 ?_, own_kq h.row fun k hk => ?_⟩
  · rcases h2 x hx with r | r
    · exact h.foot x r
    · exact .inr (Nat.le_trans h.upd.size r)
  · exact fun k hk => h.foot k hk
  · obtain ⟨cur, hc⟩ := own_blk h.row hk
    exact h3.block k (lt_of hc) (h.apart hk)
theorem Vs.grown {w wr w2 : World} {b : Nat} {g g' : Lay} {c c' : Value} {s : Ps} {ls : List Nat} (h : Vs w wr b g c s g') (o : Obj) (hg : (wr.alloc o).grownBy w2 c.ownBlock) (hr : w2.ownsRow w.heap.size 3 1 c' ls.length (ivs .i64 (ints ls))) (k : Nat) : Vs w w2 b g c' ⟨s.d, k, ls⟩ g' := by
  have hs : wr.heap.size ≤ (wr.alloc o).heap.size := by simp
  refine ⟨h.dev.keep fun q hq => ?_, h.foot, ?_, hr⟩
  · have hq2 := h.dev.lt q hq
    rw [hg.block q (by omega) (fun e => h.apart e.symm hq)]
    exact Below.heap_alloc _ _ q hq2
  · have h2 : Upd (g.foot b) w (wr.alloc o) := h.upd.alloc o
    refine ⟨hg.os.trans h2.os, hg.tape.trans h2.tape, hg.output.trans h2.output, Nat.le_trans h2.size hg.size, fun k hk hn => ?_⟩
    rw [hg.block k (Nat.lt_of_lt_of_le hk h2.size) (fun e => by have := own_lo h.row k e.symm; omega)]
    exact h2.block k hk hn
theorem Vs.data {k : IntKind} {w wr : World} {b : Nat} {g g' : Lay} {c : Value} {s : Ps} {A : Option Addr} {l : List Int} (h : Vs w wr b g c s g') (hr : Rk k w A l) (hA : ∀ a, A = some a → a.block ∉ g.foot b) : Rk k wr A l := by
  intro i x hx
  obtain ⟨a, rfl, h1, h2⟩ := hr i x hx
  refine ⟨a, rfl, Nat.lt_of_lt_of_le h1 h.upd.size, ?_⟩
  rw [World.cell?_of_block (w := w) (a := a.add i) (by rw [add_block]; exact h.upd.block _ h1 (hA a rfl))]
  exact h2
theorem Vs.blk {w wr : World} {b : Nat} {g g' : Lay} {c : Value} {s : Ps} (h : Vs w wr b g c s g') {q T : Nat} {cs : Array Value} {fr : Nat × Nat} (hq : w.heap[q]? = some (.cells cs T fr)) (hn : q ∉ g.foot b) : wr.heap[q]? = some (.cells cs T fr) :=
  (h.upd.block q (lt_of hq) hn).trans hq
theorem putGo_keep {all : Bool} {x : Int} {r : List Int} {a : Nat} {s : Ps} (h : keepW all s.d a x = true) : putGo all (x :: r) a s = putGo all r (a + 1) s := by
  show (if keepW all s.d a x then _ else _) = _
  rw [if_pos h]
theorem putGo_store {all : Bool} {x : Int} {r : List Int} {a : Nat} {s : Ps} (h : keepW all s.d a x = false) (h2 : s.d.storeOk a = true) : putGo all (x :: r) a s = putGo all r (a + 1) ⟨s.d.stored a x, s.k + 1, addLn s.ls (a / 8)⟩ := by
  show (if keepW all s.d a x then _ else _) = _
  rw [if_neg (by rw [h]; decide), if_pos h2]
theorem putGo_fail {all : Bool} {x : Int} {r : List Int} {a : Nat} {s : Ps} (h : keepW all s.d a x = false) (h2 : s.d.storeOk a = false) : putGo all (x :: r) a s = (s.d, none) := by
  show (if keepW all s.d a x then _ else _) = _
  rw [if_neg (by rw [h]; decide), if_neg (by rw [h2]; decide)]
theorem drop_next {α : Type} {l : List α} {i : Nat} {x : α} (h : l[i]? = some x) : l.drop i = x :: l.drop (i + 1) := by
  obtain ⟨hi, hx⟩ := List.getElem?_eq_some_iff.1 h
  rw [List.drop_eq_getElem_cons hi, hx]
end Go.Proofs.YtgnagbbdnlmgeaaGreat.Vo
end
section
set_option maxHeartbeats 2000000
set_option maxRecDepth 100000
namespace Go.Proofs.YtgnagbbdnlmgeaaGreat.Vo
open Go Go.RowKit
open Ob Ba Oc Pk Dv Su Mp
theorem info_i64 : (Tryz.prog.info? 3).map (fun i => (i.zero, i.size, i.bytes)) = some (some (.int .i64 0), 1, 8) := by kernel_rfl
def ecode (R : Dev × Option Nat) : Int := if R.2.isSome then 0 else 14
def PutIs (w : World) (b : Nat) (g : Lay) (R : Dev × Option Nat) (e : Ending) (w' : World) : Prop :=
  e = .returned (.tuple #[.int .i64 (R.2.getD 0 : Nat), .int .i64 (ecode R)]) ∧ DevTo w w' b g R.1
theorem put_ok {w w' : World} {b k : Nat} {g : Lay} {R : Dev × Option Nat} (d : Dev) (h : R = (d, some k)) (hd : DevTo w w' b g d) : PutIs w b g R (.returned (.tuple #[.int .i64 k, .int .i64 0])) w' := by subst h; exact ⟨rfl, hd⟩
theorem put_bad {w w' : World} {b : Nat} {g : Lay} {R : Dev × Option Nat} (d : Dev) (h : R = (d, none)) (hd : DevTo w w' b g d) : PutIs w b g R (.returned (.tuple #[.int .i64 0, .int .i64 14])) w' := by subst h; exact ⟨rfl, hd⟩
structure Lp (w wr : World) (b : Nat) (g : Lay) (all : Bool) (a : Nat) (l : List Int) (d0 : Dev) (R : Dev × Option Nat) (i : Nat) (c : Value) (s : Ps) (g' : Lay) : Prop where
  vs : Vs w wr b g c s g'
  go : putGo all (l.drop i) (a + i) s = R
  steps : s.d.steps ≤ d0.steps + i
  kk : s.k ≤ i
  ll : s.ls.length ≤ i
  lo : ∀ x ∈ s.ls, x ≤ 2000000000
theorem box_to {w w' : World} {b : Nat} {g : Lay} {o : Obj} {d : Dev} {d0 : Dev} (h : DevIs w b d0 g) (k : DevTo (w.alloc o) w' b g d) : DevTo w w' b g d := by
  obtain ⟨g2, h1, h2, h3⟩ := k
  refine ⟨g2, h1, fun x hx => ?_, (Upd.of_below (F := g.foot b) (bl_alloc (Below.refl _ _) o)).trans h3 (fun x hx => .inl hx)⟩
  rcases h2 x hx with r | r
  · exact .inl r
  · right
    simp at r
    omega
theorem vs_to {w wr : World} {b : Nat} {g g' : Lay} {c : Value} {s : Ps} (h : Vs w wr b g c s g') : DevTo w wr b g s.d := ⟨g', h.dev, h.foot, h.upd⟩
theorem lp_next {w wr wr2 : World} {b : Nat} {g : Lay} {all : Bool} {a : Nat} {l : List Int} {d0 : Dev} {R : Dev × Option Nat} {i k : Nat} {c c2 : Value} {s s2 : Ps} {g' g2 : Lay} {x : Int} (h : Lp w wr b g all a l d0 R i c s g') (hx : l[i]? = some x) (hk : k = a + i)
    (hgo : putGo all (x :: l.drop (i + 1)) k s = putGo all (l.drop (i + 1)) (k + 1) s2) (hv : Vs w wr2 b g c2 s2 g2) (h1 : s2.d.steps ≤ s.d.steps + 1) (h2 : s2.k ≤ s.k + 1) (h3 : s2.ls.length ≤ s.ls.length + 1) (h4 : ∀ u ∈ s2.ls, u ≤ 2000000000) : Lp w wr2 b g all a l d0 R (i + 1) c2 s2 g2 := by
  have e1 := h.steps
  have e2 := h.kk
  have e3 := h.ll
  refine ⟨hv, ?_, by omega, by omega, by omega, h4⟩
  rw [show a + (i + 1) = k + 1 from by omega, ← hgo, hk, ← drop_next hx]
  exact h.go
theorem last_get {ls : List Nat} {y : Nat} (h : ls.getLast? = some y) : ls[ls.length - 1]? = some y := by rw [← List.getLast?_eq_getElem?]; exact h
theorem put_all {w : World} {b : Nat} {d : Dev} {g : Lay} (h : DevIs w b d g) {A : Option Addr} {l : List Int} (hr : Rk .u64 w A l) (hA : ∀ p, A = some p → p.block ∉ g.foot b) (a c : Nat) (ha : a ≤ 1000000000) (hn : l.length ≤ 1000000) (hst : d.steps ≤ 1000000000)
    (R : Dev × Option Nat) (hR : putGo true l a ⟨d, 0, []⟩ = R) :
    Calls Tryz.prog 104 #[.agg #[.pointer (some ⟨b, 0, none⟩)], .int .i64 a, .slice A l.length c, .bool true] w fun e w' => PutIs w b g R e w' := by
  have hu := Tryz.underlying138
  have HD := Lib.hid h
  have HRK := Lib.hid hr
  have HA := Lib.hid hA
  have HST := Lib.hid hst
  have HRR := Lib.hid hR
  obtain ⟨n, hnn⟩ : ∃ n, n = l.length := ⟨_, rfl⟩
  rw [← hnn]
  rw [← hnn] at hn
  have HN := Lib.hid hnn
  clear h hr hA hst hR hnn
  obtain ⟨i0, hinf, hz0, hz1, hz2⟩ := info_parts info_i64
  go_enter Tryz.func104, Tryz.ntmps104
  go_wp2_with fail
  generalize hw1 : w.alloc (.cells #[.pointer (some ⟨b, 0, none⟩)] 138) = w1
  have HW1 := Lib.hid hw1
  have HB1 : Hid (Below w.heap.size w w1) := by rw [← hw1]; exact bl_alloc (Below.refl _ _) _
  have HQ1 : Hid (w1.heap[w.heap.size]? = some (.cells #[.pointer (some ⟨b, 0, none⟩)] 138 (0, 0))) := by rw [← hw1]; exact alloc_new _ _
  have HD1 : Hid (DevIs w1 b d g) := HD.out.below HB1.out
  have HNF : Hid (w.heap.size ∉ g.foot b) := fun hm => Nat.lt_irrefl _ (HD.out.lt _ hm)
  have HRK1 : Hid (Rk .u64 w1 A l) := HRK.out.below HB1.out
  clear hw1 HRK
  go_loopw [10, 11, 20] (fun c10 c11 c20 wr => ∃ (i : Nat) (s : Ps) (g' : Lay), i ≤ n ∧ c20 = .int .i64 i ∧ c10 = .int .i64 s.k ∧ Hid (Lp w1 wr b g true a l d R i c11 s g')) (fun _ _ c20 _ => n - (intOf c20).toNat)
  case atStart =>
    refine ⟨0, ⟨d, 0, []⟩, g, Nat.zero_le _, rfl, rfl, ⟨⟨HD1.out, fun k hk => .inl hk, Upd.refl _ _, ?_⟩, by rw [List.drop_zero]; exact HRR.out, Nat.le_refl _, Nat.le_refl _, Nat.le_refl _, by simp⟩⟩
    have := own_nil0 w1 w1.heap.size 3 1
    simpa [ints, ivs] using this
  case round =>
    obtain ⟨i, s, g', hi, rfl, rfl, HL⟩ := hrel
    have HV := Lib.hid HL.out.vs
    obtain ⟨q, hq⟩ : ∃ q, q = s.ls.length := ⟨_, rfl⟩
    have hrow := HV.out.row
    rw [← hq] at hrow
    obtain ⟨A11, c11, e11⟩ := own_slice hrow
    have HLEN := Lib.hid hq
    have hlsq : q ≤ 1000000 := by have := HL.out.ll; omega
    clear hrow hq
    subst e11
    have hbc : wr.cell? ⟨w.heap.size, 0, none⟩ = some (.pointer (some ⟨b, 0, none⟩)) := cell_of (HV.out.blk HQ1.out HNF.out) 0
    by_cases hlt : i < n
    · obtain ⟨x, hx⟩ := some_at (l := l) (i := i) (by rw [← HN.out]; exact hlt)
      obtain ⟨p, rfl, hp1, hp2⟩ := HV.out.data HRK1.out HA.out i x hx
      have HX := Lib.hid hx
      obtain ⟨k, hk⟩ : ∃ k, k = a + i := ⟨_, rfl⟩
      have HK := Lib.hid hk
      clear hx hi hk
      have HKP : Hid (keepW true s.d k x = false) := rfl
      have hst := Go.Proofs.YtgnagbbdnlmgeaaGreat.Pm.store_any HV.out.dev ((a : Int) + i) x (by have := HL.out.steps; have := HST.out; omega)
      rw [show s.d.storeOk ((a : Int) + i) = s.d.storeOk (k : Int) from by rw [HK.out]; rfl, show s.d.stored ((a : Int) + i) x = s.d.stored (k : Int) x from by rw [HK.out]; rfl] at hst
      have HS := Lib.hid hst
      clear hst
      cases hok : s.d.storeOk (k : Int) with
      | false =>
        rw [hok] at HS
        have HNO := Lib.hid (putGo_fail (r := l.drop (i + 1)) HKP.out hok)
        have HSN := Lib.hid (stored_no (x := x) hok)
        clear hok
        go_wp2_with (go_at_call 152; refine HS.out.mono ?_; rintro e w3 ⟨rfl, hto⟩; (have HTO := Lib.hid hto); clear hto)
        go_ret2
        have hgo := HL.out.go
        rw [drop_next HX.out, ← HK.out, HNO.out] at hgo
        obtain ⟨g3, hv3⟩ := HV.out.to HTO.out
        rw [HSN.out] at hv3
        exact put_bad s.d hgo.symm (box_to HD.out (by rw [HW1.out]; exact vs_to hv3))
      | true =>
        rw [hok] at HS
        have HYES := Lib.hid (putGo_store (r := l.drop (i + 1)) HKP.out hok)
        have HSS := Lib.hid (stored_steps s.d (k : Int) x)
        clear hok
        obtain ⟨z, hz⟩ : ∃ z : Nat, z = k / 8 := ⟨_, rfl⟩
        have HZ := Lib.hid hz
        have hz8 : ((a : Int) + i) / 8 = (z : Int) := by have := HK.out; omega
        clear hz
        have hkq : s.k < 1000000 := by have := HL.out.kk; omega
        obtain ⟨kk, hsk⟩ : ∃ kk, kk = s.k := ⟨_, rfl⟩
        rw [← hsk]
        rw [← hsk] at hkq
        have HSK := Lib.hid hsk
        clear hsk
        rcases hls : s.ls.getLast? with _ | y
        · have hnil : s.ls = [] := List.getLast?_eq_none_iff.1 hls
          have HADD : Hid (addLn s.ls (k / 8) = s.ls ++ [z]) := by rw [← HZ.out]; unfold addLn; rw [hls]; rfl
          have hq0 : q = 0 := by rw [HLEN.out, hnil]; rfl
          have e9 : ((q : Int) == 0) = true := by rw [beq_iff_eq]; omega
          have HQ0 := Lib.hid hq0
          clear hnil hq0 hls
          go_wp2_with (first | (go_at_call 152; refine HS.out.mono ?_; rintro e w3 ⟨rfl, hto⟩; (obtain ⟨g3, hv3⟩ := HV.out.to hto); (have hrow3 : w3.ownsRow w1.heap.size 3 1 (.slice A11 q c11) s.ls.length (ivs .i64 (ints s.ls)) := hv3.row); rw [← HLEN.out] at hrow3; (have HV3 := Lib.hid hv3); (have HOW := Lib.hid (fun o => own_kp (W' := w3.alloc o) hrow3 (fun k _ hk => Below.heap_alloc _ _ k hk))); (have HSZ := Lib.hid hv3.upd.size); clear hto hv3 hrow3) |
            (at_builtin; refine wpList_append_own _ rfl (.tmp 60) (.tmp 63) 79 rfl w1.heap.size 3 i0 (.int .i64 0) 1 8 Tryz.underlying79 hinf hz0 hz1 hz2 rfl (by decide) _ q _ rfl (HOW.out _) ⟨w3.heap.size, 0, none⟩ 1 1 [.int .i64 z] rfl rfl (one_at _ _ _) (by intro u hu; simp at hu; subst hu; rfl) (by unfold maxLen; omega) (by omega) (by have := HSZ.out; simp; omega) ?_; intro v' w7 hown' hgrow _; (obtain ⟨A9, c9, rfl⟩ := own_slice hown'); (have HO := Lib.hid hown'); (have HG := Lib.hid hgrow); clear hown' hgrow))
          go_roundw
          case rel =>
            refine ⟨i + 1, ⟨s.d.stored k x, s.k + 1, s.ls ++ [z]⟩, g3, hlt, by go_num, by have := HSK.out; go_num, lp_next HL.out HX.out HK.out (by rw [← HADD.out]; exact HYES.out) (HV3.out.grown _ HG.out ?_ _) HSS.out (Nat.le_refl _) (by simp) ?_⟩
            · have h9 := HO.out
              rw [ints_append, ivs_append, List.length_append, ← HLEN.out]
              exact h9
            · intro u hu
              rcases List.mem_append.1 hu with h9 | h9
              · exact HL.out.lo u h9
              · simp at h9
                have := HZ.out
                have := HK.out
                omega
          case measure => simp [intOf]; omega
        · have hq1 : 1 ≤ q := by
            rw [HLEN.out]
            cases hc : s.ls with
            | nil => rw [hc] at hls; cases hls
            | cons u v => simp
          obtain ⟨r, hr⟩ : ∃ r, q = r + 1 := ⟨q - 1, by omega⟩
          have hyr : s.ls[r]? = some y := by
            have h1 := last_get hls
            rw [← HLEN.out, hr] at h1
            exact h1
          subst hr
          have e9 : (((r + 1 : Nat) : Int) == 0) = false := by rw [beq_eq_false_iff_ne]; omega
          have hrow2 : wr.ownsRow w1.heap.size 3 1 (.slice A11 (r + 1 : Nat) c11) (r + 1) (ivs .i64 (ints s.ls)) := by
            have h := HV.out.row
            rw [← HLEN.out] at h
            exact h
          obtain ⟨g11, rfl, -, -⟩ := own_at hrow2 (ints_get hyr)
          have HYR := Lib.hid hyr
          have HLS := Lib.hid hls
          have hlsr : r + 1 ≤ 1000000 := hlsq
          clear hq1 hyr hls hrow2 hlsq
          by_cases hyz : y = z
          · subst hyz
            have HADD : Hid (addLn s.ls (k / 8) = s.ls) := by show _ = _; rw [← HZ.out]; unfold addLn; rw [HLS.out, if_pos rfl]
            go_wp2_with (first | (go_at_call 152; refine HS.out.mono ?_; rintro e w3 ⟨rfl, hto⟩; (obtain ⟨g3, hv3⟩ := HV.out.to hto); (have hrow3 : w3.ownsRow w1.heap.size 3 1 (.slice (some ⟨g11, 0, none⟩) (r + 1 : Nat) c11) s.ls.length (ivs .i64 (ints s.ls)) := hv3.row); rw [← HLEN.out] at hrow3; (obtain ⟨gg, eg, hcl, -⟩ := own_at hrow3 (ints_get HYR.out)); cases eg; (have HV3 := Lib.hid hv3); clear hto hv3 hrow3))
            go_roundw
            case rel => exact ⟨i + 1, ⟨s.d.stored k x, s.k + 1, s.ls⟩, g3, hlt, by go_num, by have := HSK.out; go_num, lp_next HL.out HX.out HK.out (HYES.out.trans (by rw [HADD.out])) ⟨HV3.out.dev, HV3.out.foot, HV3.out.upd, HV3.out.row⟩ HSS.out (Nat.le_refl _) (Nat.le_succ _) HL.out.lo⟩
            case measure => simp [intOf]; omega
          · have HADD : Hid (addLn s.ls (k / 8) = s.ls ++ [z]) := by show _ = _; rw [← HZ.out]; unfold addLn; rw [HLS.out, if_neg (fun e => hyz (by simpa using e))]
            have e8 : ((y : Int) != (z : Int)) = true := bne_iff_ne.2 (by omega)
            have HYZ := Lib.hid hyz
            clear hyz
            go_wp2_with (first | (go_at_call 152; refine HS.out.mono ?_; rintro e w3 ⟨rfl, hto⟩; (obtain ⟨g3, hv3⟩ := HV.out.to hto); (have hrow3 : w3.ownsRow w1.heap.size 3 1 (.slice (some ⟨g11, 0, none⟩) (r + 1) c11) s.ls.length (ivs .i64 (ints s.ls)) := hv3.row); rw [← HLEN.out] at hrow3; (obtain ⟨gg, eg, hcl, -⟩ := own_at hrow3 (ints_get HYR.out)); cases eg; (have HV3 := Lib.hid hv3); (have HOW := Lib.hid (fun o => own_kp (W' := w3.alloc o) hrow3 (fun k _ hk => Below.heap_alloc _ _ k hk))); (have HSZ := Lib.hid hv3.upd.size); clear hto hv3 hrow3) |
              (at_builtin; refine wpList_append_own _ rfl (.tmp 60) (.tmp 63) 79 rfl w1.heap.size 3 i0 (.int .i64 0) 1 8 Tryz.underlying79 hinf hz0 hz1 hz2 rfl (by decide) _ (r + 1) _ rfl (HOW.out _) ⟨w3.heap.size, 0, none⟩ 1 1 [.int .i64 z] rfl rfl (one_at _ _ _) (by intro u hu; simp at hu; subst hu; rfl) (by unfold maxLen; omega) (by omega) (by have := HSZ.out; simp; omega) ?_; intro v' w7 hown' hgrow _; (obtain ⟨A9, c9, rfl⟩ := own_slice hown'); (have HO := Lib.hid hown'); (have HG := Lib.hid hgrow); clear hown' hgrow))
            go_roundw
            case rel =>
              refine ⟨i + 1, ⟨s.d.stored k x, s.k + 1, s.ls ++ [z]⟩, g3, hlt, by go_num, by have := HSK.out; go_num, lp_next HL.out HX.out HK.out (by rw [← HADD.out]; exact HYES.out) (HV3.out.grown _ HG.out ?_ _) HSS.out (Nat.le_refl _) (by simp) ?_⟩
              · have h9 := HO.out
                rw [ints_append, ivs_append, List.length_append, ← HLEN.out]
                exact h9
              · intro u hu
                rcases List.mem_append.1 hu with h9 | h9
                · exact HL.out.lo u h9
                · simp at h9
                  have := HZ.out
                  have := HK.out
                  omega
            case measure => simp [intOf]; omega
    · obtain rfl : i = n := by omega
      have hgo := HL.out.go
      rw [List.drop_of_length_le (by rw [← HN.out]; exact Nat.le_refl _)] at hgo
      have HGO : Hid (flushGo s.ls s.d s.k = R) := hgo
      have HLO := Lib.hid HL.out.lo
      have HSTP : Hid (s.d.steps ≤ 1001000000) := by
        have := HL.out.steps
        have := HST.out
        show _ ≤ _
        omega
      have HKS := Lib.hid HL.out.kk
      clear hgo hlt hi HL hbc HRR
      generalize hkk : s.k = kk at *
      have HKK := Lib.hid hkk
      clear hkk
      go_wp2_with fail
      generalize wr = wA at *
      go_loopw [68] (fun c68 wr => ∃ (j : Nat) (ds : Dev) (gs : Lay), j ≤ q ∧ c68 = .int .i64 j ∧ Hid (Vs w1 wr b g (.slice A11 q c11) ⟨ds, s.k, s.ls⟩ gs ∧ flushGo (s.ls.drop j) ds s.k = R ∧ ds.steps ≤ 1001000000 + j)) (fun c68 _ => q - (intOf c68).toNat)
      case atStart => exact ⟨0, s.d, g', Nat.zero_le _, rfl, ⟨HV.out.dev, HV.out.foot, HV.out.upd, HV.out.row⟩, by rw [HKK.out]; exact HGO.out, HSTP.out⟩
      case round =>
        obtain ⟨j, ds, gs, hj, rfl, HJ⟩ := hrel
        have hbc : wr.cell? ⟨w.heap.size, 0, none⟩ = some (.pointer (some ⟨b, 0, none⟩)) := cell_of (HJ.out.1.blk HQ1.out HNF.out) 0
        by_cases hjq : j < q
        · obtain ⟨x, hx⟩ := some_at (l := s.ls) (i := j) (by rw [← HLEN.out]; exact hjq)
          have hrow : wr.ownsRow w1.heap.size 3 1 (.slice A11 q c11) q (ivs .i64 (ints s.ls)) := by
            have h := HJ.out.1.row
            rw [← HLEN.out] at h
            exact h
          obtain ⟨p, rfl, hp1, hp2⟩ := (own_rk hrow).1 j x (ints_get hx)
          have HX := Lib.hid hx
          have hfl := Go.Proofs.YtgnagbbdnlmgeaaGreat.Pm.flush_any HJ.out.1.dev (x : Int) (by have := HJ.out.2.2; have h9 := hlsq; show ds.steps < _; omega)
          have HDR := Lib.hid (drop_next hx)
          have HFS := Lib.hid (flushed_steps ds (x : Int))
          clear hx hrow hj
          cases hok : ds.flushOk (x : Int) with
          | false =>
            rw [hok] at hfl
            have HF := Lib.hid hfl
            have HNO : Hid (flushGo (x :: s.ls.drop (j + 1)) ds s.k = (ds, none)) := by show (if ds.flushOk x then _ else _) = _; rw [hok]; rfl
            have HSN := Lib.hid (flushed_no hok)
            clear hok hfl
            go_wp2_with (go_at_call 153; refine HF.out.mono ?_; rintro e w3 ⟨rfl, hto⟩; (have HTO := Lib.hid hto); clear hto)
            go_ret2
            obtain ⟨g3, hv3⟩ := HJ.out.1.to HTO.out
            have hgo := HJ.out.2.1
            rw [HDR.out, HNO.out] at hgo
            have hd3 : DevTo w1 w3 b g ds := by
              have h9 := vs_to hv3
              rw [HSN.out] at h9
              exact h9
            exact put_bad ds hgo.symm (box_to HD.out (by rw [HW1.out]; exact hd3))
          | true =>
            rw [hok] at hfl
            have HF := Lib.hid hfl
            have HYES : Hid (flushGo (x :: s.ls.drop (j + 1)) ds s.k = flushGo (s.ls.drop (j + 1)) (ds.flushed x) s.k) := by show (if ds.flushOk x then _ else _) = _; rw [hok]; rfl
            clear hok hfl
            go_wp2_with (go_at_call 153; refine HF.out.mono ?_; rintro e w3 ⟨rfl, hto⟩; (obtain ⟨g3, hv3⟩ := HJ.out.1.to hto); (have HV3 := Lib.hid hv3); clear hto hv3)
            go_roundw
            case rel =>
              refine ⟨j + 1, ds.flushed x, g3, hjq, by go_num, HV3.out, ?_, ?_⟩
              · rw [← HYES.out, ← HDR.out]
                exact HJ.out.2.1
              · have := HFS.out
                have := HJ.out.2.2
                omega
            case measure => simp [intOf]; omega
        · obtain rfl : j = q := by omega
          go_wp2_with fail
          go_ret2
          have hgo := HJ.out.2.1
          rw [List.drop_of_length_le (by rw [← HLEN.out]; exact Nat.le_refl _)] at hgo
          rw [← HKK.out]
          exact put_ok ds hgo.symm (box_to HD.out (by rw [HW1.out]; exact vs_to HJ.out.1))
end Go.Proofs.YtgnagbbdnlmgeaaGreat.Vo
end
