/- Parts of the proof, one behind the other: Jc, Jd, Je, Qe, Qg, Od, Ra, Qh. -/
import Derived.Test.YtgnagbbdnlmgeaaGreatL09
import Derived.Test.YtgnagbbdnlmgeaaGreatL08
import Derived.Test.YtgnagbbdnlmgeaaGreatL05
import Derived.Test.YtgnagbbdnlmgeaaGreatL03
import Derived.Test.YtgnagbbdnlmgeaaGreatL02
import Derived.RegionTactic
import Derived.BigRegion
import Derived.Test.YtgnagbbdnlmgeaaGreatL06
import Derived.Test.YtgnagbbdnlmgeaaGreatL07
import Derived.Test.YtgnagbbdnlmgeaaGreatL01
import Derived.Test.YtgnagbbdnlmgeaaGreatL04
set_option linter.unusedVariables false
set_option linter.unusedSimpArgs false
set_option linter.unusedSectionVars false
section
set_option maxHeartbeats 2000000
set_option maxRecDepth 100000
namespace Go.Proofs.YtgnagbbdnlmgeaaGreat.R9
open Go Go.RowKit
open Ob Ba Oc Pk Su Cc Cr Rj
structure K9 (l : List Nat) (a b d n : Nat) (L : List Nat) : Prop where
  out : ok9 l = (decide (rOk a b d n) && decide (L = l))
structure O9 (l : List Nat) (t : Bool) : Prop where
  out : ok9 l = t
theorem rdec_ {w : World} {A : Option Addr} {l : List Nat} (h : Rk .u64 w A (ints l)) (c : Nat) (hl : l.length = 8) (hlt : ∀ x ∈ l, x < 18446744073709551616) :
    Calls Tryz.prog 93 #[.slice A 8 c] w fun e w' => D9 l e ∧ Below w.heap.size w w' := by
  have hu := Tryz.underlying74
  obtain ⟨x, hx0⟩ := some_at (l := l) (i := 0) (by omega)
  obtain ⟨y, hy1⟩ := some_at (l := l) (i := 1) (by omega)
  have hxe : l.getD 0 0 = x := by rw [List.getD_eq_getElem?_getD, hx0]; rfl
  have hye : l.getD 1 0 = y := by rw [List.getD_eq_getElem?_getD, hy1]; rfl
  have hx64 := hlt x (List.mem_of_getElem? hx0)
  have hy64 := hlt y (List.mem_of_getElem? hy1)
  obtain ⟨y1, hq1⟩ : ∃ y1, y1 = x / 65536 := ⟨_, rfl⟩
  obtain ⟨y2, hq2⟩ : ∃ y2, y2 = x / 4294967296 := ⟨_, rfl⟩
  obtain ⟨a, ha1⟩ : ∃ a, a = y1 % 65536 := ⟨_, rfl⟩
  obtain ⟨b, hb1⟩ : ∃ b, b = y2 % 65536 := ⟨_, rfl⟩
  obtain ⟨d, hd1⟩ : ∃ d, d = x / 281474976710656 := ⟨_, rfl⟩
  have ha9 : a < 65536 := by omega
  have hb9 : b < 65536 := by omega
  have hd9 : d < 65536 := by omega
  have q1 : (x : Int) / 65536 = (y1 : Int) := by omega
  have q2 : (y1 : Int) % 65536 = (a : Int) := by omega
  have q3 : (x : Int) / 4294967296 = (y2 : Int) := by omega
  have q4 : (y2 : Int) % 65536 = (b : Int) := by omega
  have q5 : (x : Int) / 281474976710656 = (d : Int) := by omega
  have HF : Hid (a = l.getD 0 0 / 65536 % 65536 ∧ b = l.getD 0 0 / 4294967296 % 65536 ∧ d = l.getD 0 0 / 281474976710656 ∧ min (l.getD 1 0) 65535 = min y 65535) := ⟨by rw [hxe, ha1, hq1], by rw [hxe, hb1, hq2], by rw [hxe, hd1], by rw [hye]⟩
  have HOK : Hid (ok9 l = (decide (rOk a b d (min y 65535 : Nat)) && decide (line (pv (f16s [1, a, b, d])) (min y 65535) = l))) := by
    show _ = _
    unfold ok9
    rw [← HF.out.1, ← HF.out.2.1, ← HF.out.2.2.1, hye]
  obtain ⟨mn, hmn⟩ : ∃ mn, mn = min y 65535 := ⟨_, rfl⟩
  rw [← hmn] at HOK HF
  have HMN : Hid ((65535 < y → mn = 65535) ∧ (y ≤ 65535 → mn = y)) := by show _ ∧ _; omega
  clear hmn
  obtain ⟨LN, hLN⟩ : ∃ LN : List Nat, LN = line (pv (f16s [1, a, b, d])) mn := ⟨_, rfl⟩
  rw [← hLN] at HOK
  have HOK' : K9 l a b d mn LN := ⟨HOK.out⟩
  clear HOK
  have HLN := Lib.hid (And.intro hLN (show LN.length = 8 from by rw [hLN]; rfl))
  clear hLN
  have H := Lib.hid h
  obtain ⟨ad, rfl, ha0, ha⟩ := h 0 x (ints_get hx0)
  obtain ⟨_, e2, -, hb⟩ := h 1 y (ints_get hy1)
  cases e2
  have ha : w.cell? ad = some (.int .u64 x) := ha
  have hb : w.cell? ⟨ad.block, ad.off + 1, none⟩ = some (.int .u64 y) := hb
  have HL := Lib.hid hl
  obtain ⟨W1, hW1⟩ : ∃ W1, W1 = w.alloc (.cells #[.int .i64 0, .int .i64 0, .int .i64 0, .int .i64 0] 74) := ⟨_, rfl⟩
  have HW1 := Lib.hid hW1
  have HQ1 : Hid (W1.heap[w.heap.size]? = some (.cells #[.int .i64 0, .int .i64 0, .int .i64 0, .int .i64 0] 74 (0, 0))) := by show _ = _; rw [hW1]; exact alloc_new w _
  have HB1 : Hid (Below w.heap.size w W1) := by show Below _ _ _; rw [hW1]; exact bl_alloc (Below.refl _ _) _
  have HS1 : Hid (W1.heap.size = w.heap.size + 1) := by show _ = _; rw [hW1]; simp
  clear h hl hlt hx0 hy1 hxe hye ha1 hb1 hd1 hq1 hq2 hW1
  go_enter Tryz.func93, Tryz.ntmps93
  go_wp2_with fail
  rw [← HW1.out]
  have hx2 : W1.cell? ad = some (.int .u64 x) := (HB1.out.cell (p := ad) ha0).trans ha
  have hy2 : W1.cell? ⟨ad.block, ad.off + 1, none⟩ = some (.int .u64 y) := (HB1.out.cell (p := ⟨ad.block, ad.off + 1, none⟩) ha0).trans hb
  have had : ad.block < W1.heap.size := Nat.lt_of_lt_of_le ha0 HB1.out.size
  have hz1 : w.heap.size < W1.heap.size := lt_of HQ1.out
  have l0 := cell_of HQ1.out 0
  have l1 := cell_of HQ1.out 1
  have l2 := cell_of HQ1.out 2
  have l3 := cell_of HQ1.out 3
  have f0 := free_of HQ1.out 0
  have f1 := free_of HQ1.out 1
  have f2 := free_of HQ1.out 2
  have f3 := free_of HQ1.out 3
  have HR1 := Lib.hid (H.out.below HB1.out)
  clear ha hb
  go_loop [16, 4] (fun c16 c4 => ∃ (i : Nat) (t : Bool), i ≤ 8 ∧ c16 = .int .i64 i ∧ c4 = .bool t ∧ Hid (t = decide (mxl (l.take i) = 0))) (fun c16 _ => 8 - (intOf c16).toNat)
  case atStart => exact ⟨0, true, Nat.zero_le _, rfl, rfl, rfl⟩
  case round =>
    obtain ⟨i, t, hi, rfl, rfl, HT⟩ := hrel
    by_cases hlt : i < 8
    · obtain ⟨u, hu9⟩ := some_at (l := l) (i := i) (by rw [HL.out]; exact hlt)
      obtain ⟨_, e3, -, hp3⟩ := HR1.out i u (ints_get hu9)
      cases e3
      have HNX : Hid (mxl (l.take (i + 1)) = max (mxl (l.take i)) u) := by show _ = _; rw [take_next hu9, mxl_snoc]
      clear hu9 hx2 hy2 l0 l1 l2 l3 f0 f1 f2 f3
      cases t with
      | false =>
        have hne := of_decide_eq_false HT.out.symm
        have HN2 : Hid (false = decide (mxl (l.take (i + 1)) = 0)) := by show _ = _; rw [HNX.out, decide_eq_false (by omega)]
        clear hne
        go_wp2_with fail
        go_round
        case rel => exact ⟨i + 1, false, by omega, by go_num, rfl, HN2⟩
        case measure => simp [intOf]; omega
      | true =>
        have hze := of_decide_eq_true HT.out.symm
        by_cases hu0 : u = 0
        · have e1 : ((u : Int) == 0) = true := by rw [beq_iff_eq]; omega
          have HN2 : Hid (true = decide (mxl (l.take (i + 1)) = 0)) := by show _ = _; rw [HNX.out, decide_eq_true (by omega)]
          clear hze hu0
          go_wp2_with fail
          go_round
          case rel => exact ⟨i + 1, true, by omega, by go_num, rfl, HN2⟩
          case measure => simp [intOf]; omega
        · have e1 : ((u : Int) == 0) = false := by rw [beq_eq_false_iff_ne]; omega
          have HN2 : Hid (false = decide (mxl (l.take (i + 1)) = 0)) := by show _ = _; rw [HNX.out, decide_eq_false (by omega)]
          clear hze hu0
          go_wp2_with fail
          go_round
          case rel => exact ⟨i + 1, false, by omega, by go_num, rfl, HN2⟩
          case measure => simp [intOf]; omega
    · obtain rfl : i = 8 := by omega
      have ht := HT.out
      rw [List.take_of_length_le (by rw [HL.out]; omega)] at ht
      cases t with
      | true =>
        have HZ := Lib.hid (of_decide_eq_true ht.symm)
        clear ht
        go_wp2_with fail
        exact bodyPost_ret (res_ct (u := 3) rfl _ _ w.heap.size 74 #[.int .i64 0, .int .i64 0, .int .i64 0, .int .i64 0] (0, 0) _ rfl (put4 HQ1.out _ _ _ _) hu rfl (by kernel_rfl)) rfl ⟨d9_zero HZ.out, bl_put4 HB1.out (Nat.le_refl _) _ _ _ _⟩
      | false =>
        have HZ := Lib.hid (of_decide_eq_false ht.symm)
        clear ht
        by_cases hyb : 65535 < y
        · have e1 : (65535 : Int) < (y : Int) := by omega
          have HNO : O9 l false := by
            refine ⟨?_⟩
            rw [HOK'.out, decide_eq_false (fun h => by have := h.2.2.2.2; have := HMN.out.1 hyb; omega)]
            rfl
          clear hyb
          go_wp2_with fail
          exact bodyPost_ret (res_ct (u := 3) rfl _ _ w.heap.size 74 #[.int .i64 0, .int .i64 0, .int .i64 0, .int .i64 0] (0, 0) _ rfl (put4 HQ1.out _ _ _ _) hu rfl (by kernel_rfl)) rfl ⟨d9_no HZ.out HNO.out, bl_put4 HB1.out (Nat.le_refl _) _ _ _ _⟩
        · have e1 : (y : Int) ≤ 65535 := by omega
          have emin : mn = y := HMN.out.2 (by omega)
          rw [emin] at HOK' HF HLN
          clear hyb emin l0 l1 l2 l3 f0 f1 f2 f3
          have hbd : Below W1.heap.size W1 (W1.alloc (.cells #[.int .i64 a, .int .i64 b, .int .i64 d, .int .i64 y] 74)).drew := bl_drew (bl_alloc (Below.refl _ _) _)
          have HBD := Lib.hid hbd
          have HN2 : Hid ((W1.alloc (.cells #[.int .i64 a, .int .i64 b, .int .i64 d, .int .i64 y] 74)).drew.heap[W1.heap.size]? = some (.cells #[.int .i64 a, .int .i64 b, .int .i64 d, .int .i64 y] 74 (0, 0))) := alloc_new W1 _
          clear hbd
          go_wp2_with fail
          go_region
          go_wp2_with fail
          by_cases hok : rOk a b d y
          · have HG := Lib.hid hok
            clear hok
            refine (rmay_yes a b d y HG.out _).mono ?_
            rintro e w3 ⟨rfl, hb3⟩
            have HB3 := Lib.hid (bl_then HBD.out hb3)
            have hn3 := blk_bl HN2.out hb3
            have HN3 := Lib.hid hn3
            have m0 := cell_of hn3 0
            have m1 := cell_of hn3 1
            have m2 := cell_of hn3 2
            have m3 := cell_of hn3 3
            clear hb3 hn3 hx2 hy2 had hz1
            go_wp2_with fail
            refine (renc_ a b d y HG.out _).mono ?_
            rintro e w4 ⟨v4, rfl, hown4, hb4⟩
            obtain ⟨A4, c4, e4⟩ := own_slice hown4
            subst e4
            have HR4 := Lib.hid (own_rk (k := .u64) hown4).1
            have HB4 := Lib.hid (bl_then HB3.out hb4)
            have HR4l := Lib.hid (HR1.out.below HB4.out)
            have HN4 := Lib.hid (blk_bl HN3.out hb4)
            have HQ4 := Lib.hid (blk_bl HQ1.out HB4.out)
            have HBF := Lib.hid (bl_then HB1.out HB4.out)
            have HL6 := Lib.hid HLN.out.2
            rw [← HLN.out.1] at HR4
            clear hown4 hb4 m0 m1 m2 m3
            generalize LN = L6 at *
            go_wp2_with fail
            go_loopw [63] (fun c63 wr => ∃ i : Nat, i ≤ 8 ∧ c63 = .int .i64 i ∧ ∃ q, Hid (wr = w4.drewN q ∧ L6.take i = l.take i)) (fun c63 _ => 8 - (intOf c63).toNat)
            case atStart => exact ⟨0, Nat.zero_le _, rfl, 0, rfl, rfl⟩
            case round =>
              obtain ⟨i, hi, rfl, q, HR⟩ := hrel
              by_cases hlt : i < 8
              · obtain ⟨u, hu9⟩ := some_at (l := L6) (i := i) (by rw [HL6.out]; exact hlt)
                obtain ⟨z, hz9⟩ := some_at (l := l) (i := i) (by rw [HL.out]; exact hlt)
                have hl2 : Rk .u64 wr A4 (ints L6) := by rw [HR.out.1]; exact Iq.rk_drewN HR4.out q
                have hm2 : Rk .u64 wr (some ad) (ints l) := by rw [HR.out.1]; exact Iq.rk_drewN HR4l.out q
                obtain ⟨p3, e3, -, hp3⟩ := hl2 i u (ints_get hu9)
                subst e3
                obtain ⟨_, e4, -, hp4⟩ := hm2 i z (ints_get hz9)
                cases e4
                have HX := Lib.hid (And.intro hu9 hz9)
                clear hu9 hz9 hl2 hm2
                by_cases hxy : u = z
                · have e1 : ((u : Int) != (z : Int)) = false := by simp [hxy]
                  have EX := Lib.hid hxy
                  clear hxy
                  go_wp2_with fail
                  go_quiet (fail)
                  go_wp2_with fail
                  go_roundw
                  case rel => exact ⟨i + 1, by omega, by go_num, q + nq, by show _ ∧ _; rw [HR.out.1]; exact ⟨Pm.drewN_two _ _ _, Iq.take_step HR.out.2 HX.out.1 HX.out.2 EX.out⟩⟩
                  case measure => simp [intOf]; omega
                · have e1 : ((u : Int) != (z : Int)) = true := by rw [bne_iff_ne]; omega
                  have HLE : O9 l false := by
                    refine ⟨?_⟩
                    rw [HOK'.out, decide_eq_true HG.out, decide_eq_false (fun h => hxy (by rw [h] at HX; exact Option.some.inj (HX.out.1.symm.trans HX.out.2)))]
                    rfl
                  clear hxy
                  go_wp2_with fail
                  go_quiet (fail)
                  have hwq : wr.drewN nq = w4.drewN (q + nq) := by rw [HR.out.1]; exact Pm.drewN_two _ _ _
                  rw [hwq]
                  have hq := blk_bl HQ4.out (bl_drewN (Below.refl _ _) (q + nq))
                  have HQ := Lib.hid hq
                  have l0 := cell_of hq 0
                  have l1 := cell_of hq 1
                  have l2 := cell_of hq 2
                  have l3 := cell_of hq 3
                  have f0 := free_of hq 0
                  have f1 := free_of hq 1
                  have f2 := free_of hq 2
                  have f3 := free_of hq 3
                  clear hq hwq
                  go_wp2_with fail
                  exact bodyPost_ret (res_ct (u := 3) rfl _ _ w.heap.size 74 #[.int .i64 0, .int .i64 0, .int .i64 0, .int .i64 0] (0, 0) _ rfl (put4 HQ.out _ _ _ _) hu rfl (by kernel_rfl)) rfl ⟨d9_no HZ.out HLE.out, bl_put4 (bl_drewN HBF.out _) (Nat.le_refl _) _ _ _ _⟩
              · obtain rfl : i = 8 := by omega
                have hle : L6 = l := by
                  have h1 := HR.out.2
                  rw [List.take_of_length_le (by rw [HL6.out]; omega), List.take_of_length_le (by rw [HL.out]; omega)] at h1
                  exact h1
                have HLE : O9 l true := by refine ⟨?_⟩; rw [HOK'.out, decide_eq_true HG.out, decide_eq_true hle]; rfl
                have hwr := HR.out.1
                subst hwr
                have hq := blk_bl HQ4.out (bl_drewN (Below.refl _ _) q)
                have hm := blk_bl HN4.out (bl_drewN (Below.refl _ _) q)
                have HQ := Lib.hid hq
                have l0 := cell_of hq 0
                have l1 := cell_of hq 1
                have l2 := cell_of hq 2
                have l3 := cell_of hq 3
                have f0 := free_of hq 0
                have f1 := free_of hq 1
                have f2 := free_of hq 2
                have f3 := free_of hq 3
                have m0 := cell_of hm 0
                have m1 := cell_of hm 1
                have m2 := cell_of hm 2
                have m3 := cell_of hm 3
                clear hq hm hle
                go_wp2_with fail
                exact bodyPost_ret (res_ct (u := 3) rfl _ _ w.heap.size 74 #[.int .i64 a, .int .i64 b, .int .i64 d, .int .i64 y] (0, 0) _ rfl (put4 HQ.out _ _ _ _) hu rfl (by kernel_rfl)) rfl ⟨d9_yes HZ.out HLE.out HF.out.1 HF.out.2.1 HF.out.2.2.1 HF.out.2.2.2.symm, bl_put4 (bl_drewN HBF.out _) (Nat.le_refl _) _ _ _ _⟩
          · have HNO : O9 l false := by refine ⟨?_⟩; rw [HOK'.out, decide_eq_false hok]; rfl
            have HG := Lib.hid hok
            clear hok
            refine (rmay_no a b d y HG.out _).mono ?_
            rintro e w3 ⟨rfl, hb3⟩
            have HB3 := Lib.hid (bl_then HBD.out hb3)
            have HQ3 := Lib.hid (blk_bl HQ1.out HB3.out)
            have HBF := Lib.hid (bl_then HB1.out HB3.out)
            have l0 := cell_of HQ3.out 0
            have l1 := cell_of HQ3.out 1
            have l2 := cell_of HQ3.out 2
            have l3 := cell_of HQ3.out 3
            have f0 := free_of HQ3.out 0
            have f1 := free_of HQ3.out 1
            have f2 := free_of HQ3.out 2
            have f3 := free_of HQ3.out 3
            clear hb3 hx2 hy2 had hz1
            go_wp2_with fail
            exact bodyPost_ret (res_ct (u := 3) rfl _ _ w.heap.size 74 #[.int .i64 0, .int .i64 0, .int .i64 0, .int .i64 0] (0, 0) _ rfl (put4 HQ3.out _ _ _ _) hu rfl (by kernel_rfl)) rfl ⟨d9_no HZ.out HNO.out, bl_put4 HBF.out (Nat.le_refl _) _ _ _ _⟩
end Go.Proofs.YtgnagbbdnlmgeaaGreat.R9
end
section
set_option maxHeartbeats 2000000
set_option maxRecDepth 100000
namespace Go.Proofs.YtgnagbbdnlmgeaaGreat.Jd
open Go Go.RowKit
open Ob Ba Oc Pk Ge Bm
def bitsOf (x : Nat) : Nat → List Bool
  | 0 => []
  | n + 1 => bitsOf x n ++ [x.testBit n]
theorem bitsOf_length (x : Nat) : ∀ n, (bitsOf x n).length = n
  | 0 => rfl
  | n + 1 => by simp [bitsOf, bitsOf_length x n]
theorem bitsOf_get (x : Nat) : ∀ n i, i < n → (bitsOf x n)[i]? = some (x.testBit i)
  | n + 1, i, h => by
    unfold bitsOf
    by_cases hi : i < n
    · rw [List.getElem?_append_left (by rw [bitsOf_length]; exact hi)]
      exact bitsOf_get x n i hi
    · obtain rfl : i = n := by omega
      rw [List.getElem?_append_right (by rw [bitsOf_length]; exact Nat.le_refl _), bitsOf_length]
      simp
def cnt : List Bool → Nat
  | [] => 0
  | b :: r => (if b then 1 else 0) + cnt r
theorem cnt_append (a b : List Bool) : cnt (a ++ b) = cnt a + cnt b := by
  induction a with
  | nil => simp [cnt]
  | cons x r ih => simp [cnt, ih]; omega
theorem cnt_le (l : List Bool) : cnt l ≤ l.length := by
  induction l with
  | nil => simp [cnt]
  | cons x r ih => cases x <;> simp [cnt] <;> omega
def cb (x : Nat) : Nat → Nat
  | 0 => 0
  | n + 1 => cb x n + x / 2 ^ n % 2
theorem cnt_bits (x : Nat) : ∀ n, cnt (bitsOf x n) = cb x n
  | 0 => rfl
  | n + 1 => by
    have hm : x / 2 ^ n % 2 < 2 := Nat.mod_lt _ (by decide)
    rw [bitsOf, cnt_append, cnt_bits x n, cb, Nat.testBit_eq_decide_div_mod_eq]
    by_cases h : x / 2 ^ n % 2 = 1
    · simp [cnt, h]
    · simp [cnt, h]; omega
theorem cb_add (x n : Nat) : ∀ k, cb x (n + k) = cb x n + cb (x / 2 ^ n) k
  | 0 => rfl
  | k + 1 => by
    rw [← Nat.add_assoc, cb, cb_add x n k, cb, Nat.pow_add, Nat.div_div_eq_div_mul]
    omega
theorem cb_zero : ∀ k, cb 0 k = 0
  | 0 => rfl
  | k + 1 => by rw [cb, cb_zero k]; simp
theorem cb_mod (x : Nat) : ∀ n m, n ≤ m → cb (x % 2 ^ m) n = cb x n
  | 0, m, _ => rfl
  | n + 1, m, h => by
    rw [cb, cb, cb_mod x n m (by omega)]
    have h1 := Nat.testBit_mod_two_pow x m n
    rw [decide_eq_true (show n < m by omega), Bool.true_and, Nat.testBit_eq_decide_div_mod_eq, Nat.testBit_eq_decide_div_mod_eq] at h1
    have h2 : (x % 2 ^ m / 2 ^ n % 2 = 1) ↔ (x / 2 ^ n % 2 = 1) := by simpa using h1
    omega
theorem cb_lt {x n m : Nat} (hx : x < 2 ^ n) (h : n ≤ m) : cb x m = cb x n := by
  obtain ⟨k, rfl⟩ : ∃ k, m = n + k := ⟨m - n, by omega⟩
  rw [cb_add, Nat.div_eq_of_lt hx, cb_zero, Nat.add_zero]
theorem land_step (k a c b d : Nat) (hc : c < 2 ^ k) (hd : d < 2 ^ k) : (2 ^ k * a + c) &&& (2 ^ k * b + d) = 2 ^ k * (a &&& b) + (c &&& d) := by
  apply Nat.eq_of_testBit_eq
  intro i
  have hcd : c &&& d < 2 ^ k := Nat.and_lt_two_pow _ hd
  rw [Nat.testBit_and, Nat.testBit_two_pow_mul_add _ hc, Nat.testBit_two_pow_mul_add _ hd, Nat.testBit_two_pow_mul_add _ hcd]
  split
  · rw [Nat.testBit_and]
  · rw [Nat.testBit_and]
theorem land_low {k a : Nat} (m : Nat) (ha : a < 2 ^ k) : a &&& m = a &&& (m % 2 ^ k) := by
  apply Nat.eq_of_testBit_eq
  intro i
  rw [Nat.testBit_and, Nat.testBit_and, Nat.testBit_mod_two_pow]
  by_cases hi : i < k
  · rw [decide_eq_true hi, Bool.true_and]
  · rw [Nat.testBit_lt_two_pow (Nat.lt_of_lt_of_le ha (Nat.pow_le_pow_right (by decide) (by omega)))]
    rfl
theorem band (a b : Nat) (ha : a < 18446744073709551616) (hb : b < 18446744073709551616) : Go.bits .and .u64 (a : Int) (b : Int) = ((a &&& b : Nat) : Int) := by
  have hk : IntKind.u64.bits = 64 := rfl
  simp only [Go.bits, hk, BitVec.ofInt_natCast, BitVec.toNat_and, BitVec.toNat_ofNat]
  rw [show (2 : Nat) ^ 64 = 18446744073709551616 from rfl, Nat.mod_eq_of_lt ha, Nat.mod_eq_of_lt hb]
  have h : a &&& b < 18446744073709551616 := Nat.lt_of_le_of_lt Nat.and_le_left ha
  exact wu64 _ (by omega) (by omega)
theorem wi64 (n : Int) (h0 : -9223372036854775808 ≤ n) (h1 : n ≤ 9223372036854775807) : IntKind.i64.wrap n = n := by
  simp [IntKind.wrap, IntKind.bits, IntKind.signed]; omega
theorem bandi (a b : Nat) (ha : a < 9223372036854775808) (hb : b < 9223372036854775808) : Go.bits .and .i64 (a : Int) (b : Int) = ((a &&& b : Nat) : Int) := by
  have hk : IntKind.i64.bits = 64 := rfl
  simp only [Go.bits, hk, BitVec.ofInt_natCast, BitVec.toNat_and, BitVec.toNat_ofNat]
  rw [show (2 : Nat) ^ 64 = 18446744073709551616 from rfl, Nat.mod_eq_of_lt (by omega), Nat.mod_eq_of_lt (by omega)]
  have h : a &&& b < 9223372036854775808 := Nat.lt_of_le_of_lt Nat.and_le_left ha
  exact wi64 ((a &&& b : Nat) : Int) (by omega) (by omega)
def f0 (x : Nat) : Nat := (x / 2 &&& 6148914691236517205) + (x &&& 6148914691236517205)
def f1 (x : Nat) : Nat := (x / 4 &&& 3689348814741910323) + (x &&& 3689348814741910323)
def f2 (b : Nat) : Nat :=
  let c := (b / 16 + b) &&& 1085102592571150095
  let d := c + c / 256
  let e := d + d / 65536
  let f := e + e / 4294967296
  f &&& 127
theorem m0_step (a c : Nat) (ha : a < 4096) (hc : c < 4096) : (4096 * a + c) &&& 6148914691236517205 = 4096 * (a &&& 6148914691236517205) + (c &&& 6148914691236517205) := by
  rw [show (6148914691236517205 : Nat) = 2 ^ 12 * 1501199875790165 + 1365 from by decide, show (4096 : Nat) = 2 ^ 12 from rfl, land_step 12 _ _ _ _ hc (by decide), land_low (2 ^ 12 * 1501199875790165 + 1365) (show a < 2 ^ 12 from ha), land_low (2 ^ 12 * 1501199875790165 + 1365) (show c < 2 ^ 12 from hc), land_low 1501199875790165 (show a < 2 ^ 12 from ha)]
theorem m1_step (a c : Nat) (ha : a < 4096) (hc : c < 4096) : (4096 * a + c) &&& 3689348814741910323 = 4096 * (a &&& 3689348814741910323) + (c &&& 3689348814741910323) := by
  rw [show (3689348814741910323 : Nat) = 2 ^ 12 * 900719925474099 + 819 from by decide, show (4096 : Nat) = 2 ^ 12 from rfl, land_step 12 _ _ _ _ hc (by decide), land_low (2 ^ 12 * 900719925474099 + 819) (show a < 2 ^ 12 from ha), land_low (2 ^ 12 * 900719925474099 + 819) (show c < 2 ^ 12 from hc), land_low 900719925474099 (show a < 2 ^ 12 from ha)]
theorem m0_high (t d : Nat) (ht : t < 2) (hd : d < 2048) : (2048 * t + d) &&& 6148914691236517205 = d &&& 6148914691236517205 := by
  rw [land_low (k := 12) _ (show 2048 * t + d < 2 ^ 12 by omega), land_low (k := 12) _ (show d < 2 ^ 12 by omega), show (6148914691236517205 : Nat) % 2 ^ 12 = 2 ^ 11 * 0 + 1365 from by decide, show 2048 * t + d = 2 ^ 11 * t + d from rfl, land_step 11 _ _ _ _ hd (by decide)]
  simp
theorem m1_high (t d : Nat) (ht : t < 4) (hd : d < 1024) : (1024 * t + d) &&& 3689348814741910323 = d &&& 3689348814741910323 := by
  rw [land_low (k := 12) _ (show 1024 * t + d < 2 ^ 12 by omega), land_low (k := 12) _ (show d < 2 ^ 12 by omega), show (3689348814741910323 : Nat) % 2 ^ 12 = 2 ^ 10 * 0 + 819 from by decide, show 1024 * t + d = 2 ^ 10 * t + d from rfl, land_step 10 _ _ _ _ hd (by decide)]
  simp
theorem f0_step (a c : Nat) (ha : a < 4096) (hc : c < 4096) : f0 (4096 * a + c) = 4096 * f0 a + f0 c := by
  have e : (4096 * a + c) / 2 = 4096 * (a / 2) + (2048 * (a % 2) + c / 2) := by omega
  unfold f0
  rw [e, m0_step _ _ (by omega) (by omega), m0_step a c ha hc, m0_high _ _ (by omega) (by omega)]
  omega
theorem f1_step (a c : Nat) (ha : a < 4096) (hc : c < 4096) : f1 (4096 * a + c) = 4096 * f1 a + f1 c := by
  have e : (4096 * a + c) / 4 = 4096 * (a / 4) + (1024 * (a % 4) + c / 4) := by omega
  unfold f1
  rw [e, m1_step _ _ (by omega) (by omega), m1_step a c ha hc, m1_high _ _ (by omega) (by omega)]
  omega
def nb (c : Nat) : Nat := c % 2 + c / 2 % 2 + c / 4 % 2 + c / 8 % 2
theorem low_all : (List.range 4096).all (fun c => decide (f0 c < 4096) && (f1 (f0 c) == nb c + 16 * nb (c / 16) + 256 * nb (c / 256)) && (cb c 12 == nb c + nb (c / 16) + nb (c / 256))) = true := by decide +kernel
theorem low (c : Nat) (hc : c < 4096) : f0 c < 4096 ∧ f1 (f0 c) = nb c + 16 * nb (c / 16) + 256 * nb (c / 256) ∧ cb c 12 = nb c + nb (c / 16) + nb (c / 256) := by
  have := List.all_eq_true.1 low_all c (by simpa using hc)
  simpa [and_assoc] using this
theorem f2_all : (List.range 15625).all (fun q => f2 (q % 5 + 16 * (q / 5 % 5) + 256 * (q / 25 % 5) + 4096 * (q / 125 % 5 + 16 * (q / 625 % 5) + 256 * (q / 3125))) == q % 5 + q / 5 % 5 + q / 25 % 5 + q / 125 % 5 + q / 625 % 5 + q / 3125) = true := by decide +kernel
theorem f2_ (i j k a b c : Nat) (hi : i < 5) (hj : j < 5) (hk : k < 5) (ha : a < 5) (hb : b < 5) (hc : c < 5) : f2 (i + 16 * j + 256 * k + 4096 * (a + 16 * b + 256 * c)) = i + j + k + a + b + c := by
  have h := List.all_eq_true.1 f2_all (i + 5 * j + 25 * k + 125 * a + 625 * b + 3125 * c) (by simp; omega)
  have e0 : (i + 5 * j + 25 * k + 125 * a + 625 * b + 3125 * c) % 5 = i := by omega
  have e1 : (i + 5 * j + 25 * k + 125 * a + 625 * b + 3125 * c) / 5 % 5 = j := by omega
  have e2 : (i + 5 * j + 25 * k + 125 * a + 625 * b + 3125 * c) / 25 % 5 = k := by omega
  have e3 : (i + 5 * j + 25 * k + 125 * a + 625 * b + 3125 * c) / 125 % 5 = a := by omega
  have e4 : (i + 5 * j + 25 * k + 125 * a + 625 * b + 3125 * c) / 625 % 5 = b := by omega
  have e5 : (i + 5 * j + 25 * k + 125 * a + 625 * b + 3125 * c) / 3125 = c := by omega
  rw [e0, e1, e2, e3, e4, e5] at h
  simpa using h
theorem nb_lt (c : Nat) : nb c < 5 := by unfold nb; omega
theorem ocn (x : Nat) (hx : x < 16777216) : f1 (f0 x) < 16777216 ∧ f0 x < 16777216 ∧ f2 (f1 (f0 x)) = cb x 24 := by
  obtain ⟨a, ha⟩ : ∃ a, a = x / 4096 := ⟨_, rfl⟩
  obtain ⟨c, hc⟩ : ∃ c, c = x % 4096 := ⟨_, rfl⟩
  have e : x = 4096 * a + c := by omega
  have ha9 : a < 4096 := by omega
  have hc9 : c < 4096 := by omega
  obtain ⟨p1, p2, p3⟩ := low a ha9
  obtain ⟨q1, q2, q3⟩ := low c hc9
  have h24 : cb x 24 = cb c 12 + cb a 12 := by
    rw [show (24 : Nat) = 12 + 12 from rfl, cb_add, ← cb_mod x 12 12 (Nat.le_refl _), ha, hc]
  have b0 := nb_lt c
  have b1 := nb_lt (c / 16)
  have b2 := nb_lt (c / 256)
  have b3 := nb_lt a
  have b4 := nb_lt (a / 16)
  have b5 := nb_lt (a / 256)
  have h0 : f0 x = 4096 * f0 a + f0 c := by rw [e]; exact f0_step a c ha9 hc9
  have h1 : f1 (f0 x) = 4096 * f1 (f0 a) + f1 (f0 c) := by rw [h0]; exact f1_step _ _ p1 q1
  refine ⟨by omega, by omega, ?_⟩
  rw [h1, p2, q2, h24, p3, q3]
  have h9 := f2_ _ _ _ _ _ _ b0 b1 b2 b3 b4 b5
  rw [Nat.add_comm (4096 * _) _, h9]
  omega
theorem oc_small (x : Nat) (hx : x < 16777216) : oc (x : Int) = (cb x 24 : Nat) := by
  obtain ⟨h1, h0, h2⟩ := ocn x hx
  have a1 : x / 2 &&& 6148914691236517205 ≤ x / 2 := Nat.and_le_left
  have a2 : x &&& 6148914691236517205 ≤ x := Nat.and_le_left
  have eA : IntKind.u64.wrap (Go.bits .and .u64 ((x : Int) / 2) 6148914691236517205 + Go.bits .and .u64 (x : Int) 6148914691236517205) = (f0 x : Int) := by
    have e1 := band (x / 2) 6148914691236517205 (by omega) (by decide)
    have e2 := band x 6148914691236517205 (by omega) (by decide)
    rw [show ((x : Int) / 2) = ((x / 2 : Nat) : Int) from by omega, show (6148914691236517205 : Int) = ((6148914691236517205 : Nat) : Int) from rfl, e1, e2]
    have : f0 x = (x / 2 &&& 6148914691236517205) + (x &&& 6148914691236517205) := rfl
    rw [wu64 _ (by omega) (by omega)]
    omega
  have eB : ∀ y : Nat, y < 16777216 → IntKind.u64.wrap (Go.bits .and .u64 ((y : Int) / 4) 3689348814741910323 + Go.bits .and .u64 (y : Int) 3689348814741910323) = (f1 y : Int) := by
    intro y hy
    have a1 : y / 4 &&& 3689348814741910323 ≤ y / 4 := Nat.and_le_left
    have a2 : y &&& 3689348814741910323 ≤ y := Nat.and_le_left
    have e1 := band (y / 4) 3689348814741910323 (by omega) (by decide)
    have e2 := band y 3689348814741910323 (by omega) (by decide)
    rw [show ((y : Int) / 4) = ((y / 4 : Nat) : Int) from by omega, show (3689348814741910323 : Int) = ((3689348814741910323 : Nat) : Int) from rfl, e1, e2]
    have : f1 y = (y / 4 &&& 3689348814741910323) + (y &&& 3689348814741910323) := rfl
    rw [wu64 _ (by omega) (by omega)]
    omega
  unfold oc
  simp only
  rw [eA, eB _ h0, ← h2]
  generalize f1 (f0 x) = b at *
  unfold f2
  simp only
  have hc9 : (b / 16 + b) &&& 1085102592571150095 ≤ b / 16 + b := Nat.and_le_left
  have e1 : IntKind.u64.wrap ((b : Int) / 16 + b) = ((b / 16 + b : Nat) : Int) := by
    rw [wu64 _ (by omega) (by omega)]
    omega
  rw [e1, show (1085102592571150095 : Int) = ((1085102592571150095 : Nat) : Int) from rfl, band _ _ (by omega) (by decide)]
  generalize (b / 16 + b) &&& 1085102592571150095 = c at *
  have e2 : IntKind.u64.wrap ((c : Int) + c / 256) = ((c + c / 256 : Nat) : Int) := by
    rw [wu64 _ (by omega) (by omega)]
    omega
  rw [e2]
  have hd9 : c + c / 256 ≤ 100000000 := by omega
  generalize c + c / 256 = d at *
  have e3 : IntKind.u64.wrap ((d : Int) + d / 65536) = ((d + d / 65536 : Nat) : Int) := by
    rw [wu64 _ (by omega) (by omega)]
    omega
  rw [e3]
  have he9 : d + d / 65536 ≤ 200000000 := by omega
  generalize d + d / 65536 = q at *
  have e4 : IntKind.u64.wrap ((q : Int) + q / 4294967296) = ((q + q / 4294967296 : Nat) : Int) := by
    rw [wu64 _ (by omega) (by omega)]
    omega
  rw [e4, w64 _ (by omega) (by omega), show (127 : Int) = ((127 : Nat) : Int) from rfl, bandi _ _ (by omega) (by decide)]
theorem count_ {W : World} {B b n : Nat} {x : Nat} {A : Option Addr} {c : Nat} (h : Bm W B b n [x] A c) (hx : x < 2 ^ n) (hn : n ≤ 24) :
    Calls Tryz.prog 55 #[.pointer (some ⟨b, 0, none⟩)] W fun e w' => e = .returned (.int .i64 (cnt (bitsOf x n) : Nat)) ∧ w' = W := by
  have hu := Tryz.underlying182
  have k0 := cell_of h.box 0
  have k1 := cell_of h.box 1
  have hx24 : x < 16777216 := Nat.lt_of_lt_of_le hx (show 2 ^ n ≤ 2 ^ 24 from Nat.pow_le_pow_right (by decide) hn)
  have hoc := oc_small x hx24
  rw [cb_lt hx hn, ← cnt_bits] at hoc
  have hcl := cnt_le (bitsOf x n)
  rw [bitsOf_length] at hcl
  obtain ⟨a, rfl, ha0, ha⟩ := (own_rk (k := .u64) h.row).1 0 x rfl
  have ha : W.cell? a = some (.int .u64 x) := ha
  have HN : Hid (∀ w, Calls Tryz.prog 112 #[.int .u64 x] w fun e w' => e = .returned (.int .i64 (cnt (bitsOf x n) : Nat)) ∧ w = w') := fun w => by
    rw [← hoc]
    exact ones64 _ w
  generalize cnt (bitsOf x n) = r at *
  clear h hx hx24 hoc
  go_enter Tryz.func55, Tryz.ntmps55
  go_wp2_with fail
  go_loop [11, 3] (fun c11 c3 => ∃ i : Nat, i ≤ 1 ∧ c11 = .int .i64 i ∧ c3 = .int .i64 ((if i = 0 then 0 else r : Nat) : Int)) (fun c11 _ => 1 - (intOf c11).toNat)
  case atStart => exact ⟨0, by omega, rfl, rfl⟩
  case round =>
    obtain ⟨i, hi, rfl, rfl⟩ := hrel
    match i, hi with
    | 0, _ =>
      rw [if_pos rfl]
      go_wp2_with (go_at_call 112; refine (HN.out _).mono ?_; rintro e w1 ⟨rfl, rfl⟩)
      go_round
      case rel => exact ⟨1, by omega, by go_num, by rw [if_neg (by decide)]⟩
      case measure => simp [intOf]
    | 1, _ =>
      rw [if_neg (by decide)]
      go_wp2_with fail
      go_ret
      exact ⟨rfl, rfl⟩
theorem free_ {W : World} {B b n : Nat} {x : Nat} {A : Option Addr} {c : Nat} (h : Bm W B b n [x] A c) (hx : x < 2 ^ n) (hn : n ≤ 24) :
    Calls Tryz.prog 97 #[.pointer (some ⟨b, 0, none⟩)] W fun e w' => e = .returned (.int .i64 ((n : Int) - (cnt (bitsOf x n) : Nat))) ∧ Below W.heap.size W w' := by
  have hu := Tryz.underlying182
  have k0 := cell_of h.box 0
  have HC : Hid (∀ j, Calls Tryz.prog 55 #[.pointer (some ⟨b, 0, none⟩)] (W.drewN j) fun e w' => e = .returned (.int .i64 (cnt (bitsOf x n) : Nat)) ∧ w' = W.drewN j) := fun j => count_ (h.keep (bl_drewN (Below.refl _ _) j)) hx hn
  have hcl := cnt_le (bitsOf x n)
  rw [bitsOf_length] at hcl
  generalize cnt (bitsOf x n) = r at *
  clear h hx
  go_enter Tryz.func97, Tryz.ntmps97
  go_wp2_with fail
  go_region_held3 (fun w' => w'.cell? ⟨b, 0, none⟩ = some (.int .i64 n) ∧ Bk W w')
    (first | assumption | exact ⟨k0, ⟨1, rfl⟩⟩ | exact ⟨k0, ⟨_, rfl⟩⟩)
    ((go_at_call 55; refine (HC.out 1).mono ?_; rintro e w1 ⟨rfl, rfl⟩))
  all_goals
    go_wp2
    go_ret
    refine ⟨ret_int ?_, bl_drewN (Below.refl _ _) _⟩
    first | rfl | exact wi64 _ (by omega) (by omega)
end Go.Proofs.YtgnagbbdnlmgeaaGreat.Jd
end
section
set_option maxHeartbeats 2000000
set_option maxRecDepth 100000
namespace Go.Proofs.YtgnagbbdnlmgeaaGreat.Je
open Go Go.RowKit
open Ob Ba Oc Pk Su Cc Cr Ge In Iq Lo
theorem two_new (w : World) (o p : Obj) : ((w.alloc o).alloc p).heap[w.heap.size + 1]? = some p := by
  have := alloc_new (w.alloc o) p
  rw [World.size_alloc] at this
  exact this
theorem ints_dt (ws : List Nat) (k j : Nat) : ((ints ws).drop k).take j = ints ((ws.drop k).take j) := by
  simp [ints, List.map_drop, List.map_take]
theorem r15inode_get {w : World} {a : Addr} {ws : List Nat} {T c8 : Nat} (h : Rk .u64 w (some a) (ints ws)) (hT : ws.length = T) (hc : T ≤ c8) (hlt : ∀ x ∈ ws, x < 18446744073709551616) (n m s p2 p3 p4 p5 i : Int) (hi : 0 ≤ i ∧ i < m) (k : Nat) (hk : (k : Int) = 16 + 8 * i) (hk8 : k + 8 ≤ T) (hT9 : T ≤ 1000000000) :
    Calls Tryz.prog 20 #[.agg #[.int .i64 n, .int .i64 m, .int .i64 s, .int .i64 16, .int .i64 p2, .int .i64 p3, .int .i64 p4, .int .i64 p5, .slice (some a) T c8], .int .i64 i] w fun e w' => R6 ((ws.drop k).take 8) e ∧ Below w.heap.size w w' := by
  have hu := Tryz.underlying30
  have hu2 := Tryz.underlying47
  have hsub : Rk .u64 w (some (a.add k)) (ints ((ws.drop k).take 8)) := by rw [← ints_dt]; exact (h.drop k).take 8
  have hl8 : ((ws.drop k).take 8).length = 8 := by simp; omega
  have HD : Hid (∀ {W : World}, Below w.heap.size w W → ∀ c, Calls Tryz.prog 79 #[.slice (some (a.add k)) 8 c] W fun e w' => R6 ((ws.drop k).take 8) e ∧ Below W.heap.size W w') := by
    intro W hb c
    exact rdec_ (hsub.below hb) c hl8 (fun x hx => hlt x (List.mem_of_mem_drop (List.mem_of_mem_take hx)))
  generalize (ws.drop k).take 8 = l8 at *
  unfold R6 at HD
  unfold R6
  generalize (n6 l8).1 = x at *
  generalize (n6 l8).2.1 = y at *
  generalize (n6 l8).2.2 = z at *
  generalize ok6 l8 = t at *
  have hk1 : (16 : Int) + 8 * i = (k : Int) := by omega
  have hi9 : i ≤ 1000000000 := by omega
  clear hk
  obtain ⟨W2, hW2⟩ : ∃ W2, W2 = (w.alloc (.cells #[.int .i64 n, .int .i64 m, .int .i64 s, .int .i64 16, .int .i64 p2, .int .i64 p3, .int .i64 p4, .int .i64 p5, .slice (some a) T c8] 30)).alloc (.cells #[.int .i64 0, .int .i64 0, .int .i64 0] 47) := ⟨_, rfl⟩
  have hv := alloc_old (alloc_new w (.cells #[.int .i64 n, .int .i64 m, .int .i64 s, .int .i64 16, .int .i64 p2, .int .i64 p3, .int .i64 p4, .int .i64 p5, .slice (some a) T c8] 30)) (.cells #[.int .i64 0, .int .i64 0, .int .i64 0] 47)
  have hr := alloc_new (w.alloc (.cells #[.int .i64 n, .int .i64 m, .int .i64 s, .int .i64 16, .int .i64 p2, .int .i64 p3, .int .i64 p4, .int .i64 p5, .slice (some a) T c8] 30)) (.cells #[.int .i64 0, .int .i64 0, .int .i64 0] 47)
  rw [World.size_alloc] at hr
  have hb2 : Below w.heap.size w W2 := by rw [hW2]; exact bl_alloc (bl_alloc (Below.refl _ _) _) _
  rw [← hW2] at hv hr
  have HW2 := Lib.hid hW2
  have HR2 := Lib.hid hr
  have HB2 := Lib.hid hb2
  obtain ⟨hi0, him⟩ := hi
  have m1 := cell_of hv 1
  have m3 := cell_of hv 3
  have m8 := cell_of hv 8
  clear h hsub hl8 hW2 hv hr hb2 hlt hT
  go_enter Tryz.func20, Tryz.ntmps20
  go_wp2_with fail
  rw [← HW2.out]
  go_wp2_with (go_at_call 79; refine (HD.out HB2.out _).mono ?_; rintro e w3 ⟨rfl, hb⟩; (have hq3 := blk_bl HR2.out hb); (have HB3 := Lib.hid (bl_then HB2.out hb)); (have l0 := cell_of hq3 0); (have l1 := cell_of hq3 1); (have l2 := cell_of hq3 2); (have f0 := free_of hq3 0); (have f1 := free_of hq3 1); (have f2 := free_of hq3 2); (have HQ3 := Lib.hid hq3); clear hb hq3)
  exact bodyPost_ret (res_ct (u := 5) rfl _ _ (w.heap.size + 1) 47 #[.int .i64 x, .int .i64 y, .int .i64 z] (0, 0) _ rfl (put3 HQ3.out _ _ _) hu2 rfl (by kernel_rfl)) rfl ⟨rfl, bl_put3 HB3.out (by omega) _ _ _⟩
theorem r15slot_get {w : World} {a : Addr} {ws : List Nat} {T c8 : Nat} (h : Rk .u64 w (some a) (ints ws)) (hT : ws.length = T) (hc : T ≤ c8) (hlt : ∀ x ∈ ws, x < 18446744073709551616) (n m s p2 p3 p4 p5 i : Int) (hi : 0 ≤ i ∧ i < n) (k : Nat) (hk : (k : Int) = p2 + i) (hkT : k < T) (hT9 : T ≤ 1000000000) (hp2 : 0 ≤ p2) (x : Nat) (hx : ws[k]? = some x) :
    Calls Tryz.prog 22 #[.agg #[.int .i64 n, .int .i64 m, .int .i64 s, .int .i64 16, .int .i64 p2, .int .i64 p3, .int .i64 p4, .int .i64 p5, .slice (some a) T c8], .int .i64 i] w fun e w' => R7 x e ∧ Below w.heap.size w w' := by
  have hu := Tryz.underlying30
  have hu2 := Tryz.underlying54
  have HD : Hid (∀ W, Calls Tryz.prog 83 #[.int .u64 x] W fun e w' => R7 x e ∧ Below W.heap.size W w') := fun W => rdecode_ x (hlt x (List.mem_of_getElem? hx)) W
  unfold R7 at HD
  unfold R7
  obtain ⟨x0, hx0⟩ : ∃ y, y = (s7 x).1 := ⟨_, rfl⟩
  obtain ⟨x1, hx1⟩ : ∃ y, y = (s7 x).2.1 := ⟨_, rfl⟩
  obtain ⟨x2, hx2⟩ : ∃ y, y = (s7 x).2.2 := ⟨_, rfl⟩
  obtain ⟨t, ht⟩ : ∃ y, y = ok7 x := ⟨_, rfl⟩
  rw [← hx0, ← hx1, ← hx2, ← ht] at HD
  rw [← hx0, ← hx1, ← hx2, ← ht]
  obtain ⟨_, e0, ha0, ha⟩ := h k x (ints_get hx)
  cases e0
  have hk1 : p2 + i = (k : Int) := by omega
  have hi9 : i ≤ 1000000000 := by omega
  have hp9 : p2 ≤ 1000000000 := by omega
  obtain ⟨W2, hW2⟩ : ∃ W2, W2 = (w.alloc (.cells #[.int .i64 n, .int .i64 m, .int .i64 s, .int .i64 16, .int .i64 p2, .int .i64 p3, .int .i64 p4, .int .i64 p5, .slice (some a) T c8] 30)).alloc (.cells #[.int .i64 0, .int .i64 0, .int .i64 0] 54) := ⟨_, rfl⟩
  have hv := alloc_old (alloc_new w (.cells #[.int .i64 n, .int .i64 m, .int .i64 s, .int .i64 16, .int .i64 p2, .int .i64 p3, .int .i64 p4, .int .i64 p5, .slice (some a) T c8] 30)) (.cells #[.int .i64 0, .int .i64 0, .int .i64 0] 54)
  have hr := alloc_new (w.alloc (.cells #[.int .i64 n, .int .i64 m, .int .i64 s, .int .i64 16, .int .i64 p2, .int .i64 p3, .int .i64 p4, .int .i64 p5, .slice (some a) T c8] 30)) (.cells #[.int .i64 0, .int .i64 0, .int .i64 0] 54)
  rw [World.size_alloc] at hr
  have hb2 : Below w.heap.size w W2 := by rw [hW2]; exact bl_alloc (bl_alloc (Below.refl _ _) _) _
  rw [← hW2] at hv hr
  have HW2 := Lib.hid hW2
  have HR2 := Lib.hid hr
  have HB2 := Lib.hid hb2
  obtain ⟨hi0, him⟩ := hi
  have m0 := cell_of hv 0
  have m4 := cell_of hv 4
  have m8 := cell_of hv 8
  have ha2 : W2.cell? (a.add k) = some (.int .u64 x) := (hb2.cell (p := a.add k) (by rw [add_block]; exact ha0)).trans ha
  rw [hW2] at ha2
  clear h hW2 hv hr hb2 hlt hT hx ha hx0 hx1 hx2 ht hk
  go_enter Tryz.func22, Tryz.ntmps22
  go_wp2_with fail
  rw [← HW2.out]
  go_wp2_with (go_at_call 83; refine (HD.out _).mono ?_; rintro e w3 ⟨rfl, hb⟩; (have hq3 := blk_bl HR2.out hb); (have HB3 := Lib.hid (bl_then HB2.out hb)); (have l0 := cell_of hq3 0); (have l1 := cell_of hq3 1); (have l2 := cell_of hq3 2); (have f0 := free_of hq3 0); (have f1 := free_of hq3 1); (have f2 := free_of hq3 2); (have HQ3 := Lib.hid hq3); clear hb hq3)
  exact bodyPost_ret (res_ct (u := 5) rfl _ _ (w.heap.size + 1) 54 #[.int .i64 x0, .int .i64 x1, .int .i64 x2] (0, 0) _ rfl (put3 HQ3.out _ _ _) hu2 rfl (by kernel_rfl)) rfl ⟨rfl, bl_put3 HB3.out (by omega) _ _ _⟩
theorem r15slot_out {w : World} {A : Option Addr} {T c8 : Nat} (n m s p2 p3 p4 p5 i : Int) (hi : i < 0 ∨ n ≤ i) :
    Calls Tryz.prog 22 #[.agg #[.int .i64 n, .int .i64 m, .int .i64 s, .int .i64 16, .int .i64 p2, .int .i64 p3, .int .i64 p4, .int .i64 p5, .slice A T c8], .int .i64 i] w fun e w' => e = .returned (.tuple #[.agg #[.int .i64 0, .int .i64 0, .int .i64 0], .bool false]) ∧ Below w.heap.size w w' := by
  have hu := Tryz.underlying30
  have hu2 := Tryz.underlying54
  rcases hi with hi | hi
  · go_enter Tryz.func22, Tryz.ntmps22
    go_wp2_with fail
    exact bodyPost_ret (res_ct (u := 5) rfl _ _ (w.heap.size + 1) 54 #[.int .i64 0, .int .i64 0, .int .i64 0] (0, 0) _ rfl (two_new _ _ _) hu2 rfl (by kernel_rfl)) rfl ⟨rfl, bl_alloc (bl_alloc (Below.refl _ _) _) _⟩
  · by_cases h0 : i < 0
    all_goals
      go_enter Tryz.func22, Tryz.ntmps22
      go_wp2_with fail
      exact bodyPost_ret (res_ct (u := 5) rfl _ _ (w.heap.size + 1) 54 #[.int .i64 0, .int .i64 0, .int .i64 0] (0, 0) _ rfl (two_new _ _ _) hu2 rfl (by kernel_rfl)) rfl ⟨rfl, bl_alloc (bl_alloc (Below.refl _ _) _) _⟩
end Go.Proofs.YtgnagbbdnlmgeaaGreat.Je
end
section
set_option maxHeartbeats 1000000
namespace Go.Proofs.YtgnagbbdnlmgeaaGreat.Pm
open Go Go.RowKit
open Go.ChangeMaps (setBlock)
open Ob Mp Dv Wl
set_option maxRecDepth 100000 in
theorem same_words {w : World} {A B : Option Addr} {l m : List Int} (h : Rd w A l) (k : Rd w B m) (c1 c2 : Nat) (hl : l.length ≤ 9223372036854775807) (hm : m.length ≤ 9223372036854775807) :
    Calls Tryz.prog 17 #[.slice A l.length c1, .slice B m.length c2] w fun e w' => e = .returned (.bool (decide (l = m))) ∧ ∃ n, w' = w.drewN n := by
  have H := Lib.hid h
  have K := Lib.hid k
  clear h k
  by_cases he : l.length = m.length
  · obtain ⟨n, hn⟩ : ∃ n, n = l.length := ⟨_, rfl⟩
    rw [← he, ← hn]
    rw [← hn] at hl
    have HN : Hid (n = l.length ∧ n = m.length) := ⟨hn, by rw [hn, he]⟩
    clear hn he hm
    go_enter Tryz.func17, Tryz.ntmps17
    go_wp2_with fail
    go_loopw [13] (fun c13 wr => ∃ i : Nat, i ≤ n ∧ c13 = .int .i64 i ∧ ∃ q, Hid (wr = w.drewN q ∧ l.take i = m.take i)) (fun c13 _ => n - (intOf c13).toNat)
    case atStart => exact ⟨0, Nat.zero_le _, rfl, 0, rfl, rfl⟩
    case round =>
      obtain ⟨i, hi, rfl, q, HR⟩ := hrel
      by_cases hlt : i < n
      · obtain ⟨x, hx⟩ : ∃ x, l[i]? = some x := ⟨_, List.getElem?_eq_getElem (by rw [← HN.out.1]; exact hlt)⟩
        obtain ⟨y, hy⟩ : ∃ y, m[i]? = some y := ⟨_, List.getElem?_eq_getElem (by rw [← HN.out.2]; exact hlt)⟩
        have hl2 : Rd wr A l := by rw [HR.out.1]; exact H.out.drewN q
        have hm2 : Rd wr B m := by rw [HR.out.1]; exact K.out.drewN q
        obtain ⟨a, rfl, -, ha⟩ := hl2 i x hx
        obtain ⟨b, rfl, -, hb⟩ := hm2 i y hy
        have HX := Lib.hid (And.intro hx hy)
        clear hx hy hl2 hm2
        by_cases hxy : x = y
        · have e1 : (x != y) = false := by simp [hxy]
          have EX := Lib.hid hxy
          clear hxy
          go_wp2
          go_quiet (fail)
          go_wp2
          go_roundw
          case rel => exact ⟨i + 1, by omega, by go_num, q + nq, by show _ ∧ _; rw [HR.out.1]; exact ⟨drewN_two _ _ _, eq_step HX.out.1 HX.out.2 HR.out.2 EX.out⟩⟩
          case measure => simp [intOf]; omega
        · have e1 : (x != y) = true := bne_iff_ne.2 hxy
          have EX := Lib.hid hxy
          clear hxy
          go_wp2
          go_quiet (fail)
          go_wp2
          go_ret
          have hd : decide (l = m) = false := by
            apply decide_eq_false
            rintro rfl
            have := HX.out.1.symm.trans HX.out.2
            simp at this
            exact EX.out this
          rw [hd]
          exact ⟨rfl, _, by rw [HR.out.1]; exact drewN_two _ _ _⟩
      · obtain rfl : i = n := by omega
        go_wp2
        go_ret
        have hd : decide (l = m) = true := by
          apply decide_eq_true
          have h1 := HR.out.2
          rw [List.take_of_length_le (by rw [← HN.out.1]; omega), List.take_of_length_le (by rw [← HN.out.2]; omega)] at h1
          exact h1
        rw [hd]
        exact ⟨rfl, q, HR.out.1⟩
  · have hd : decide (l = m) = false := by
      apply decide_eq_false
      intro e
      exact he (by rw [e])
    rw [hd]
    have e1 : ((l.length : Int) != (m.length : Int)) = true := by rw [bne_iff_ne]; omega
    clear hd he
    generalize l.length = x at *
    generalize m.length = y at *
    go_enter Tryz.func17, Tryz.ntmps17
    go_wp2
    go_ret
    exact ⟨rfl, 0, rfl⟩
end Go.Proofs.YtgnagbbdnlmgeaaGreat.Pm
end
section
set_option maxHeartbeats 2000000
set_option maxRecDepth 100000
namespace Go.Proofs.YtgnagbbdnlmgeaaGreat.Rf
open Go Go.RowKit
open Ob Ba Ko Ge Oc Pk Su
def vcells (n m s : Int) (W : Value) : Array Value := #[.int .i64 n, .int .i64 m, .int .i64 s, .int .i64 16, .int .i64 (16 + 8 * m), .int .i64 (bmAt n m), .int .i64 (bkAt n m), .int .i64 (tot n m s), W]
theorem put9 {W : World} {k T : Nat} {x0 x1 x2 x3 x4 x5 x6 x7 x8 : Value} (h : W.heap[k]? = some (.cells #[x0, x1, x2, x3, x4, x5, x6, x7, x8] T (0, 0))) (y0 y1 y2 y3 y4 y5 y6 y7 y8 : Value) :
    (((((((((W.setCell ⟨k, 0, none⟩ y0).setCell ⟨k, 1, none⟩ y1).setCell ⟨k, 2, none⟩ y2).setCell ⟨k, 3, none⟩ y3).setCell ⟨k, 4, none⟩ y4).setCell ⟨k, 5, none⟩ y5).setCell ⟨k, 6, none⟩ y6).setCell ⟨k, 7, none⟩ y7).setCell ⟨k, 8, none⟩ y8).heap[k]? = some (.cells #[y0, y1, y2, y3, y4, y5, y6, y7, y8] T (0, 0)) := by
  have h0 : (W.setCell ⟨k, 0, none⟩ y0).heap[k]? = some (.cells #[y0, x1, x2, x3, x4, x5, x6, x7, x8] T (0, 0)) := set_same h 0 y0
  have h1 : ((W.setCell ⟨k, 0, none⟩ y0).setCell ⟨k, 1, none⟩ y1).heap[k]? = some (.cells #[y0, y1, x2, x3, x4, x5, x6, x7, x8] T (0, 0)) := set_same h0 1 y1
  have h2 : (((W.setCell ⟨k, 0, none⟩ y0).setCell ⟨k, 1, none⟩ y1).setCell ⟨k, 2, none⟩ y2).heap[k]? = some (.cells #[y0, y1, y2, x3, x4, x5, x6, x7, x8] T (0, 0)) := set_same h1 2 y2
  have h3 : ((((W.setCell ⟨k, 0, none⟩ y0).setCell ⟨k, 1, none⟩ y1).setCell ⟨k, 2, none⟩ y2).setCell ⟨k, 3, none⟩ y3).heap[k]? = some (.cells #[y0, y1, y2, y3, x4, x5, x6, x7, x8] T (0, 0)) := set_same h2 3 y3
  have h4 : (((((W.setCell ⟨k, 0, none⟩ y0).setCell ⟨k, 1, none⟩ y1).setCell ⟨k, 2, none⟩ y2).setCell ⟨k, 3, none⟩ y3).setCell ⟨k, 4, none⟩ y4).heap[k]? = some (.cells #[y0, y1, y2, y3, y4, x5, x6, x7, x8] T (0, 0)) := set_same h3 4 y4
  have h5 : ((((((W.setCell ⟨k, 0, none⟩ y0).setCell ⟨k, 1, none⟩ y1).setCell ⟨k, 2, none⟩ y2).setCell ⟨k, 3, none⟩ y3).setCell ⟨k, 4, none⟩ y4).setCell ⟨k, 5, none⟩ y5).heap[k]? = some (.cells #[y0, y1, y2, y3, y4, y5, x6, x7, x8] T (0, 0)) := set_same h4 5 y5
  have h6 : (((((((W.setCell ⟨k, 0, none⟩ y0).setCell ⟨k, 1, none⟩ y1).setCell ⟨k, 2, none⟩ y2).setCell ⟨k, 3, none⟩ y3).setCell ⟨k, 4, none⟩ y4).setCell ⟨k, 5, none⟩ y5).setCell ⟨k, 6, none⟩ y6).heap[k]? = some (.cells #[y0, y1, y2, y3, y4, y5, y6, x7, x8] T (0, 0)) := set_same h5 6 y6
  have h7 : ((((((((W.setCell ⟨k, 0, none⟩ y0).setCell ⟨k, 1, none⟩ y1).setCell ⟨k, 2, none⟩ y2).setCell ⟨k, 3, none⟩ y3).setCell ⟨k, 4, none⟩ y4).setCell ⟨k, 5, none⟩ y5).setCell ⟨k, 6, none⟩ y6).setCell ⟨k, 7, none⟩ y7).heap[k]? = some (.cells #[y0, y1, y2, y3, y4, y5, y6, y7, x8] T (0, 0)) := set_same h6 7 y7
  have h8 : (((((((((W.setCell ⟨k, 0, none⟩ y0).setCell ⟨k, 1, none⟩ y1).setCell ⟨k, 2, none⟩ y2).setCell ⟨k, 3, none⟩ y3).setCell ⟨k, 4, none⟩ y4).setCell ⟨k, 5, none⟩ y5).setCell ⟨k, 6, none⟩ y6).setCell ⟨k, 7, none⟩ y7).setCell ⟨k, 8, none⟩ y8).heap[k]? = some (.cells #[y0, y1, y2, y3, y4, y5, y6, y7, y8] T (0, 0)) := set_same h7 8 y8
  exact h8
theorem bl_put9 {w W : World} {k : Nat} (h : Below w.heap.size w W) (hk : w.heap.size ≤ k) (y0 y1 y2 y3 y4 y5 y6 y7 y8 : Value) :
    Below w.heap.size w (((((((((W.setCell ⟨k, 0, none⟩ y0).setCell ⟨k, 1, none⟩ y1).setCell ⟨k, 2, none⟩ y2).setCell ⟨k, 3, none⟩ y3).setCell ⟨k, 4, none⟩ y4).setCell ⟨k, 5, none⟩ y5).setCell ⟨k, 6, none⟩ y6).setCell ⟨k, 7, none⟩ y7).setCell ⟨k, 8, none⟩ y8) :=
  bl_set (bl_set (bl_set (bl_set (bl_set (bl_set (bl_set (bl_set (bl_set h hk _) hk _) hk _) hk _) hk _) hk _) hk _) hk _) hk _
theorem of15_ (n m s : Int) (h : geoOk n m s = true) (A : Option Addr) (len c : Nat) (w : World) :
    Calls Tryz.prog 123 #[.int .i64 n, .int .i64 m, .int .i64 s, .slice A len c] w fun e w' => e = .returned (.agg (vcells n m s (.slice A len c))) ∧ Below w.heap.size w w' := by
  have hu := Tryz.underlying30
  have hof := of_any n m s
  have hp : parts n m s = (16, 16 + 8 * m, bmAt n m, bkAt n m, tot n m s, true) := by unfold parts; rw [h]; rfl
  rw [hp] at hof
  have HOF := Lib.hid hof
  have HV : Hid (vcells n m s (.slice A len c) = #[.int .i64 n, .int .i64 m, .int .i64 s, .int .i64 16, .int .i64 (16 + 8 * m), .int .i64 (bmAt n m), .int .i64 (bkAt n m), .int .i64 (tot n m s), .slice A len c]) := rfl
  generalize bmAt n m = p3 at *
  generalize bkAt n m = p4 at *
  generalize tot n m s = p5 at *
  generalize 16 + 8 * m = p2 at *
  clear h hof hp
  go_enter Tryz.func123, Tryz.ntmps123
  go_wp2_with (go_at_call 160; refine (HOF.out _).mono ?_; rintro e w1 ⟨rfl, hb⟩; (have hq := blk_bl (alloc_new w (.cells #[.int .i64 0, .int .i64 0, .int .i64 0, .int .i64 0, .int .i64 0, .int .i64 0, .int .i64 0, .int .i64 0, .slice none 0 0] 30)) hb); (have HQ := Lib.hid hq); (have HB := Lib.hid (bl_then (bl_alloc (Below.refl _ _) _) hb)); (have hsz := hb.size); (have hz1 : w.heap.size < w1.heap.size := by (simp only [World.size_alloc] at hsz; omega)); (have l0 := cell_of hq 0); (have l1 := cell_of hq 1); (have l2 := cell_of hq 2); (have l3 := cell_of hq 3); (have l4 := cell_of hq 4); (have l5 := cell_of hq 5); (have l6 := cell_of hq 6); (have l7 := cell_of hq 7); (have l8 := cell_of hq 8); (have f0 := free_of hq 0); (have f1 := free_of hq 1); (have f2 := free_of hq 2); (have f3 := free_of hq 3); (have f4 := free_of hq 4); (have f5 := free_of hq 5); (have f6 := free_of hq 6); (have f7 := free_of hq 7); (have f8 := free_of hq 8); clear hb hq hsz)
  have hp9 := put9 HQ.out (.int .i64 n) (.int .i64 m) (.int .i64 s) (.int .i64 16) (.int .i64 p2) (.int .i64 p3) (.int .i64 p4) (.int .i64 p5) (.slice A len c)
  have hb9 := bl_put9 HB.out (Nat.le_refl _) (.int .i64 n) (.int .i64 m) (.int .i64 s) (.int .i64 16) (.int .i64 p2) (.int .i64 p3) (.int .i64 p4) (.int .i64 p5) (.slice A len c)
  rw [HV.out]
  refine bodyPost_ret (res_c rfl _ _ w.heap.size 30 _ (0, 0) _ rfl (alloc_old hp9 _) hu rfl ?_) rfl ⟨rfl, bl_alloc hb9 _⟩
  kernel_rfl
end Go.Proofs.YtgnagbbdnlmgeaaGreat.Rf
end
section
set_option maxHeartbeats 2000000
set_option maxRecDepth 100000
namespace Go.Proofs.YtgnagbbdnlmgeaaGreat.Pm
open Go Go.RowKit
open Ob Mp Dv Wl Ba
def devOf (l : List Int) : Dev := ⟨0, 0, l, [], none⟩
theorem devOf_wf (l : List Int) (h : l.length ≤ 4194304) : (devOf l).Wf :=
  ⟨h, by simp [devOf], by simp [devOf], by simp [devOf], by simp [devOf], by simp [devOf], by simp [devOf], by simp [devOf], by simp [devOf], by simp [devOf]⟩
theorem of_dev {B : Nat} {W : World} {l : List Int} {A : Option Addr} {c : Nat} (hB : B ≤ W.heap.size) (h : W.ownsRow B 94 1 (.slice A l.length c) l.length (u64s l)) (hl : l.length ≤ 4194304) :
    ∃ g, DevIs ((W.alloc (.map #[] 0)).alloc (.cells #[.int .i64 0, .int .i64 0, .slice A l.length c, .map (some W.heap.size), .bool false, .int .i64 0] 146 (0, 0))) (W.heap.size + 1) (devOf l) g ∧ (∀ k ∈ g.foot (W.heap.size + 1), B ≤ k) := by
  obtain ⟨A', c', qs, hv, hsl, hqs⟩ := Sl.of_own h
  simp only [Value.slice.injEq, true_and] at hv
  obtain ⟨rfl, rfl⟩ := hv
  have hlt : ∀ q ∈ qs, q < W.heap.size := by
    obtain ⟨_, ⟨_, rfl⟩ | ⟨q', o', cs', _, rfl, hb', _⟩⟩ := hsl
    · simp
    · intro q hq
      simp at hq
      subst hq
      exact lt_of hb'
  have hnd : qs.Nodup := by
    obtain ⟨_, ⟨_, rfl⟩ | ⟨q', o', cs', _, rfl, hb', _⟩⟩ := hsl <;> simp
  have b2 := alloc_new (W.alloc (.map #[] 0)) (.cells #[.int .i64 0, .int .i64 0, .slice A l.length c, .map (some W.heap.size), .bool false, .int .i64 0] 146 (0, 0))
  simp only [World.size_alloc] at b2
  refine ⟨⟨A, c, qs, W.heap.size, 0, []⟩, ⟨b2, hsl.keep (fun q hq => ?_), alloc_old (alloc_new W _) _, by simp, rfl, ?_, by simp, by simp, devOf_wf l hl⟩, ?_⟩
  · have := hlt q hq
    rw [Below.heap_alloc _ _ q (by simp; omega), Below.heap_alloc _ _ q this]
  · simp only [Lay.foot, Lay.ents, List.flatMap_nil, List.append_nil, List.nodup_cons, List.mem_cons, not_or]
    refine ⟨⟨by omega, fun hq => ?_⟩, fun hq => ?_, hnd⟩
    · have := hlt _ hq; omega
    · have := hlt _ hq; omega
  · intro k hk
    simp only [Lay.foot, Lay.ents, List.flatMap_nil, List.append_nil, List.mem_cons] at hk
    rcases hk with rfl | rfl | hk
    · omega
    · exact hB
    · exact hqs k hk
theorem of_any {w : World} {a : Addr} {l : List Int} (h : Rd w (some a) l) (c : Nat) (hc : l.length ≤ c) (hl : l.length ≤ 4194304) :
    Calls Tryz.prog 124 #[.slice (some a) l.length c] w fun e w' => ∃ v, e = .returned v ∧ DevNew w w' v (devOf l) := by
  have HCL := Lib.hid (clone_any h c hl (by simp))
  have HL := Lib.hid hl
  obtain ⟨n, hn⟩ : ∃ n, n = l.length := ⟨_, rfl⟩
  rw [← hn]
  rw [← hn] at hc hl HCL
  have HN := Lib.hid hn
  have hmin : min (n : Int) 4194304 = n := by omega
  have hc1 : ¬ ((c : Int) < n) := by omega
  have hmm := @run_makeMap Tryz.prog
  clear h hn
  go_enter Tryz.func124, Tryz.ntmps124
  go_wp2_with fail
  refine HCL.out.mono ?_
  rintro e w2 ⟨v2, rfl, hown, hb⟩
  have HO := Lib.hid hown
  have HB := Lib.hid hb
  obtain ⟨A2, c2, rfl⟩ := own_slice hown
  clear hown hb HCL
  go_wp2_with fail
  go_ret
  have ho := HO.out
  rw [HN.out] at ho
  obtain ⟨g, h1, h2⟩ := of_dev HB.out.size ho HL.out
  rw [← HN.out] at h1
  exact ⟨_, rfl, _, g, rfl, h1, h2, bl_alloc (bl_alloc HB.out _) _⟩
end Go.Proofs.YtgnagbbdnlmgeaaGreat.Pm
end
section
set_option maxHeartbeats 2000000
set_option maxRecDepth 100000
namespace Go.Proofs.YtgnagbbdnlmgeaaGreat.Ra
open Go Go.RowKit
open Ob Ba Ko Ge Oc Pk Su Rf
def gB (r : Nat) : Nat := 1 + r % 20
def gS (r : Nat) : Nat := if r % 2 = 0 then 64 else 128
theorem gS_or (r : Nat) : gS r = 64 ∨ gS r = 128 := by unfold gS; split <;> simp
theorem gB_in (r : Nat) : 1 ≤ gB r ∧ gB r ≤ 20 := by unfold gB; omega
theorem g_ok (a b c : Nat) : geoOk (gB a) (gB b) (gS c) = true := by
  obtain ⟨h1, h2⟩ := gB_in a
  obtain ⟨h3, h4⟩ := gB_in b
  generalize gB a = n at *
  generalize gB b = m at *
  rcases gS_or c with h | h
  all_goals
    rw [h]
    simp only [geoOk, inB, Bool.and_eq_true, decide_eq_true_eq]
    refine ⟨⟨⟨⟨⟨by omega, by omega⟩, by omega⟩, by omega⟩, by decide⟩, ?_⟩
    unfold tot up8
    omega
theorem g_tot (a b c : Nat) : 40 ≤ tot (gB a) (gB b) (gS c) ∧ tot (gB a) (gB b) (gS c) ≤ 1000 := by
  obtain ⟨h1, h2⟩ := gB_in a
  obtain ⟨h3, h4⟩ := gB_in b
  generalize gB a = n at *
  generalize gB b = m at *
  rcases gS_or c with h | h
  all_goals
    rw [h]
    unfold tot up8
    omega
theorem geometry_ (r0 r1 r2 : Nat) (h0 : r0 < 256) (h1 : r1 < 256) (h2 : r2 < 256) (A : Option Addr) (len c : Nat) (w : World) :
    Calls Tryz.prog 15 #[.agg #[.int .u8 r0, .int .u8 r1, .int .u8 r2, .slice A len c]] w fun e w' => e = .returned (.agg #[.int .i64 (gB r0), .int .i64 (gB r1), .int .i64 (gS r2)]) ∧ Below w.heap.size w w' := by
  have hu := Tryz.underlying34
  have hur := Tryz.underlying24
  have q0 : 1 + (r0 : Int) % 20 = (gB r0 : Nat) := by unfold gB; omega
  have q1 : 1 + (r1 : Int) % 20 = (gB r1 : Nat) := by unfold gB; omega
  have Q := Lib.hid (And.intro q0 q1)
  clear q0 q1
  obtain ⟨q, hq⟩ : ∃ q, q = r2 % 2 := ⟨_, rfl⟩
  have hq1 : (r2 : Int) % 2 = (q : Int) := by omega
  have hS : Hid (gS r2 = if q = 0 then 64 else 128) := by rw [hq]; rfl
  rcases (by omega : q = 0 ∨ q = 1) with rfl | rfl
  all_goals
    clear hq
    go_enter Tryz.func15, Tryz.ntmps15
    go_wp2_with fail
    rw [Q.out.1, Q.out.2]
    have hal := alloc_new (w.alloc (.cells #[.int .u8 r0, .int .u8 r1, .int .u8 r2, .slice A len c] 24)) (.cells #[.int .i64 (gB r0 : Nat), .int .i64 (gB r1 : Nat), .int .i64 (gS r2 : Nat)] 34)
    rw [World.size_alloc] at hal
    have hs := hS.out
    simp at hs
    rw [hs] at hal ⊢
    refine bodyPost_ret (res_c rfl _ _ (w.heap.size + 1) 34 _ (0, 0) _ rfl hal hu rfl ?_) rfl ⟨rfl, bl_alloc (bl_alloc (Below.refl _ _) _) _⟩
    kernel_rfl
end Go.Proofs.YtgnagbbdnlmgeaaGreat.Ra
end
section
set_option maxHeartbeats 2000000
set_option maxRecDepth 100000
namespace Go.Proofs.YtgnagbbdnlmgeaaGreat.Rf
open Go Go.RowKit
open Ob Ba Oc Pk
def wput (l : List Int) (a : Nat) : List Int → List Int
  | [] => l
  | x :: r => wput (l.set a x) (a + 1) r
def nline (a : Nat) : Nat → Nat
  | 0 => 0
  | i + 1 => nline a i + (if i = 0 ∨ (a + i) % 8 = 0 then 1 else 0)
theorem own_low {W : World} {B T s n : Nat} {v : Value} {xs : List Value} (h : W.ownsRow B T s v n xs) {q : Nat} (hq : q < B) (o : Nat) (u : Value) : (W.setCell ⟨q, o, none⟩ u).ownsRow B T s v n xs :=
  own_kp h (fun k hk _ => Below.heap_setCell _ _ _ k (by show k ≠ q; omega))
theorem own_low9 {W : World} {B T s n : Nat} {v : Value} {xs : List Value} (h : W.ownsRow B T s v n xs) {q : Nat} (hq : q < B) (u0 u1 u2 u3 u4 u5 u6 u7 u8 : Value) : (((((((((W.setCell ⟨q, 0, none⟩ u0).setCell ⟨q, 1, none⟩ u1).setCell ⟨q, 2, none⟩ u2).setCell ⟨q, 3, none⟩ u3).setCell ⟨q, 4, none⟩ u4).setCell ⟨q, 5, none⟩ u5).setCell ⟨q, 6, none⟩ u6).setCell ⟨q, 7, none⟩ u7).setCell ⟨q, 8, none⟩ u8).ownsRow B T s v n xs :=
  own_low (own_low (own_low (own_low (own_low (own_low (own_low (own_low (own_low h hq _ _) hq _ _) hq _ _) hq _ _) hq _ _) hq _ _) hq _ _) hq _ _) hq _ _
end Go.Proofs.YtgnagbbdnlmgeaaGreat.Rf
end
