/- Parts of the proof, one behind the other: Ja, Sl, Qt, Sm, Jb. -/
import Derived.Test.YtgnagbbdnlmgeaaGreatL07
import Derived.Test.YtgnagbbdnlmgeaaGreatL06
set_option linter.unusedVariables false
set_option linter.unusedSimpArgs false
set_option linter.unusedSectionVars false
section
set_option maxHeartbeats 2000000
set_option maxRecDepth 100000
namespace Go.Proofs.YtgnagbbdnlmgeaaGreat.Iq
open Go Go.RowKit
open Ob Ba Oc Pk Su Cc Cr Ge In
def R6 (l : List Nat) (e : Ending) : Prop := e = .returned (.tuple #[.agg #[.int .i64 (n6 l).1, .int .i64 (n6 l).2.1, .int .i64 (n6 l).2.2], .bool (ok6 l)])
theorem r6_no {l : List Nat} (h : ok6 l = false) : R6 l (.returned (.tuple #[.agg #[.int .i64 0, .int .i64 (-1), .int .i64 0], .bool false])) := by unfold R6 n6; rw [h]; rfl
theorem r6_yes {l : List Nat} {a b z : Nat} (ha : a = l.getD 0 0 % 65536) (hb : b = l.getD 0 0 / 65536) (hz : z = l.getD 1 0) (h : ok6 l = true) : R6 l (.returned (.tuple #[.agg #[.int .i64 a, .int .i64 ((b : Int) - 1), .int .i64 z], .bool true])) := by unfold R6 n6; rw [h, ha, hb, hz]; rfl
theorem take_step {l m : List Nat} {i : Nat} {u z : Nat} (h : l.take i = m.take i) (hu : l[i]? = some u) (hz : m[i]? = some z) (e : u = z) : l.take (i + 1) = m.take (i + 1) := by
  rw [take_next hu, take_next hz, h, e]
theorem rk_drewN {k : IntKind} {W : World} {A : Option Addr} {l : List Int} (h : Rk k W A l) (q : Nat) : Rk k (W.drewN q) A l := h.below (bl_drewN (Below.refl _ _) q)
theorem rdec_big {w : World} {A : Option Addr} {l : List Nat} (h : Rk .u64 w A (ints l)) (c : Nat) (hl : l.length = 8) (hlt : ∀ x ∈ l, x < 18446744073709551616) (hx : ¬ (l.getD 0 0 < 4294967296 ∧ l.getD 1 0 ≤ 268435456)) :
    Calls Tryz.prog 79 #[.slice A 8 c] w fun e w' => R6 l e ∧ Below w.heap.size w w' := by
  have hu := Tryz.underlying47
  obtain ⟨x, hx0⟩ := some_at (l := l) (i := 0) (by omega)
  obtain ⟨y, hy1⟩ := some_at (l := l) (i := 1) (by omega)
  have hxe : l.getD 0 0 = x := by rw [List.getD_eq_getElem?_getD, hx0]; rfl
  have hye : l.getD 1 0 = y := by rw [List.getD_eq_getElem?_getD, hy1]; rfl
  have hno : ok6 l = false := by
    unfold ok6
    by_cases h1 : l.getD 0 0 < 4294967296
    · rw [decide_eq_false (show ¬ l.getD 1 0 ≤ 268435456 from fun h2 => hx ⟨h1, h2⟩)]
      simp
    · rw [decide_eq_false h1]
      rfl
  have HNO := Lib.hid hno
  rw [hxe, hye] at hx
  obtain ⟨a, rfl, ha0, ha⟩ := h 0 x (ints_get hx0)
  obtain ⟨_, e2, -, hb⟩ := h 1 y (ints_get hy1)
  cases e2
  have ha : w.cell? a = some (.int .u64 x) := ha
  have hb : w.cell? ⟨a.block, a.off + 1, none⟩ = some (.int .u64 y) := hb
  have HQ1 := Lib.hid (alloc_old (alloc_new w (.cells #[.int .i64 0, .int .i64 (-1), .int .i64 0] 47)) (.cells #[.int .i64 0, .int .i64 (-1), .int .i64 0] 47))
  clear h hl hlt hx0 hy1 hxe hye hno
  by_cases hxx : x < 4294967296
  · have hxy : (x : Int) ≤ 4294967295 := by omega
    have hyy : (268435456 : Int) < (y : Int) := by omega
    clear hx hxx
    go_enter Tryz.func79, Tryz.ntmps79
    go_wp2_with fail
    exact bodyPost_ret (res_ct (u := 3) rfl _ _ w.heap.size 47 #[.int .i64 0, .int .i64 (-1), .int .i64 0] (0, 0) _ rfl HQ1.out hu rfl (by kernel_rfl)) rfl ⟨r6_no HNO.out, bl_alloc (bl_alloc (Below.refl _ _) _) _⟩
  · have hxy : (4294967295 : Int) < (x : Int) := by omega
    clear hx hxx
    go_enter Tryz.func79, Tryz.ntmps79
    go_wp2_with fail
    exact bodyPost_ret (res_ct (u := 3) rfl _ _ w.heap.size 47 #[.int .i64 0, .int .i64 (-1), .int .i64 0] (0, 0) _ rfl HQ1.out hu rfl (by kernel_rfl)) rfl ⟨r6_no HNO.out, bl_alloc (bl_alloc (Below.refl _ _) _) _⟩
theorem rdec_rest {w : World} {A : Option Addr} {l : List Nat} (h : Rk .u64 w A (ints l)) (c : Nat) (hl : l.length = 8) (hlt : ∀ x ∈ l, x < 18446744073709551616) (hx : l.getD 0 0 < 4294967296 ∧ l.getD 1 0 ≤ 268435456) :
    Calls Tryz.prog 79 #[.slice A 8 c] w fun e w' => R6 l e ∧ Below w.heap.size w w' := by
  have hu := Tryz.underlying47
  obtain ⟨x, hx0⟩ := some_at (l := l) (i := 0) (by omega)
  obtain ⟨y, hy1⟩ := some_at (l := l) (i := 1) (by omega)
  have hxe : l.getD 0 0 = x := by rw [List.getD_eq_getElem?_getD, hx0]; rfl
  have hye : l.getD 1 0 = y := by rw [List.getD_eq_getElem?_getD, hy1]; rfl
  rw [hxe, hye] at hx
  obtain ⟨hx9, hy9⟩ := hx
  obtain ⟨a, ha1⟩ : ∃ a, a = x % 65536 := ⟨_, rfl⟩
  obtain ⟨b, hb1⟩ : ∃ b, b = x / 65536 := ⟨_, rfl⟩
  have ha9 : a < 65536 := by omega
  have hb9 : b < 65536 := by omega
  have hai : (x : Int) % 65536 = (a : Int) := by omega
  have hbi : (x : Int).tdiv 65536 = (b : Int) := by rw [Int.tdiv_eq_ediv_of_nonneg (by omega)]; omega
  have hbi2 : (x : Int) / 65536 = (b : Int) := by omega
  have hxu : (x : Int) ≤ 4294967295 := by omega
  have hyu : (y : Int) ≤ 268435456 := by omega
  have HF : Hid (a = l.getD 0 0 % 65536 ∧ b = l.getD 0 0 / 65536 ∧ y = l.getD 1 0) := ⟨by rw [hxe]; exact ha1, by rw [hxe]; exact hb1, hye.symm⟩
  have HOK : Hid (ok6 l = (iB a ((b : Int) - 1) y && decide (iLine a ((b : Int) - 1) y = l))) := by
    show _ = _
    unfold ok6
    rw [hxe, hye, ← ha1, ← hb1, decide_eq_true hx9, decide_eq_true hy9]
    rfl
  have H := Lib.hid h
  obtain ⟨ad, rfl, ha0, ha⟩ := h 0 x (ints_get hx0)
  obtain ⟨_, e2, -, hb⟩ := h 1 y (ints_get hy1)
  cases e2
  have ha : w.cell? ad = some (.int .u64 x) := ha
  have hb : w.cell? ⟨ad.block, ad.off + 1, none⟩ = some (.int .u64 y) := hb
  have HL := Lib.hid hl
  have HLT := Lib.hid hlt
  obtain ⟨W2, hW2⟩ : ∃ W2, W2 = (w.alloc (.cells #[.int .i64 0, .int .i64 0, .int .i64 0] 47)).alloc (.cells #[.int .i64 0, .int .i64 (-1), .int .i64 0] 47) := ⟨_, rfl⟩
  have HW2 := Lib.hid hW2
  have HQ2 : Hid (W2.heap[w.heap.size]? = some (.cells #[.int .i64 0, .int .i64 0, .int .i64 0] 47 (0, 0))) := by show _ = _; rw [hW2]; exact alloc_old (alloc_new w _) _
  have HN2 : Hid (W2.heap[w.heap.size + 1]? = some (.cells #[.int .i64 0, .int .i64 (-1), .int .i64 0] 47 (0, 0))) := by
    have := alloc_new (w.alloc (.cells #[.int .i64 0, .int .i64 0, .int .i64 0] 47)) (.cells #[.int .i64 0, .int .i64 (-1), .int .i64 0] 47)
    rw [World.size_alloc] at this
    show _ = _
    rw [hW2]; exact this
  have HB2 : Hid (Below w.heap.size w W2) := by show Below _ _ _; rw [hW2]; exact bl_alloc (bl_alloc (Below.refl _ _) _) _
  have hW3 : ∀ o : Obj, ((W2.alloc o).drew).heap[w.heap.size + 2]? = some o := fun o => by
    have h9 := alloc_new W2 o
    rw [show W2.heap.size = w.heap.size + 2 from by rw [hW2]; simp] at h9
    exact h9
  have HW3 := Lib.hid hW3
  clear h hl hlt hx0 hy1 hxe hye ha1 hb1 hx9 hy9 hW2 hW3
  go_enter Tryz.func79, Tryz.ntmps79
  go_wp2_with fail
  rw [← HW2.out]
  have hx2 : W2.cell? ad = some (.int .u64 x) := (HB2.out.cell (p := ad) ha0).trans ha
  have hy2 : W2.cell? ⟨ad.block, ad.off + 1, none⟩ = some (.int .u64 y) := (HB2.out.cell (p := ⟨ad.block, ad.off + 1, none⟩) ha0).trans hb
  have had : ad.block < W2.heap.size := Nat.lt_of_lt_of_le ha0 HB2.out.size
  have hz1 : w.heap.size < W2.heap.size := lt_of HQ2.out
  have hz2 : w.heap.size + 1 < W2.heap.size := lt_of HN2.out
  clear ha hb
  go_region
  go_wp2_with fail
  have HN3 := Lib.hid (HW3.out (.cells #[.int .i64 a, .int .i64 ((b : Int) - 1), .int .i64 y] 47))
  have hbd : Below W2.heap.size W2 (W2.alloc (.cells #[.int .i64 a, .int .i64 ((b : Int) - 1), .int .i64 y] 47)).drew := bl_drew (bl_alloc (Below.refl _ _) _)
  have HS2 : Hid (W2.heap.size = w.heap.size + 2) := by show _ = _; rw [HW2.out]; simp
  by_cases hgeo : iAll a ((b : Int) - 1) y
  · have HG : Hid (iB a ((b : Int) - 1) y = true) := decide_eq_true hgeo
    have hen := renc_yes a ((b : Int) - 1) y hgeo
    have hn8 : (iLine a ((b : Int) - 1) y).length = 8 := iLine_len _ _ _
    obtain ⟨L6, hL6⟩ : ∃ L6, L6 = iLine a ((b : Int) - 1) y := ⟨_, rfl⟩
    rw [← hL6] at hen hn8 HOK
    have HL6 := Lib.hid hn8
    have HEN := Lib.hid hen
    clear hgeo hen hn8 hL6
    refine (HEN.out _).mono ?_
    rintro e w3 ⟨v3, rfl, hown3, hb3⟩
    obtain ⟨A3, c3, e3⟩ := own_slice hown3
    subst e3
    have HR3 := Lib.hid (own_rk (k := .u64) hown3).1
    have HR3l := Lib.hid ((H.out.below HB2.out).below (bl_then hbd hb3))
    have HQ3 := Lib.hid (blk_bl (blk_bl HQ2.out hbd) hb3)
    have HM3 := Lib.hid (blk_bl (blk_bl HN2.out hbd) hb3)
    have hn3 := blk_bl HN3.out hb3
    rw [← HS2.out] at hn3
    have HNB3 := Lib.hid hn3
    have HB3 := Lib.hid (bl_then HB2.out (bl_then hbd hb3))
    clear hown3 hb3 hbd hx2 hy2 had hz1 hz2 hn3
    go_wp2_with fail
    go_loopw [52] (fun c52 wr => ∃ i : Nat, i ≤ 8 ∧ c52 = .int .i64 i ∧ ∃ q, Hid (wr = w3.drewN q ∧ L6.take i = l.take i)) (fun c52 _ => 8 - (intOf c52).toNat)
    case atStart => exact ⟨0, Nat.zero_le _, rfl, 0, rfl, rfl⟩
    case round =>
      obtain ⟨i, hi, rfl, q, HR⟩ := hrel
      by_cases hlt : i < 8
      · obtain ⟨u, hu9⟩ := some_at (l := L6) (i := i) (by rw [HL6.out]; exact hlt)
        obtain ⟨z, hz9⟩ := some_at (l := l) (i := i) (by rw [HL.out]; exact hlt)
        have hl2 : Rk .u64 wr A3 (ints L6) := by rw [HR.out.1]; exact rk_drewN HR3.out q
        have hm2 : Rk .u64 wr (some ad) (ints l) := by rw [HR.out.1]; exact rk_drewN HR3l.out q
        obtain ⟨p3, e3, -, hp3⟩ := hl2 i u (ints_get hu9)
        subst e3
        obtain ⟨_, e4, -, hp4⟩ := hm2 i z (ints_get hz9)
        cases e4
        have HX := Lib.hid (And.intro hu9 hz9)
        clear hu9 hz9 hl2 hm2
        by_cases hxy : u = z
        · have e1 : ((u : Int) != (z : Int)) = false := by simp [hxy]
          have EX := Lib.hid hxy
          clear hxy
          go_wp2_with fail
          go_quiet (fail)
          go_wp2_with fail
          go_roundw
          case rel => exact ⟨i + 1, by omega, by go_num, q + nq, by show _ ∧ _; rw [HR.out.1]; exact ⟨Pm.drewN_two _ _ _, take_step HR.out.2 HX.out.1 HX.out.2 EX.out⟩⟩
          case measure => simp [intOf]; omega
        · have e1 : ((u : Int) != (z : Int)) = true := by rw [bne_iff_ne]; omega
          have HLE : Hid (ok6 l = false) := by
            show _ = _
            rw [HOK.out, decide_eq_false (fun h => hxy (by rw [h] at HX; exact Option.some.inj (HX.out.1.symm.trans HX.out.2)))]
            simp
          clear hxy
          go_wp2_with fail
          go_quiet (fail)
          have hwq : wr.drewN nq = w3.drewN (q + nq) := by rw [HR.out.1]; exact Pm.drewN_two _ _ _
          rw [hwq]
          have hq := blk_bl HQ3.out (bl_drewN (Below.refl _ _) (q + nq))
          have hm := blk_bl HM3.out (bl_drewN (Below.refl _ _) (q + nq))
          have HQ := Lib.hid hq
          have l0 := cell_of hq 0
          have l1 := cell_of hq 1
          have l2 := cell_of hq 2
          have f0 := free_of hq 0
          have f1 := free_of hq 1
          have f2 := free_of hq 2
          have m0 := cell_of hm 0
          have m1 := cell_of hm 1
          have m2 := cell_of hm 2
          clear hq hm hwq
          go_wp2_with fail
          exact bodyPost_ret (res_ct (u := 3) rfl _ _ w.heap.size 47 #[.int .i64 0, .int .i64 (-1), .int .i64 0] (0, 0) _ rfl (put3 HQ.out _ _ _) hu rfl (by kernel_rfl)) rfl ⟨r6_no HLE.out, bl_put3 (bl_drewN HB3.out _) (Nat.le_refl _) _ _ _⟩
      · obtain rfl : i = 8 := by omega
        have hle : L6 = l := by
          have h1 := HR.out.2
          rw [List.take_of_length_le (by rw [HL6.out]; omega), List.take_of_length_le (by rw [HL.out]; omega)] at h1
          exact h1
        have HLE : Hid (ok6 l = true) := by show _ = _; rw [HOK.out, HG.out, decide_eq_true hle]; rfl
        have hwr := HR.out.1
        subst hwr
        have hq := blk_bl HQ3.out (bl_drewN (Below.refl _ _) q)
        have hm := blk_bl HNB3.out (bl_drewN (Below.refl _ _) q)
        have HQ := Lib.hid hq
        have l0 := cell_of hq 0
        have l1 := cell_of hq 1
        have l2 := cell_of hq 2
        have f0 := free_of hq 0
        have f1 := free_of hq 1
        have f2 := free_of hq 2
        have m0 := cell_of hm 0
        have m1 := cell_of hm 1
        have m2 := cell_of hm 2
        clear hq hm hle
        go_wp2_with fail
        exact bodyPost_ret (res_ct (u := 3) rfl _ _ w.heap.size 47 #[.int .i64 a, .int .i64 ((b : Int) - 1), .int .i64 y] (0, 0) _ rfl (put3 HQ.out _ _ _) hu rfl (by kernel_rfl)) rfl ⟨r6_yes HF.out.1 HF.out.2.1 HF.out.2.2 HLE.out, bl_put3 (bl_drewN HB3.out _) (Nat.le_refl _) _ _ _⟩
  · have HLE : Hid (ok6 l = false) := by show _ = _; rw [HOK.out, show iB a ((b : Int) - 1) y = false from decide_eq_false hgeo]; rfl
    refine (renc_no a ((b : Int) - 1) y hgeo _).mono ?_
    rintro e w3 ⟨rfl, hb3⟩
    have HQ3 := Lib.hid (blk_bl (blk_bl HQ2.out hbd) hb3)
    have hm3 := blk_bl (blk_bl HN2.out hbd) hb3
    have HB3 := Lib.hid (bl_then HB2.out (bl_then hbd hb3))
    have l0 := cell_of HQ3.out 0
    have l1 := cell_of HQ3.out 1
    have l2 := cell_of HQ3.out 2
    have f0 := free_of HQ3.out 0
    have f1 := free_of HQ3.out 1
    have f2 := free_of HQ3.out 2
    have m0 := cell_of hm3 0
    have m1 := cell_of hm3 1
    have m2 := cell_of hm3 2
    clear hb3 hbd hx2 hy2 had hz1 hz2 hm3 hgeo
    go_wp2_with fail
    exact bodyPost_ret (res_ct (u := 3) rfl _ _ w.heap.size 47 #[.int .i64 0, .int .i64 (-1), .int .i64 0] (0, 0) _ rfl (put3 HQ3.out _ _ _) hu rfl (by kernel_rfl)) rfl ⟨r6_no HLE.out, bl_put3 HB3.out (Nat.le_refl _) _ _ _⟩
theorem rdec_ {w : World} {A : Option Addr} {l : List Nat} (h : Rk .u64 w A (ints l)) (c : Nat) (hl : l.length = 8) (hlt : ∀ x ∈ l, x < 18446744073709551616) :
    Calls Tryz.prog 79 #[.slice A 8 c] w fun e w' => R6 l e ∧ Below w.heap.size w w' := by
  by_cases hx : l.getD 0 0 < 4294967296 ∧ l.getD 1 0 ≤ 268435456
  · exact rdec_rest h c hl hlt hx
  · exact rdec_big h c hl hlt hx
end Go.Proofs.YtgnagbbdnlmgeaaGreat.Iq
end
section
set_option maxHeartbeats 2000000
set_option maxRecDepth 100000
namespace Go.Proofs.YtgnagbbdnlmgeaaGreat.Lo
open Go Go.RowKit
open Ob Ba Cr C6 Cc Oc Pk Su
def sMay (s c n : Int) : Bool := decide (0 ≤ s ∧ s < 65534 ∧ 1 ≤ c ∧ c ≤ 65534 - s ∧ -1 ≤ n ∧ n < 65534)
def nx (n : Int) : Nat := if 0 ≤ n then n.toNat else 65535
def sSum (x : Nat) : Nat := sum6 65535 ((oct x).take 6)
def sEnc (s c n : Int) : Nat := word1 s.toNat c.toNat (nx n) + 281474976710656 * sSum (word1 s.toNat c.toNat (nx n))
theorem sSum_lt (x : Nat) : sSum x < 65536 := sum6_lt _ _ (by decide) fun y hy => oct_lt x y (List.mem_of_mem_take hy)
theorem may_ (s c n : Int) (w : World) : Calls Tryz.prog 147 #[.agg #[.int .i64 s, .int .i64 c, .int .i64 n]] w fun e w' => e = .returned (.bool (sMay s c n)) ∧ Below w.heap.size w w' := by
  have hu := Tryz.underlying51
  by_cases h : sMay s c n = true
  · rw [h]
    obtain ⟨h1, h2, h3, h4, h5, h6⟩ := of_decide_eq_true h
    clear h
    have q : wrap64 (65534 - s) = 65534 - s := w64 _ (by omega) (by omega)
    go_enter Tryz.func147, Tryz.ntmps147
    go_wp2
    go_ret
    exact ⟨rfl, bl_alloc (Below.refl _ _) _⟩
  · have hf : sMay s c n = false := by simpa using h
    rw [hf]
    rcases (by have := of_decide_eq_false hf; omega : s < 0 ∨ (0 ≤ s ∧ 65534 ≤ s) ∨ (0 ≤ s ∧ s < 65534 ∧ c < 1) ∨ (0 ≤ s ∧ s < 65534 ∧ 1 ≤ c ∧ 65534 - s < c) ∨ (0 ≤ s ∧ s < 65534 ∧ 1 ≤ c ∧ c ≤ 65534 - s ∧ n < -1) ∨ (0 ≤ s ∧ s < 65534 ∧ 1 ≤ c ∧ c ≤ 65534 - s ∧ -1 ≤ n ∧ 65534 ≤ n)) with h1 | ⟨h1, h2⟩ | ⟨h1, h2, h3⟩ | ⟨h1, h2, h3, h4⟩ | ⟨h1, h2, h3, h4, h5⟩ | ⟨h1, h2, h3, h4, h5, h6⟩
    all_goals
      clear h hf
      try have q : wrap64 (65534 - s) = 65534 - s := w64 _ (by omega) (by omega)
      try have q2 : decide (n < 65534) = false := decide_eq_false (by omega)
      go_enter Tryz.func147, Tryz.ntmps147
      go_wp2
      go_ret
      exact ⟨rfl, bl_alloc (Below.refl _ _) _⟩
def fvs (l : List (Nat × Nat)) : List Value := l.flatMap fun p => [Value.int .i64 p.1, Value.int .u64 p.2]
theorem own_fs {W : World} {B T n c : Nat} {A : Option Addr} {l : List (Nat × Nat)} (h : W.ownsRow B T 2 (.slice A n c) n (fvs l)) (ho : ∀ p ∈ l, FOk p.1 p.2) (hl : l ≠ []) : FsAt W A l := by
  have key : ∀ (l : List (Nat × Nat)) (i : Nat) p, l[i]? = some p → (fvs l)[i * 2]? = some (.int .i64 p.1) ∧ (fvs l)[i * 2 + 1]? = some (.int .u64 p.2) := by
    intro l
    induction l with
    | nil => intro i p h; simp at h
    | cons a l ih =>
      intro i p h
      cases i with
      | zero => simp at h; subst h; simp [fvs]
      | succ i =>
        rw [List.getElem?_cons_succ] at h
        obtain ⟨h1, h2⟩ := ih i p h
        unfold fvs at h1 h2 ⊢
        rw [List.flatMap_cons]
        rw [show (i + 1) * 2 = i * 2 + 2 from by omega, show i * 2 + 2 + 1 = (i * 2 + 1) + 2 from by omega]
        simp only [List.cons_append, List.nil_append, List.getElem?_cons_succ]
        exact ⟨h1, h2⟩
  intro i p hi
  obtain ⟨k1, k2⟩ := key l i p hi
  refine ⟨ho p (List.mem_of_getElem? hi), ?_⟩
  obtain ⟨h1, ⟨h2, h3⟩ | ⟨g, cap, cur, hv, hg, hb, hn, hm, hs, ht⟩⟩ := h
  · exfalso
    subst h3
    cases l with
    | nil => exact hl rfl
    | cons a l => simp [fvs] at h1
  · simp only [Value.slice.injEq, true_and] at hv
    obtain ⟨rfl, rfl⟩ := hv
    refine ⟨g, 0, rfl, lt_of hb, ?_, ?_⟩
    · rw [cell_of hb, Nat.zero_add]
      rw [← ht, List.getElem?_take] at k1
      split at k1
      · simpa using k1
      · cases k1
    · rw [cell_of hb, Nat.zero_add]
      rw [← ht, List.getElem?_take] at k2
      split at k2
      · simpa using k2
      · cases k2
theorem encode_no (s c n : Int) (h : sMay s c n = false) (w : World) :
    Calls Tryz.prog 103 #[.agg #[.int .i64 s, .int .i64 c, .int .i64 n]] w fun e w' => e = .returned (.tuple #[.int .u64 0, .int .i64 1]) ∧ Below w.heap.size w w' := by
  have hu := Tryz.underlying51
  have hm := may_ s c n
  rw [h] at hm
  have HM := Lib.hid hm
  clear h hm
  go_enter Tryz.func103, Tryz.ntmps103
  go_wp2_with (go_at_call 147; refine (HM.out _).mono ?_; rintro e w1 ⟨rfl, hb⟩; (have HB := Lib.hid hb); clear hb)
  go_ret2
  exact ⟨rfl, bl_then (bl_alloc (Below.refl _ _) _) HB.out⟩
theorem two_at (w : World) (u v : Value) (T : TypeId) : ∀ (j : Nat) z, [u, v][j]? = some z → (w.alloc (.cells #[u, v] T)).cell? ((⟨w.heap.size, 0, none⟩ : Addr).add j) = some z := by
  intro j z hj
  rw [Addr.add_lit, cell_of (alloc_new w _), Nat.zero_add]
  simpa using hj
theorem info_f : (Tryz.prog.info? 215).map (fun i => (i.zero, i.size, i.bytes)) = some (some (.agg #[.int .i64 0, .int .u64 0]), 2, 16) := by kernel_rfl
theorem encode_nat (a b : Nat) (n : Int) (k : Nat) (hk : k = nx n) (h : sMay a b n = true) (w : World) :
    Calls Tryz.prog 103 #[.agg #[.int .i64 a, .int .i64 b, .int .i64 n]] w fun e w' => e = .returned (.tuple #[.int .u64 (word1 a b k + 281474976710656 * sSum (word1 a b k) : Nat), .int .i64 0]) ∧ Below w.heap.size w w' := by
  have hu := Tryz.underlying51
  have huf := Tryz.underlying215
  have hmay := may_ a b n
  rw [h] at hmay
  have HM := Lib.hid hmay
  obtain ⟨h1, h2, h3, h4, h5, h6⟩ := of_decide_eq_true h
  have ha : a < 65536 := by omega
  have hb : b < 65536 := by omega
  have hc : k < 65536 := by rw [hk]; unfold nx; split <;> omega
  have q1 : IntKind.u64.wrap (a : Int) = a := wu64 _ (by omega) (by omega)
  have q2 : IntKind.u64.wrap (b : Int) = b := wu64 _ (by omega) (by omega)
  have q3 : IntKind.u64.wrap (k : Int) = k := wu64 _ (by omega) (by omega)
  have HF := Lib.hid (And.intro (f16 ha) (And.intro (f16 hb) (f16 hc)))
  have hw1 : word1 a b k < 18446744073709551616 := by unfold word1; omega
  have hpv : pv [(16, a), (16, b), (16, k)] = word1 a b k := by simp [pv, word1]; omega
  generalize hx : word1 a b k = x at *
  have hs6 : sSum x < 65536 := sSum_lt x
  have hpv4 : pv [(16, a), (16, b), (16, k), (16, sSum x)] = x + 281474976710656 * sSum x := by rw [← hpv]; simp [pv]; omega
  have hsi : (sum6 65535 (allOf [⟨none, 0, (oct x).take 6⟩]) : Nat) = sSum x := by simp [allOf, sSum]
  have HPV := Lib.hid (And.intro hpv hpv4)
  have hn : (0 ≤ n ∧ n = (k : Int)) ∨ (n < 0 ∧ k = 65535) := by rw [hk]; unfold nx; split <;> omega
  have q4 : IntKind.u64.wrap (sSum x : Int) = sSum x := wu64 _ (by omega) (by omega)
  clear h hmay h1 h2 h3 h4 h5 h6 hpv hpv4 hk hsi
  generalize hss : sSum x = y at *
  rcases hn with ⟨hn, hn2⟩ | ⟨hn, hn2⟩
  · subst hn2
    have HSS := Lib.hid hss
    have HX := Lib.hid hx
    clear hss hx
    go_enter Tryz.func103, Tryz.ntmps103
    go_wp2_with (go_at_call 147; refine (HM.out _).mono ?_; rintro e w1 ⟨rfl, hb⟩; (obtain ⟨hc, hf⟩ := bcell hb); (have hz := hb.size); simp only [World.size_alloc] at hz; (have hz1 : w.heap.size < w1.heap.size := by omega); (have HB := Lib.hid hb); clear hb hf hz)
    have hfs : FsAt (w1.alloc (.cells #[.int .i64 16, .int .u64 a, .int .i64 16, .int .u64 b, .int .i64 16, .int .u64 k] 215)) (some ⟨w1.heap.size, 0, none⟩) [(16, a), (16, b), (16, k)] := by
      refine fields_at (T := 215) (fr := (0, 0)) (alloc_new _ _) ?_
      intro p hp
      simp only [List.mem_cons, List.not_mem_nil, or_false] at hp
      rcases hp with rfl | rfl | rfl
      · exact HF.out.1
      · exact HF.out.2.1
      · exact HF.out.2.2
    have hpk := pack_ hfs 3 (by simp [wid]) (by simp)
    rw [HPV.out.1] at hpk
    refine (show Calls _ _ #[.slice (some ⟨w1.heap.size, 0, none⟩) 3 3] _ _ from hpk).mono ?_
    clear hfs hpk hc
    rintro e w2 ⟨rfl, hb2⟩
    have hz2 := hb2.size
    simp only [World.size_alloc] at hz2
    have hz3 : w1.heap.size < w2.heap.size := by omega
    have hrow : w2.ownsRow w.heap.size 215 2 (.slice (some ⟨w1.heap.size, 0, none⟩) 3 3) 3 (fvs [(16, a), (16, b), (16, k)]) :=
      ⟨rfl, .inr ⟨w1.heap.size, 3, _, rfl, by omega, blk_bl (alloc_new w1 _) hb2, by omega, by unfold maxLen; omega, rfl, rfl⟩⟩
    have HROW := Lib.hid hrow
    have HB2 := Lib.hid (bl_then (bl_alloc (bl_then (bl_alloc (Below.refl _ _) _) HB.out) _) hb2)
    clear hb2 hz2 hrow
    go_wp2_with fail
    have hone : Rk .u64 (w2.alloc (.cells #[.int .u64 x] 94)) (some ⟨w2.heap.size, 0, none⟩) (ints [x]) := by
      refine blk_rk (alloc_new w2 (.cells #[.int .u64 x] 94)) fun i z hz => ?_
      match i with
      | 0 => simpa [ints] using hz
      | i + 1 => simp [ints] at hz
    refine (bytes_ hone (by intro z hz; simp at hz; subst hz; exact hw1) 1 (by simp)).mono ?_
    rintro e w3 ⟨v3, rfl, hown3, hb3⟩
    obtain ⟨A3, c3, rfl⟩ := own_slice hown3
    obtain ⟨hrk3, -, hc3⟩ := own_rk hown3
    have hb3' : Below w2.heap.size w2 w3 := bl_then (bl_alloc (Below.refl _ _) _) hb3
    obtain ⟨q3a, rfl, -, -⟩ := own_at (i := 0) (x := ((x % 256 : Nat) : Int)) hown3 (by simp [ints, octs, oct])
    have HROW3 := Lib.hid (own_bl HROW.out hb3')
    have HB3 := Lib.hid (bl_then HB2.out hb3')
    have hz4 := hb3'.size
    have hrk6 : Rk .u8 w3 (some ⟨q3a, 0, none⟩) (ints ((oct x).take 6)) := by
      have := hrk3.take 6
      rw [← ints_take, show octs [x] = oct x from by simp [octs]] at this
      exact this
    have HRK := Lib.hid hrk6
    replace hc3 : 8 ≤ c3 := hc3
    have hc4 : ¬ ((c3 : Int) < 6) := by omega
    clear hone hown3 hb3 hb3' hrk3 hrk6
    go_wp2_with fail
    have hps : PsAt (w3.alloc (.cells #[.slice (some ⟨q3a, 0, none⟩) 6 c3] 59)) (some ⟨w3.heap.size, 0, none⟩) [⟨some ⟨q3a, 0, none⟩, c3, (oct x).take 6⟩] := by
      intro i p hp
      match i with
      | 0 =>
        simp at hp
        subst hp
        exact ⟨⟨HRK.out.below (bl_alloc (Below.refl _ _) _), fun z hz => oct_lt x z (List.mem_of_mem_take hz), by simp [oct]⟩, _, rfl, one_at _ _ _ 0 _ rfl⟩
      | i + 1 => simp at hp
    have hsum := sum16_ hps 1 (by simp)
    rw [show allOf [(⟨some ⟨q3a, 0, none⟩, c3, (oct x).take 6⟩ : Part)] = (oct x).take 6 from by simp [allOf], show (sum6 65535 ((oct x).take 6)) = y from HSS.out] at hsum
    have HSM := Lib.hid hsum
    clear hps hsum
    refine HSM.out.mono ?_
    rintro e w4 ⟨rfl, hw4⟩
    have HB4 : Hid (Below w.heap.size w w4) := by rw [← hw4]; exact bl_alloc HB3.out _
    have HROW4 : Hid (w4.ownsRow w.heap.size 215 2 (.slice (some ⟨w1.heap.size, 0, none⟩) 3 3) 3 (fvs [(16, a), (16, b), (16, k)])) := by
      rw [← hw4]; exact own_bl HROW3.out (bl_alloc (Below.refl _ _) _)
    clear hw4 HSM HROW3 HROW HRK
    have HOW := Lib.hid (fun o => own_kp (W' := w4.alloc o) HROW4.out (fun k _ hk => Below.heap_alloc _ _ k hk))
    obtain ⟨i0, hinf, hz0, hz1, hz2⟩ := info_parts info_f
    go_wp2_with (at_builtin; refine wpList_append_own _ rfl (.tmp 41) (.tmp 45) 216 rfl w.heap.size 215 i0 (.agg #[.int .i64 0, .int .u64 0]) 2 16 Tryz.underlying216 hinf hz0 hz1 hz2 rfl (by decide) _ 3 _ rfl (HOW.out _) ⟨w4.heap.size, 0, none⟩ 1 1 [.int .i64 16, .int .u64 y] rfl rfl (two_at _ _ _ _) (by intro u hu; simp at hu; rcases hu with rfl | rfl <;> rfl) (by unfold maxLen; omega) (by omega) (by have h1 := HB4.out.size; simp; omega) ?_; intro v5 w5 hown5 hgrow5 _; (obtain ⟨A5, c5, rfl⟩ := own_slice hown5); (have HO := Lib.hid hown5); (have HG := Lib.hid hgrow5); clear hown5 hgrow5)
    have hfs4 : FsAt w5 A5 [(16, a), (16, b), (16, k), (16, y)] := by
      refine own_fs (l := [(16, a), (16, b), (16, k), (16, y)]) HO.out ?_ (by simp)
      intro p hp
      simp only [List.mem_cons, List.not_mem_nil, or_false] at hp
      rcases hp with rfl | rfl | rfl | rfl
      · exact HF.out.1
      · exact HF.out.2.1
      · exact HF.out.2.2
      · exact f16 hs6
    have hpk4 := pack_ hfs4 c5 (by simp [wid]) (by simp)
    rw [HPV.out.2] at hpk4
    refine (show Calls _ _ #[.slice A5 4 c5] _ _ from hpk4).mono ?_
    rintro e w6 ⟨rfl, hb6⟩
    have HB6 := Lib.hid (bl_then (bl_grown (bl_alloc HB4.out _) HG.out (own_lo HROW4.out)) hb6)
    clear hfs4 hpk4 hb6
    go_wp2_with fail
    go_ret2
    exact ⟨rfl, HB6.out⟩
  · subst hn2
    have HSS := Lib.hid hss
    have HX := Lib.hid hx
    clear hss hx
    go_enter Tryz.func103, Tryz.ntmps103
    go_wp2_with (go_at_call 147; refine (HM.out _).mono ?_; rintro e w1 ⟨rfl, hb⟩; (obtain ⟨hc, hf⟩ := bcell hb); (have hz := hb.size); simp only [World.size_alloc] at hz; (have hz1 : w.heap.size < w1.heap.size := by omega); (have HB := Lib.hid hb); clear hb hf hz)
    have hfs : FsAt (w1.alloc (.cells #[.int .i64 16, .int .u64 a, .int .i64 16, .int .u64 b, .int .i64 16, .int .u64 65535] 215)) (some ⟨w1.heap.size, 0, none⟩) [(16, a), (16, b), (16, 65535)] := by
      refine fields_at (T := 215) (fr := (0, 0)) (alloc_new _ _) ?_
      intro p hp
      simp only [List.mem_cons, List.not_mem_nil, or_false] at hp
      rcases hp with rfl | rfl | rfl
      · exact HF.out.1
      · exact HF.out.2.1
      · exact HF.out.2.2
    have hpk := pack_ hfs 3 (by simp [wid]) (by simp)
    rw [HPV.out.1] at hpk
    refine (show Calls _ _ #[.slice (some ⟨w1.heap.size, 0, none⟩) 3 3] _ _ from hpk).mono ?_
    clear hfs hpk hc
    rintro e w2 ⟨rfl, hb2⟩
    have hz2 := hb2.size
    simp only [World.size_alloc] at hz2
    have hz3 : w1.heap.size < w2.heap.size := by omega
    have hrow : w2.ownsRow w.heap.size 215 2 (.slice (some ⟨w1.heap.size, 0, none⟩) 3 3) 3 (fvs [(16, a), (16, b), (16, 65535)]) :=
      ⟨rfl, .inr ⟨w1.heap.size, 3, _, rfl, by omega, blk_bl (alloc_new w1 _) hb2, by omega, by unfold maxLen; omega, rfl, rfl⟩⟩
    have HROW := Lib.hid hrow
    have HB2 := Lib.hid (bl_then (bl_alloc (bl_then (bl_alloc (Below.refl _ _) _) HB.out) _) hb2)
    clear hb2 hz2 hrow
    go_wp2_with fail
    have hone : Rk .u64 (w2.alloc (.cells #[.int .u64 x] 94)) (some ⟨w2.heap.size, 0, none⟩) (ints [x]) := by
      refine blk_rk (alloc_new w2 (.cells #[.int .u64 x] 94)) fun i z hz => ?_
      match i with
      | 0 => simpa [ints] using hz
      | i + 1 => simp [ints] at hz
    refine (bytes_ hone (by intro z hz; simp at hz; subst hz; exact hw1) 1 (by simp)).mono ?_
    rintro e w3 ⟨v3, rfl, hown3, hb3⟩
    obtain ⟨A3, c3, rfl⟩ := own_slice hown3
    obtain ⟨hrk3, -, hc3⟩ := own_rk hown3
    have hb3' : Below w2.heap.size w2 w3 := bl_then (bl_alloc (Below.refl _ _) _) hb3
    obtain ⟨q3a, rfl, -, -⟩ := own_at (i := 0) (x := ((x % 256 : Nat) : Int)) hown3 (by simp [ints, octs, oct])
    have HROW3 := Lib.hid (own_bl HROW.out hb3')
    have HB3 := Lib.hid (bl_then HB2.out hb3')
    have hz4 := hb3'.size
    have hrk6 : Rk .u8 w3 (some ⟨q3a, 0, none⟩) (ints ((oct x).take 6)) := by
      have := hrk3.take 6
      rw [← ints_take, show octs [x] = oct x from by simp [octs]] at this
      exact this
    have HRK := Lib.hid hrk6
    replace hc3 : 8 ≤ c3 := hc3
    have hc4 : ¬ ((c3 : Int) < 6) := by omega
    clear hone hown3 hb3 hb3' hrk3 hrk6
    go_wp2_with fail
    have hps : PsAt (w3.alloc (.cells #[.slice (some ⟨q3a, 0, none⟩) 6 c3] 59)) (some ⟨w3.heap.size, 0, none⟩) [⟨some ⟨q3a, 0, none⟩, c3, (oct x).take 6⟩] := by
      intro i p hp
      match i with
      | 0 =>
        simp at hp
        subst hp
        exact ⟨⟨HRK.out.below (bl_alloc (Below.refl _ _) _), fun z hz => oct_lt x z (List.mem_of_mem_take hz), by simp [oct]⟩, _, rfl, one_at _ _ _ 0 _ rfl⟩
      | i + 1 => simp at hp
    have hsum := sum16_ hps 1 (by simp)
    rw [show allOf [(⟨some ⟨q3a, 0, none⟩, c3, (oct x).take 6⟩ : Part)] = (oct x).take 6 from by simp [allOf], show (sum6 65535 ((oct x).take 6)) = y from HSS.out] at hsum
    have HSM := Lib.hid hsum
    clear hps hsum
    refine HSM.out.mono ?_
    rintro e w4 ⟨rfl, hw4⟩
    have HB4 : Hid (Below w.heap.size w w4) := by rw [← hw4]; exact bl_alloc HB3.out _
    have HROW4 : Hid (w4.ownsRow w.heap.size 215 2 (.slice (some ⟨w1.heap.size, 0, none⟩) 3 3) 3 (fvs [(16, a), (16, b), (16, 65535)])) := by
      rw [← hw4]; exact own_bl HROW3.out (bl_alloc (Below.refl _ _) _)
    clear hw4 HSM HROW3 HROW HRK
    have HOW := Lib.hid (fun o => own_kp (W' := w4.alloc o) HROW4.out (fun k _ hk => Below.heap_alloc _ _ k hk))
    obtain ⟨i0, hinf, hz0, hz1, hz2⟩ := info_parts info_f
    go_wp2_with (at_builtin; refine wpList_append_own _ rfl (.tmp 41) (.tmp 45) 216 rfl w.heap.size 215 i0 (.agg #[.int .i64 0, .int .u64 0]) 2 16 Tryz.underlying216 hinf hz0 hz1 hz2 rfl (by decide) _ 3 _ rfl (HOW.out _) ⟨w4.heap.size, 0, none⟩ 1 1 [.int .i64 16, .int .u64 y] rfl rfl (two_at _ _ _ _) (by intro u hu; simp at hu; rcases hu with rfl | rfl <;> rfl) (by unfold maxLen; omega) (by omega) (by have h1 := HB4.out.size; simp; omega) ?_; intro v5 w5 hown5 hgrow5 _; (obtain ⟨A5, c5, rfl⟩ := own_slice hown5); (have HO := Lib.hid hown5); (have HG := Lib.hid hgrow5); clear hown5 hgrow5)
    have hfs4 : FsAt w5 A5 [(16, a), (16, b), (16, 65535), (16, y)] := by
      refine own_fs (l := [(16, a), (16, b), (16, 65535), (16, y)]) HO.out ?_ (by simp)
      intro p hp
      simp only [List.mem_cons, List.not_mem_nil, or_false] at hp
      rcases hp with rfl | rfl | rfl | rfl
      · exact HF.out.1
      · exact HF.out.2.1
      · exact HF.out.2.2
      · exact f16 hs6
    have hpk4 := pack_ hfs4 c5 (by simp [wid]) (by simp)
    rw [HPV.out.2] at hpk4
    refine (show Calls _ _ #[.slice A5 4 c5] _ _ from hpk4).mono ?_
    rintro e w6 ⟨rfl, hb6⟩
    have HB6 := Lib.hid (bl_then (bl_grown (bl_alloc HB4.out _) HG.out (own_lo HROW4.out)) hb6)
    clear hfs4 hpk4 hb6
    go_wp2_with fail
    go_ret2
    exact ⟨rfl, HB6.out⟩
theorem encode_yes (s c n : Int) (h : sMay s c n = true) (w : World) :
    Calls Tryz.prog 103 #[.agg #[.int .i64 s, .int .i64 c, .int .i64 n]] w fun e w' => e = .returned (.tuple #[.int .u64 (sEnc s c n : Nat), .int .i64 0]) ∧ Below w.heap.size w w' := by
  obtain ⟨h1, h2, h3, h4, h5, h6⟩ := of_decide_eq_true h
  obtain ⟨a, rfl⟩ := Int.eq_ofNat_of_zero_le h1
  obtain ⟨b, rfl⟩ := Int.eq_ofNat_of_zero_le (a := c) (by omega)
  exact encode_nat a b n _ rfl h w
end Go.Proofs.YtgnagbbdnlmgeaaGreat.Lo
end
section
set_option maxHeartbeats 2000000
set_option maxRecDepth 100000
namespace Go.Proofs.YtgnagbbdnlmgeaaGreat.Lo
open Go Go.RowKit
open Ob Ba Oc Pk Cr C6 Cc Su
theorem rmay_ (s c n : Int) (w : World) : Calls Tryz.prog 174 #[.agg #[.int .i64 s, .int .i64 c, .int .i64 n]] w fun e w' => e = .returned (.bool (sMay s c n)) ∧ Below w.heap.size w w' := by
  have hu := Tryz.underlying54
  by_cases h : sMay s c n = true
  · rw [h]
    obtain ⟨h1, h2, h3, h4, h5, h6⟩ := of_decide_eq_true h
    clear h
    have q9 : s + c ≤ 65534 := by omega
    go_enter Tryz.func174, Tryz.ntmps174
    go_wp2
    go_ret
    exact ⟨by first | rfl | (simp; omega), bl_alloc (Below.refl _ _) _⟩
  · have hf : sMay s c n = false := by simpa using h
    rw [hf]
    rcases (by have := of_decide_eq_false hf; omega : s < 0 ∨ (0 ≤ s ∧ 65533 < s) ∨ (0 ≤ s ∧ s ≤ 65533 ∧ n < -1) ∨ (0 ≤ s ∧ s ≤ 65533 ∧ -1 ≤ n ∧ 65533 < n) ∨ (0 ≤ s ∧ s ≤ 65533 ∧ -1 ≤ n ∧ n ≤ 65533 ∧ c ≤ 0) ∨ (0 ≤ s ∧ s ≤ 65533 ∧ -1 ≤ n ∧ n ≤ 65533 ∧ 0 < c ∧ 65534 < c) ∨ (0 ≤ s ∧ s ≤ 65533 ∧ -1 ≤ n ∧ n ≤ 65533 ∧ 0 < c ∧ c ≤ 65534 ∧ 65534 < s + c)) with h1 | ⟨h1, h2⟩ | ⟨h1, h2, h3⟩ | ⟨h1, h2, h3, h4⟩ | ⟨h1, h2, h3, h4, h5⟩ | ⟨h1, h2, h3, h4, h5, h6⟩ | ⟨h1, h2, h3, h4, h5, h6, h7⟩
    all_goals
      clear h hf
      go_enter Tryz.func174, Tryz.ntmps174
      go_wp2
      go_ret
      exact ⟨by first | rfl | (simp; omega), bl_alloc (Below.refl _ _) _⟩
theorem txt_take (l : List Nat) (n : Nat) : (txt l).extract 0 n = txt (l.take n) := by
  unfold txt strOfNums
  rw [ints_take]
  apply ByteArray.ext
  rw [ByteArray.data_extract]
  simp [List.map_take]
theorem rencode_no (s c n : Int) (h : sMay s c n = false) (w : World) :
    Calls Tryz.prog 138 #[.agg #[.int .i64 s, .int .i64 c, .int .i64 n]] w fun e w' => e = .returned (.tuple #[.int .u64 0, .bool false]) ∧ Below w.heap.size w w' := by
  have hu := Tryz.underlying54
  have hm := rmay_ s c n
  rw [h] at hm
  have HM := Lib.hid hm
  clear h hm
  go_enter Tryz.func138, Tryz.ntmps138
  go_wp2_with (go_at_call 174; refine (HM.out _).mono ?_; rintro e w1 ⟨rfl, hb⟩; (have HB := Lib.hid hb); clear hb)
  go_ret2
  exact ⟨rfl, bl_then (bl_alloc (Below.refl _ _) _) HB.out⟩
theorem rencode_nat (a b : Nat) (n : Int) (k : Nat) (hk : k = nx n) (h : sMay a b n = true) (w : World) :
    Calls Tryz.prog 138 #[.agg #[.int .i64 a, .int .i64 b, .int .i64 n]] w fun e w' => e = .returned (.tuple #[.int .u64 (word1 a b k + 281474976710656 * sSum (word1 a b k) : Nat), .bool true]) ∧ Below w.heap.size w w' := by
  have hu := Tryz.underlying54
  have hmay := rmay_ a b n
  rw [h] at hmay
  have HM := Lib.hid hmay
  obtain ⟨h1, h2, h3, h4, h5, h6⟩ := of_decide_eq_true h
  have ha : a < 65536 := by omega
  have hb : b < 65536 := by omega
  have hc : k < 65536 := by rw [hk]; unfold nx; split <;> omega
  have hw1 : word1 a b k < 281474976710656 := by unfold word1; omega
  have hwd : word1 a b k = a + 65536 * b + 4294967296 * k := by unfold word1; omega
  generalize hx : word1 a b k = x at *
  have hs6 : sSum x < 65536 := sSum_lt x
  have HSM : Hid (∀ w, Calls Tryz.prog 175 #[.string (txt ((oct x).take 6))] w fun e w' => e = .returned (.int .u16 (sSum x : Nat)) ∧ w = w') := fun w => rsum16_ (fun z hz => oct_lt x z (List.mem_of_mem_take hz)) (by simp [oct]) w
  have hn : (0 ≤ n ∧ n = (k : Int)) ∨ (n < 0 ∧ k = 65535) := by rw [hk]; unfold nx; split <;> omega
  clear h hmay h1 h2 h3 h4 h5 h6 hk
  have ht6 : (txt (oct x)).extract 0 6 = txt ((oct x).take 6) := txt_take _ _
  have ht8 : (txt (oct x)).size = 8 := by rw [txt_size]; rfl
  have HRB : Hid (∀ {w : World} (h : Rk .u64 w (some ⟨w.heap.size, 0, none⟩) [(x : Int)]), True) := fun _ => trivial
  generalize htx : txt (oct x) = S at *
  generalize txt ((oct x).take 6) = S6 at *
  generalize hss : sSum x = y at *
  have hz : ∀ z : Int, z = (x : Int) + 281474976710656 * y → IntKind.u64.wrap z = ((x + 281474976710656 * y : Nat) : Int) := fun z hz => by rw [hz, wu64 _ (by omega) (by omega)]; omega
  rcases hn with ⟨hn, hn2⟩ | ⟨hn, hn2⟩
  · subst hn2
    have HX := Lib.hid (And.intro hwd (And.intro hx (And.intro hss htx)))
    clear hwd hx hss htx
    go_enter Tryz.func138, Tryz.ntmps138
    go_wp2_with (go_at_call 174; refine (HM.out _).mono ?_; rintro e w1 ⟨rfl, hb⟩; (obtain ⟨hc, hf⟩ := bcell hb); (have hz := hb.size); simp only [World.size_alloc] at hz; (have hz1 : w.heap.size < w1.heap.size := by omega); (have HB := Lib.hid hb); clear hb hf hz)
    have hxi : (a : Int) + 65536 * b + 4294967296 * k = (x : Nat) := by have := HX.out.1; omega
    rw [hxi]
    have hone : Rk .u64 (w1.alloc (.cells #[.int .u64 x] 94)) (some ⟨w1.heap.size, 0, none⟩) (ints [x]) := by
      refine blk_rk (alloc_new w1 (.cells #[.int .u64 x] 94)) fun i z hz => ?_
      match i with
      | 0 => simpa [ints] using hz
      | i + 1 => simp [ints] at hz
    have hrb := rbytes_ hone (by intro z hz; simp at hz; subst hz; omega) 1 (by simp)
    rw [show octs [x] = oct x from by simp [octs], HX.out.2.2.2] at hrb
    refine hrb.mono ?_
    clear hone hrb hxi hc
    rintro e w2 ⟨rfl, hb2⟩
    have HB2 := Lib.hid (bl_then (bl_alloc (bl_then (bl_alloc (Below.refl _ _) _) HB.out) _) hb2)
    clear hb2
    have hz3 := hz _ rfl
    have HW := Lib.hid hz3
    go_wp2_with (go_at_call 175; refine (HSM.out _).mono ?_; rintro e w3 ⟨rfl, rfl⟩)
    go_ret2
    exact ⟨by rfl, HB2.out⟩
  · subst hn2
    have HX := Lib.hid (And.intro hwd (And.intro hx (And.intro hss htx)))
    clear hwd hx hss htx
    go_enter Tryz.func138, Tryz.ntmps138
    go_wp2_with (go_at_call 174; refine (HM.out _).mono ?_; rintro e w1 ⟨rfl, hb⟩; (obtain ⟨hc, hf⟩ := bcell hb); (have hz := hb.size); simp only [World.size_alloc] at hz; (have hz1 : w.heap.size < w1.heap.size := by omega); (have HB := Lib.hid hb); clear hb hf hz)
    have hxi : (a : Int) + 65536 * b + 281470681743360 = (x : Nat) := by have := HX.out.1; omega
    rw [hxi]
    have hone : Rk .u64 (w1.alloc (.cells #[.int .u64 x] 94)) (some ⟨w1.heap.size, 0, none⟩) (ints [x]) := by
      refine blk_rk (alloc_new w1 (.cells #[.int .u64 x] 94)) fun i z hz => ?_
      match i with
      | 0 => simpa [ints] using hz
      | i + 1 => simp [ints] at hz
    have hrb := rbytes_ hone (by intro z hz; simp at hz; subst hz; omega) 1 (by simp)
    rw [show octs [x] = oct x from by simp [octs], HX.out.2.2.2] at hrb
    refine hrb.mono ?_
    clear hone hrb hxi hc
    rintro e w2 ⟨rfl, hb2⟩
    have HB2 := Lib.hid (bl_then (bl_alloc (bl_then (bl_alloc (Below.refl _ _) _) HB.out) _) hb2)
    clear hb2
    have hz3 := hz _ rfl
    have HW := Lib.hid hz3
    go_wp2_with (go_at_call 175; refine (HSM.out _).mono ?_; rintro e w3 ⟨rfl, rfl⟩)
    go_ret2
    exact ⟨by rfl, HB2.out⟩
theorem rencode_yes (s c n : Int) (h : sMay s c n = true) (w : World) :
    Calls Tryz.prog 138 #[.agg #[.int .i64 s, .int .i64 c, .int .i64 n]] w fun e w' => e = .returned (.tuple #[.int .u64 (sEnc s c n : Nat), .bool true]) ∧ Below w.heap.size w w' := by
  obtain ⟨h1, h2, h3, h4, h5, h6⟩ := of_decide_eq_true h
  obtain ⟨a, rfl⟩ := Int.eq_ofNat_of_zero_le h1
  obtain ⟨b, rfl⟩ := Int.eq_ofNat_of_zero_le (a := c) (by omega)
  exact rencode_nat a b n _ rfl h w
end Go.Proofs.YtgnagbbdnlmgeaaGreat.Lo
end
section
set_option maxHeartbeats 2000000
set_option maxRecDepth 100000
namespace Go.Proofs.YtgnagbbdnlmgeaaGreat.Lo
open Go Go.RowKit
open Ob Ba Cr C6 Cc Oc Pk Su
def pd (x : Nat) : Nat := x / 281474976710656
def nxt (d : Nat) : Int := if d = 65535 then -1 else d
theorem spl4 (x : Nat) (hx : x < 18446744073709551616) : spl x [16, 16, 16, 16] = [pa x, pb x, pc x, pd x] := by
  simp only [spl, pa, pb, pc, pd]
  simp
  omega
def SDec (x a b d : Nat) (e : Ending) : Prop :=
  (sMay a b (nxt d) = true ∧ sEnc a b (nxt d) = x → e = .returned (.tuple #[.agg #[.int .i64 a, .int .i64 b, .int .i64 (nxt d)], .int .i64 0])) ∧ (¬ (sMay a b (nxt d) = true ∧ sEnc a b (nxt d) = x) → e = .returned (.tuple #[.agg #[.int .i64 0, .int .i64 0, .int .i64 0], .int .i64 2]))
theorem sdec_yes {x a b d : Nat} {n : Int} (hn : n = nxt d) (h : sMay a b n = true ∧ sEnc a b n = x) : SDec x a b d (.returned (.tuple #[.agg #[.int .i64 a, .int .i64 b, .int .i64 n], .int .i64 0])) := by subst hn; exact ⟨fun _ => rfl, fun k => absurd h k⟩
theorem sdec_no {x a b d : Nat} {n : Int} (hn : n = nxt d) (h : ¬ (sMay a b n = true ∧ sEnc a b n = x)) : SDec x a b d (.returned (.tuple #[.agg #[.int .i64 0, .int .i64 0, .int .i64 0], .int .i64 2])) := by subst hn; exact ⟨fun k => absurd k h, fun _ => rfl⟩
theorem decode_ (x : Nat) (hx : x < 18446744073709551616) (a b d : Nat) (h1 : a = pa x) (h2 : b = pb x) (h3 : d = pc x) (w : World) :
    Calls Tryz.prog 81 #[.int .u64 x] w fun e w' => SDec x a b d e ∧ Below w.heap.size w w' := by
  have hu := Tryz.underlying51
  have ha1 : a < 65536 := by rw [h1]; exact Nat.mod_lt _ (by decide)
  have hb1 : b < 65536 := by rw [h2]; exact Nat.mod_lt _ (by decide)
  have hd1 : d < 65536 := by rw [h3]; exact Nat.mod_lt _ (by decide)
  have hrk : Rk .i64 ((w.alloc (.cells #[.int .i64 0, .int .i64 0, .int .i64 0] 51)).alloc (.cells #[.int .i64 16, .int .i64 16, .int .i64 16, .int .i64 16] 3)) (some ⟨w.heap.size + 1, 0, none⟩) (ints [16, 16, 16, 16]) := by
    have := alloc_new (w.alloc (.cells #[.int .i64 0, .int .i64 0, .int .i64 0] 51)) (.cells #[.int .i64 16, .int .i64 16, .int .i64 16, .int .i64 16] 3)
    rw [World.size_alloc] at this
    refine blk_rk this fun i x hx => ?_
    match i with
    | 0 => simpa [ints] using hx
    | 1 => simpa [ints] using hx
    | 2 => simpa [ints] using hx
    | 3 => simpa [ints] using hx
    | i + 4 => simp [ints] at hx
  have hsp := split_ hrk x hx 4 (by simp) (by decide) (by decide)
  have hne : x / 2 ^ [16, 16, 16, 16].sum = 0 := by
    simp
    omega
  rw [decide_eq_true hne, spl4 x hx, ← h1, ← h2, ← h3, show ([16, 16, 16, 16] : List Nat).length = 4 from rfl] at hsp
  have HS := Lib.hid (And.intro hsp hne)
  clear hrk hsp hne h1 h2 h3
  go_enter Tryz.func81, Tryz.ntmps81
  go_wp2_with fail
  refine HS.out.1.mono ?_
  rintro e w1 ⟨v, rfl, hown, hb⟩
  have hown := hown HS.out.2
  obtain ⟨A1, c1, rfl⟩ := own_slice hown
  obtain ⟨g1, rfl, hc0, hf0⟩ := own_at (i := 0) (x := (a : Nat)) hown rfl
  obtain ⟨g2, e2, hc1, hf1⟩ := own_at (i := 1) (x := (b : Nat)) hown rfl
  cases e2
  obtain ⟨g3, e3, hc2, hf2⟩ := own_at (i := 2) (x := (d : Nat)) hown rfl
  cases e3
  have hz := hb.size
  simp only [World.size_alloc] at hz
  have hz1 : w.heap.size < w1.heap.size := by omega
  have hq1 : Hid (w1.heap[w.heap.size]? = some (.cells #[.int .i64 0, .int .i64 0, .int .i64 0] 51 (0, 0))) := blk_bl (alloc_old (alloc_new w _) _) hb
  have HQ1 : Hid (Below w.heap.size w w1) := bl_then (bl_alloc (bl_alloc (Below.refl _ _) _) _) hb
  have hg : g1 < w1.heap.size := by
    have := hc0
    unfold World.cell? at this
    cases hq : w1.heap[g1]? with
    | none => simp [hq] at this
    | some o => exact lt_of hq
  clear hown hb hf0 hf1 hf2 hz HS
  go_wp2_with fail
  go_region
  have HBX0 : Hid (Below w.heap.size w (w1.alloc (.cells #[.int .i64 a, .int .i64 b, .int .i64 d] 51)).drew) := bl_drew (bl_alloc HQ1.out _)
  have HQX0 : Hid ((w1.alloc (.cells #[.int .i64 a, .int .i64 b, .int .i64 d] 51)).drew.heap[w.heap.size]? = some (.cells #[.int .i64 0, .int .i64 0, .int .i64 0] 51 (0, 0))) := alloc_old hq1.out _
  have HCX0 : Hid ((w1.alloc (.cells #[.int .i64 a, .int .i64 b, .int .i64 d] 51)).drew.heap[w1.heap.size]? = some (.cells #[.int .i64 a, .int .i64 b, .int .i64 d] 51 (0, 0))) := alloc_new w1 _
  have b0 := cell_of HCX0.out 0
  have b1 := cell_of HCX0.out 1
  have b2 := cell_of HCX0.out 2
  have k2 := free_of HCX0.out 2
  have hlo : Hid (w.heap.size < w1.heap.size) := hz1
  have hkk : Hid (w1.heap.size < (w1.alloc (.cells #[.int .i64 a, .int .i64 b, .int .i64 d] 51)).drew.heap.size) := by show _ < _; simp
  generalize (w1.alloc (.cells #[.int .i64 a, .int .i64 b, .int .i64 d] 51)).drew = wX at *
  generalize w1.heap.size = g at *
  clear hc0 hc1 hc2 hq1 HQ1 hg hz1
  by_cases hd : d = 65535
  · have hn : nxt d = -1 := by unfold nxt; rw [if_pos hd]
    have HN := Lib.hid hn
    have e0 : ((d : Int) == 65535) = true := by rw [beq_iff_eq]; omega
    have HBX : Hid (Below w.heap.size w (wX.setCell ⟨g, 2, none⟩ (.int .i64 (-1)))) := bl_set HBX0.out (Nat.le_of_lt hlo.out) _
    have HQX : Hid ((wX.setCell ⟨g, 2, none⟩ (.int .i64 (-1))).heap[w.heap.size]? = some (.cells #[.int .i64 0, .int .i64 0, .int .i64 0] 51 (0, 0))) := set_other HQX0.out (a := ⟨g, 2, none⟩) (Nat.ne_of_lt hlo.out) _
    have HCX : Hid ((wX.setCell ⟨g, 2, none⟩ (.int .i64 (-1))).heap[g]? = some (.cells #[.int .i64 a, .int .i64 b, .int .i64 (-1)] 51 (0, 0))) := set_same HCX0.out 2 _
    clear hn hd
    by_cases hmay : sMay a b (-1) = true
    · have HG := Lib.hid hmay
      have HEN := Lib.hid (encode_yes a b (-1) hmay)
      clear hmay
      go_wp2_with fail
      refine (HEN.out _).mono ?_
      rintro e w2 ⟨rfl, hb2⟩
      have HB2 := Lib.hid (bl_then HBX.out hb2)
      have hq2 := blk_bl HQX.out hb2
      have l0 := cell_of hq2 0
      have l1 := cell_of hq2 1
      have l2 := cell_of hq2 2
      have f0 := free_of hq2 0
      have f1 := free_of hq2 1
      have f2 := free_of hq2 2
      have HR2 := Lib.hid hq2
      have hbx := blk_bl HCX.out hb2
      have m0 := cell_of hbx 0
      have m1 := cell_of hbx 1
      have m2 := cell_of hbx 2
      by_cases hle : sEnc a b (-1) = x
      · have HLE := Lib.hid (And.intro HG.out hle)
        rw [hle]
        clear hb2 hle HG HEN HQX HBX HCX
        go_wp2_with fail
        have hs := sdec_yes (x := x) (a := a) (b := b) (d := d) HN.out.symm HLE.out
        exact bodyPost_ret (res_ct (u := 3) rfl _ _ w.heap.size 51 #[.int .i64 a, .int .i64 b, .int .i64 (-1)] (0, 0) _ rfl (put3 HR2.out _ _ _) hu rfl (by kernel_rfl)) rfl ⟨hs, bl_put3 HB2.out (Nat.le_refl _) _ _ _⟩
      · have HLE : Hid (¬ (sMay a b (-1) = true ∧ sEnc a b (-1) = x)) := fun h => hle h.2
        have hne : ((sEnc a b (-1) : Nat) : Int) ≠ (x : Nat) := by omega
        have hs := sdec_no (x := x) (a := a) (b := b) (d := d) HN.out.symm HLE.out
        clear HLE
        generalize sEnc a b (-1) = z at *
        clear hb2 hle HG HEN HQX HBX HCX
        have e1 : ((z : Int) == (x : Int)) = false := beq_eq_false_iff_ne.2 hne
        have e2 : ((z : Int) != (x : Int)) = true := bne_iff_ne.2 hne
        go_wp2_with fail
        exact bodyPost_ret (res_ct (u := 3) rfl _ _ w.heap.size 51 #[.int .i64 0, .int .i64 0, .int .i64 0] (0, 0) _ rfl (put3 HR2.out _ _ _) hu rfl (by kernel_rfl)) rfl ⟨hs, bl_put3 HB2.out (Nat.le_refl _) _ _ _⟩
    · have HG : Hid (¬ (sMay a b (-1) = true ∧ sEnc a b (-1) = x)) := fun h => hmay h.1
      have HEN := Lib.hid (encode_no a b (-1) (by simpa using hmay))
      clear hmay
      go_wp2_with fail
      refine (HEN.out _).mono ?_
      rintro e w2 ⟨rfl, hb2⟩
      have HB2 := Lib.hid (bl_then HBX.out hb2)
      have hq2 := blk_bl HQX.out hb2
      have l0 := cell_of hq2 0
      have l1 := cell_of hq2 1
      have l2 := cell_of hq2 2
      have f0 := free_of hq2 0
      have f1 := free_of hq2 1
      have f2 := free_of hq2 2
      have HR2 := Lib.hid hq2
      clear hb2 HEN HQX HBX HCX
      go_wp2_with fail
      have hs := sdec_no (x := x) (a := a) (b := b) (d := d) HN.out.symm HG.out
      exact bodyPost_ret (res_ct (u := 3) rfl _ _ w.heap.size 51 #[.int .i64 0, .int .i64 0, .int .i64 0] (0, 0) _ rfl (put3 HR2.out _ _ _) hu rfl (by kernel_rfl)) rfl ⟨hs, bl_put3 HB2.out (Nat.le_refl _) _ _ _⟩
  · have hn : nxt d = d := by unfold nxt; rw [if_neg hd]
    have HN := Lib.hid hn
    have e0 : ((d : Int) == 65535) = false := by rw [beq_eq_false_iff_ne]; omega
    have HBX := Lib.hid HBX0.out
    have HQX := Lib.hid HQX0.out
    have HCX := Lib.hid HCX0.out
    clear hn hd
    by_cases hmay : sMay a b d = true
    · have HG := Lib.hid hmay
      have HEN := Lib.hid (encode_yes a b d hmay)
      clear hmay
      go_wp2_with fail
      refine (HEN.out _).mono ?_
      rintro e w2 ⟨rfl, hb2⟩
      have HB2 := Lib.hid (bl_then HBX.out hb2)
      have hq2 := blk_bl HQX.out hb2
      have l0 := cell_of hq2 0
      have l1 := cell_of hq2 1
      have l2 := cell_of hq2 2
      have f0 := free_of hq2 0
      have f1 := free_of hq2 1
      have f2 := free_of hq2 2
      have HR2 := Lib.hid hq2
      have hbx := blk_bl HCX.out hb2
      have m0 := cell_of hbx 0
      have m1 := cell_of hbx 1
      have m2 := cell_of hbx 2
      by_cases hle : sEnc a b d = x
      · have HLE := Lib.hid (And.intro HG.out hle)
        rw [hle]
        clear hb2 hle HG HEN HQX HBX HCX
        go_wp2_with fail
        have hs := sdec_yes (x := x) (a := a) (b := b) (d := d) HN.out.symm HLE.out
        exact bodyPost_ret (res_ct (u := 3) rfl _ _ w.heap.size 51 #[.int .i64 a, .int .i64 b, .int .i64 d] (0, 0) _ rfl (put3 HR2.out _ _ _) hu rfl (by kernel_rfl)) rfl ⟨hs, bl_put3 HB2.out (Nat.le_refl _) _ _ _⟩
      · have HLE : Hid (¬ (sMay a b d = true ∧ sEnc a b d = x)) := fun h => hle h.2
        have hne : ((sEnc a b d : Nat) : Int) ≠ (x : Nat) := by omega
        have hs := sdec_no (x := x) (a := a) (b := b) (d := d) HN.out.symm HLE.out
        clear HLE
        generalize sEnc a b d = z at *
        clear hb2 hle HG HEN HQX HBX HCX
        have e1 : ((z : Int) == (x : Int)) = false := beq_eq_false_iff_ne.2 hne
        have e2 : ((z : Int) != (x : Int)) = true := bne_iff_ne.2 hne
        go_wp2_with fail
        exact bodyPost_ret (res_ct (u := 3) rfl _ _ w.heap.size 51 #[.int .i64 0, .int .i64 0, .int .i64 0] (0, 0) _ rfl (put3 HR2.out _ _ _) hu rfl (by kernel_rfl)) rfl ⟨hs, bl_put3 HB2.out (Nat.le_refl _) _ _ _⟩
    · have HG : Hid (¬ (sMay a b d = true ∧ sEnc a b d = x)) := fun h => hmay h.1
      have HEN := Lib.hid (encode_no a b d (by simpa using hmay))
      clear hmay
      go_wp2_with fail
      refine (HEN.out _).mono ?_
      rintro e w2 ⟨rfl, hb2⟩
      have HB2 := Lib.hid (bl_then HBX.out hb2)
      have hq2 := blk_bl HQX.out hb2
      have l0 := cell_of hq2 0
      have l1 := cell_of hq2 1
      have l2 := cell_of hq2 2
      have f0 := free_of hq2 0
      have f1 := free_of hq2 1
      have f2 := free_of hq2 2
      have HR2 := Lib.hid hq2
      clear hb2 HEN HQX HBX HCX
      go_wp2_with fail
      have hs := sdec_no (x := x) (a := a) (b := b) (d := d) HN.out.symm HG.out
      exact bodyPost_ret (res_ct (u := 3) rfl _ _ w.heap.size 51 #[.int .i64 0, .int .i64 0, .int .i64 0] (0, 0) _ rfl (put3 HR2.out _ _ _) hu rfl (by kernel_rfl)) rfl ⟨hs, bl_put3 HB2.out (Nat.le_refl _) _ _ _⟩
end Go.Proofs.YtgnagbbdnlmgeaaGreat.Lo
end
section
set_option maxHeartbeats 2000000
set_option maxRecDepth 100000
namespace Go.Proofs.YtgnagbbdnlmgeaaGreat.Lo
open Go Go.RowKit
open Ob Ba Oc Pk Cr C6 Cc Su
def ok7 (x : Nat) : Bool := sMay (pa x) (pb x) (nxt (pc x)) && decide (sEnc (pa x) (pb x) (nxt (pc x)) = x)
def s7 (x : Nat) : Int × Int × Int := if ok7 x then ((pa x : Int), (pb x : Int), nxt (pc x)) else (0, 0, 0)
theorem sdec_is {x : Nat} {e : Ending} (h : SDec x (pa x) (pb x) (pc x) e) : e = .returned (.tuple #[.agg #[.int .i64 (s7 x).1, .int .i64 (s7 x).2.1, .int .i64 (s7 x).2.2], .int .i64 (if ok7 x then 0 else 2)]) := by
  obtain ⟨h1, h2⟩ := h
  by_cases hk : sMay (pa x) (pb x) (nxt (pc x)) = true ∧ sEnc (pa x) (pb x) (nxt (pc x)) = x
  · have e9 : ok7 x = true := by unfold ok7; rw [hk.1, decide_eq_true hk.2]; rfl
    rw [h1 hk]
    unfold s7
    rw [e9]
    rfl
  · have e9 : ok7 x = false := by
      unfold ok7
      by_cases hm : sMay (pa x) (pb x) (nxt (pc x)) = true
      · rw [decide_eq_false (fun h => hk ⟨hm, h⟩)]; simp
      · rw [show sMay (pa x) (pb x) (nxt (pc x)) = false from by simpa using hm]; rfl
    rw [h2 hk]
    unfold s7
    rw [e9]
    rfl
def R7 (x : Nat) (e : Ending) : Prop := e = .returned (.tuple #[.agg #[.int .i64 (s7 x).1, .int .i64 (s7 x).2.1, .int .i64 (s7 x).2.2], .bool (ok7 x)])
theorem r7_no {x : Nat} (h : ok7 x = false) : R7 x (.returned (.tuple #[.agg #[.int .i64 0, .int .i64 0, .int .i64 0], .bool false])) := by unfold R7 s7; rw [h]; rfl
theorem r7_yes {x a b : Nat} {n : Int} (ha : a = pa x) (hb : b = pb x) (hn : n = nxt (pc x)) (h : ok7 x = true) : R7 x (.returned (.tuple #[.agg #[.int .i64 a, .int .i64 b, .int .i64 n], .bool true])) := by unfold R7 s7; rw [h, ha, hb, hn]; rfl
theorem rdecode_ (x : Nat) (hx : x < 18446744073709551616) (w : World) :
    Calls Tryz.prog 83 #[.int .u64 x] w fun e w' => R7 x e ∧ Below w.heap.size w w' := by
  have hu := Tryz.underlying54
  obtain ⟨a, ha⟩ : ∃ a, a = pa x := ⟨_, rfl⟩
  obtain ⟨b, hb⟩ : ∃ b, b = pb x := ⟨_, rfl⟩
  obtain ⟨d, hd⟩ : ∃ d, d = pc x := ⟨_, rfl⟩
  obtain ⟨y1, hy1⟩ : ∃ y1, y1 = x / 65536 := ⟨_, rfl⟩
  obtain ⟨y2, hy2⟩ : ∃ y2, y2 = x / 4294967296 := ⟨_, rfl⟩
  have ha9 : a < 65536 := by rw [ha]; exact Nat.mod_lt _ (by decide)
  have hb9 : b < 65536 := by rw [hb]; exact Nat.mod_lt _ (by decide)
  have hd9 : d < 65536 := by rw [hd]; exact Nat.mod_lt _ (by decide)
  have q0 : (x : Int) % 65536 = (a : Int) := by rw [ha]; unfold pa; omega
  have q1 : (x : Int) / 65536 = (y1 : Int) := by rw [hy1]; omega
  have q2 : (y1 : Int) % 65536 = (b : Int) := by rw [hb, hy1]; unfold pb; omega
  have q3 : (x : Int) / 4294967296 = (y2 : Int) := by rw [hy2]; omega
  have q4 : (y2 : Int) % 65536 = (d : Int) := by rw [hd, hy2]; unfold pc; omega
  have HK : Hid (ok7 x = (sMay a b (nxt d) && decide (sEnc a b (nxt d) = x))) := by show _ = _; rw [ha, hb, hd]; rfl
  have HF : Hid (a = pa x ∧ b = pb x ∧ nxt d = nxt (pc x)) := ⟨ha, hb, by rw [hd]⟩
  have hR := alloc_old (alloc_new w (.cells #[.int .i64 0, .int .i64 0, .int .i64 0] 54)) (.cells #[.int .i64 a, .int .i64 b, .int .i64 (nxt d)] 54)
  have hN := alloc_new (w.alloc (.cells #[.int .i64 0, .int .i64 0, .int .i64 0] 54)) (.cells #[.int .i64 a, .int .i64 b, .int .i64 (nxt d)] 54)
  rw [World.size_alloc] at hN
  have hB : Below w.heap.size w ((w.alloc (.cells #[.int .i64 0, .int .i64 0, .int .i64 0] 54)).alloc (.cells #[.int .i64 a, .int .i64 b, .int .i64 (nxt d)] 54)) := bl_alloc (bl_alloc (Below.refl _ _) _) _
  have HR := Lib.hid hR
  have HN := Lib.hid hN
  have HB := Lib.hid hB
  clear ha hb hd hy1 hy2 hR hN hB
  obtain ⟨n, hnd⟩ : ∃ n, n = nxt d := ⟨_, rfl⟩
  rw [← hnd] at HK HF HR HN HB
  by_cases hd : d = 65535
  have hn : n = -1 := by rw [hnd]; unfold nxt; rw [if_pos hd]
  have e0 : ((d : Int) == 65535) = true := by rw [beq_iff_eq]; omega
  have HNN := Lib.hid hn
  clear hn hd hnd
  go_enter Tryz.func83, Tryz.ntmps83
  go_wp2_with fail
  rw [← HNN.out]
  rotate_left
  have hn : n = d := by rw [hnd]; unfold nxt; rw [if_neg hd]
  have e0 : ((d : Int) == 65535) = false := by rw [beq_eq_false_iff_ne]; omega
  have HNN := Lib.hid hn
  clear hn hd hnd
  go_enter Tryz.func83, Tryz.ntmps83
  go_wp2_with fail
  rw [← HNN.out]
  rotate_left
  all_goals
    by_cases hmay : sMay a b n = true
    · have HG := Lib.hid hmay
      have HEN := Lib.hid (rencode_yes a b n hmay)
      clear hmay
      refine (HEN.out _).mono ?_
      rintro e w3 ⟨rfl, hb3⟩
      have HB3 := Lib.hid (bl_then HB.out hb3)
      have HR3 := Lib.hid (blk_bl HR.out hb3)
      have hm3 := blk_bl HN.out hb3
      have l0 := cell_of HR3.out 0
      have l1 := cell_of HR3.out 1
      have l2 := cell_of HR3.out 2
      have f0 := free_of HR3.out 0
      have f1 := free_of HR3.out 1
      have f2 := free_of HR3.out 2
      have m0 := cell_of hm3 0
      have m1 := cell_of hm3 1
      have m2 := cell_of hm3 2
      clear hb3 hm3
      obtain ⟨E, hE⟩ : ∃ E, E = sEnc a b n := ⟨_, rfl⟩
      rw [← hE] at HK
      rw [← hE]
      clear hE HEN
      by_cases hEx : E = x
      · have e1 : ((E : Int) != (x : Int)) = false := by simp [hEx]
        have HKY : Hid (ok7 x = true) := by show _ = _; rw [HK.out, HG.out, decide_eq_true hEx]; rfl
        clear hEx
        go_wp2_with fail
        exact bodyPost_ret (res_ct (u := 3) rfl _ _ w.heap.size 54 #[.int .i64 a, .int .i64 b, .int .i64 n] (0, 0) _ rfl (put3 HR3.out _ _ _) hu rfl (by kernel_rfl)) rfl ⟨r7_yes HF.out.1 HF.out.2.1 HF.out.2.2 HKY.out, bl_put3 HB3.out (Nat.le_refl _) _ _ _⟩
      · have e1 : ((E : Int) != (x : Int)) = true := by rw [bne_iff_ne]; omega
        have HKN : Hid (ok7 x = false) := by show _ = _; rw [HK.out, decide_eq_false hEx]; simp
        clear hEx
        go_wp2_with fail
        exact bodyPost_ret (res_ct (u := 3) rfl _ _ w.heap.size 54 #[.int .i64 0, .int .i64 0, .int .i64 0] (0, 0) _ rfl (put3 HR3.out _ _ _) hu rfl (by kernel_rfl)) rfl ⟨r7_no HKN.out, bl_put3 HB3.out (Nat.le_refl _) _ _ _⟩
    · have hno : sMay a b n = false := by simpa using hmay
      have HKN : Hid (ok7 x = false) := by show _ = _; rw [HK.out, hno]; rfl
      have HEN := Lib.hid (rencode_no a b n hno)
      clear hmay hno
      refine (HEN.out _).mono ?_
      rintro e w3 ⟨rfl, hb3⟩
      have HB3 := Lib.hid (bl_then HB.out hb3)
      have HR3 := Lib.hid (blk_bl HR.out hb3)
      have l0 := cell_of HR3.out 0
      have l1 := cell_of HR3.out 1
      have l2 := cell_of HR3.out 2
      have f0 := free_of HR3.out 0
      have f1 := free_of HR3.out 1
      have f2 := free_of HR3.out 2
      clear hb3
      go_wp2_with fail
      exact bodyPost_ret (res_ct (u := 3) rfl _ _ w.heap.size 54 #[.int .i64 0, .int .i64 0, .int .i64 0] (0, 0) _ rfl (put3 HR3.out _ _ _) hu rfl (by kernel_rfl)) rfl ⟨r7_no HKN.out, bl_put3 HB3.out (Nat.le_refl _) _ _ _⟩
end Go.Proofs.YtgnagbbdnlmgeaaGreat.Lo
end
