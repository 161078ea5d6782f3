/- Parts of the proof, one behind the other: Ro, Jc, R0, R1, Jd. -/
import Derived.Test.YtgnagbbdnlmgeaaGreatC10
import Derived.Test.YtgnagbbdnlmgeaaGreatC08
import Derived.Test.YtgnagbbdnlmgeaaGreatC09
import Derived.Test.YtgnagbbdnlmgeaaGreatC03
import Derived.Test.YtgnagbbdnlmgeaaGreatC02
import Derived.RegionTactic
import Derived.BigRegion
import Derived.Test.YtgnagbbdnlmgeaaGreatC05
import Derived.Test.YtgnagbbdnlmgeaaGreatC06

/- record.Decode of a line. -/
section
set_option linter.unusedVariables false
set_option linter.unusedSimpArgs false
set_option maxHeartbeats 2000000
set_option maxRecDepth 100000
namespace Go.Proofs.YtgnagbbdnlmgeaaGreat.Rj
open Go Go.RowKit
open Go.Proofs.YtgnagbbdnlmgeaaGreat.Ob Go.Proofs.YtgnagbbdnlmgeaaGreat.Ba Go.Proofs.YtgnagbbdnlmgeaaGreat.Oc Go.Proofs.YtgnagbbdnlmgeaaGreat.Pk Go.Proofs.YtgnagbbdnlmgeaaGreat.Su Go.Proofs.YtgnagbbdnlmgeaaGreat.Cc Go.Proofs.YtgnagbbdnlmgeaaGreat.Cr

/-- what a line is: 0 nothing, 1 a record, 2 torn -/
def ok9 (l : List Nat) : Bool := decide (rOk (l.getD 0 0 / 65536 % 65536 : Nat) (l.getD 0 0 / 4294967296 % 65536 : Nat) (l.getD 0 0 / 281474976710656 : Nat) (min (l.getD 1 0) 65535 : Nat)) &&
  decide (line (pv (f16s [1, l.getD 0 0 / 65536 % 65536, l.getD 0 0 / 4294967296 % 65536, l.getD 0 0 / 281474976710656])) (min (l.getD 1 0) 65535) = l)
def st9 (l : List Nat) : Int := if mxl l = 0 then 0 else if ok9 l then 1 else 2
def r9 (l : List Nat) : Int × Int × Int × Int := if mxl l ≠ 0 ∧ ok9 l = true then (((l.getD 0 0 / 65536 % 65536 : Nat) : Int), ((l.getD 0 0 / 4294967296 % 65536 : Nat) : Int), ((l.getD 0 0 / 281474976710656 : Nat) : Int), ((min (l.getD 1 0) 65535 : Nat) : Int)) else (0, 0, 0, 0)
def D9 (l : List Nat) (e : Ending) : Prop := e = .returned (.tuple #[.agg #[.int .i64 (r9 l).1, .int .i64 (r9 l).2.1, .int .i64 (r9 l).2.2.1, .int .i64 (r9 l).2.2.2], .int .i64 (st9 l)])
theorem d9_zero {l : List Nat} (h : mxl l = 0) : D9 l (.returned (.tuple #[.agg #[.int .i64 0, .int .i64 0, .int .i64 0, .int .i64 0], .int .i64 0])) := by unfold D9 r9 st9; rw [if_pos h, if_neg (fun h2 => h2.1 h)]
theorem d9_no {l : List Nat} (h : mxl l ≠ 0) (h2 : ok9 l = false) : D9 l (.returned (.tuple #[.agg #[.int .i64 0, .int .i64 0, .int .i64 0, .int .i64 0], .int .i64 2])) := by unfold D9 r9 st9; rw [if_neg h, if_neg (by rw [h2]; simp), h2, if_neg (by simp)]
theorem d9_yes {l : List Nat} {a b c n : Nat} (h : mxl l ≠ 0) (h2 : ok9 l = true) (ha : a = l.getD 0 0 / 65536 % 65536) (hb : b = l.getD 0 0 / 4294967296 % 65536) (hc : c = l.getD 0 0 / 281474976710656) (hn : n = min (l.getD 1 0) 65535) : D9 l (.returned (.tuple #[.agg #[.int .i64 a, .int .i64 b, .int .i64 c, .int .i64 n], .int .i64 1])) := by
  unfold D9 r9 st9
  rw [if_neg h, if_pos ⟨h, h2⟩, h2, if_pos rfl, ha, hb, hc, hn]

theorem spl4 (x : Nat) (hx : x < 18446744073709551616) : spl x [16, 16, 16, 16] = [x % 65536, x / 65536 % 65536, x / 4294967296 % 65536, x / 281474976710656] := by
  simp only [spl]
  simp
  omega
theorem four_rk (w : World) (q T : Nat) (fr : Nat × Nat) (h : w.heap[q]? = some (.cells #[.int .i64 16, .int .i64 16, .int .i64 16, .int .i64 16] T fr)) : Rk .i64 w (some ⟨q, 0, none⟩) (ints [16, 16, 16, 16]) := by
  refine blk_rk h fun i x hx => ?_
  match i with
  | 0 => simpa [ints] using hx
  | 1 => simpa [ints] using hx
  | 2 => simpa [ints] using hx
  | 3 => simpa [ints] using hx
  | i + 4 => simp [ints] at hx
theorem put4 {W : World} {k T : Nat} {x0 x1 x2 x3 : Value} (h : W.heap[k]? = some (.cells #[x0, x1, x2, x3] T (0, 0))) (y0 y1 y2 y3 : Value) :
    ((((W.setCell ⟨k, 0, none⟩ y0).setCell ⟨k, 1, none⟩ y1).setCell ⟨k, 2, none⟩ y2).setCell ⟨k, 3, none⟩ y3).heap[k]? = some (.cells #[y0, y1, y2, y3] T (0, 0)) := by
  rw [set_same (set_same (set_same (set_same h 0 y0) 1 y1) 2 y2) 3 y3]; rfl
theorem bl_put4 {w W : World} {k : Nat} (h : Below w.heap.size w W) (hk : w.heap.size ≤ k) (y0 y1 y2 y3 : Value) : Below w.heap.size w ((((W.setCell ⟨k, 0, none⟩ y0).setCell ⟨k, 1, none⟩ y1).setCell ⟨k, 2, none⟩ y2).setCell ⟨k, 3, none⟩ y3) := bl_set (bl_set (bl_set (bl_set h hk _) hk _) hk _) hk _

theorem dec_zero {w : World} {A : Option Addr} {l : List Nat} (h : Rk .u64 w A (ints l)) (c : Nat) (hl : l.length = 8) (hlt : ∀ x ∈ l, x < 18446744073709551616) (hz : mxl l = 0) :
    Calls Tryz.prog 91 #[.slice A 8 c] w fun e w' => D9 l e ∧ Below w.heap.size w w' := by
  have hu := Tryz.underlying70
  have hmx := max_ (h.below (bl_alloc (Below.refl _ _) (.cells #[.int .i64 0, .int .i64 0, .int .i64 0, .int .i64 0] 70))) hlt c (by omega) (by omega)
  rw [hl, hz] at hmx
  have HMX := Lib.hid hmx
  have HZ := Lib.hid hz
  have hq1 := Lib.hid (alloc_new w (.cells #[.int .i64 0, .int .i64 0, .int .i64 0, .int .i64 0] 70))
  have l0 := cell_of hq1.out 0
  have l1 := cell_of hq1.out 1
  have l2 := cell_of hq1.out 2
  have l3 := cell_of hq1.out 3
  have f0 := free_of hq1.out 0
  have f1 := free_of hq1.out 1
  have f2 := free_of hq1.out 2
  have f3 := free_of hq1.out 3
  clear h hlt hl hz hmx
  go_enter Tryz.func91, Tryz.ntmps91
  go_wp2_with fail
  refine HMX.out.mono ?_
  rintro e w1 ⟨rfl, rfl⟩
  go_wp2_with fail
  exact bodyPost_ret (res_ct (u := 3) rfl _ _ w.heap.size 70 #[.int .i64 0, .int .i64 0, .int .i64 0, .int .i64 0] (0, 0) _ rfl hq1.out hu rfl (by kernel_rfl)) rfl ⟨d9_zero HZ.out, bl_alloc (Below.refl _ _) _⟩

theorem dec_rest {w : World} {A : Option Addr} {l : List Nat} (h : Rk .u64 w A (ints l)) (c : Nat) (hl : l.length = 8) (hlt : ∀ x ∈ l, x < 18446744073709551616) (hz : mxl l ≠ 0) :
    Calls Tryz.prog 91 #[.slice A 8 c] w fun e w' => D9 l e ∧ Below w.heap.size w w' := by
  have hu := Tryz.underlying70
  have hmx := max_ (h.below (bl_alloc (Below.refl _ _) (.cells #[.int .i64 0, .int .i64 0, .int .i64 0, .int .i64 0] 70))) hlt c (by omega) (by omega)
  obtain ⟨M, hM⟩ : ∃ M, M = mxl l := ⟨_, rfl⟩
  rw [hl, ← hM] at hmx
  have hM0 : (((M : Nat) : Int) == 0) = false := beq_eq_false_iff_ne.2 (by omega)
  have HMX := Lib.hid hmx
  have HZ := Lib.hid hz
  obtain ⟨x, hx0⟩ := some_at (l := l) (i := 0) (by omega)
  obtain ⟨y, hy1⟩ := some_at (l := l) (i := 1) (by omega)
  have hxe : l.getD 0 0 = x := by rw [List.getD_eq_getElem?_getD, hx0]; rfl
  have hye : l.getD 1 0 = y := by rw [List.getD_eq_getElem?_getD, hy1]; rfl
  have hx64 := hlt x (List.mem_of_getElem? hx0)
  have hy64 := hlt y (List.mem_of_getElem? hy1)
  obtain ⟨a0, ha0⟩ : ∃ a0, a0 = x % 65536 := ⟨_, rfl⟩
  obtain ⟨a, ha1⟩ : ∃ a, a = x / 65536 % 65536 := ⟨_, rfl⟩
  obtain ⟨b, hb1⟩ : ∃ b, b = x / 4294967296 % 65536 := ⟨_, rfl⟩
  obtain ⟨d, hd1⟩ : ∃ d, d = x / 281474976710656 := ⟨_, rfl⟩
  obtain ⟨n, hn1⟩ : ∃ n, n = min y 65535 := ⟨_, rfl⟩
  have ha9 : a < 65536 := by omega
  have hb9 : b < 65536 := by omega
  have hd9 : d < 65536 := by omega
  have hn9 : n < 65536 := by omega
  have HF : Hid (a = l.getD 0 0 / 65536 % 65536 ∧ b = l.getD 0 0 / 4294967296 % 65536 ∧ d = l.getD 0 0 / 281474976710656 ∧ n = min (l.getD 1 0) 65535) := ⟨by rw [hxe]; exact ha1, by rw [hxe]; exact hb1, by rw [hxe]; exact hd1, by rw [hye]; exact hn1⟩
  have HOK : Hid (ok9 l = (decide (rOk a b d n) && decide (line (pv (f16s [1, a, b, d])) n = l))) := by
    show _ = _
    unfold ok9
    rw [hxe, hye, ← ha1, ← hb1, ← hd1, ← hn1]
  have H := Lib.hid h
  obtain ⟨ad, rfl, had0, hax⟩ := h 0 x (ints_get hx0)
  obtain ⟨_, e2, -, hby⟩ := h 1 y (ints_get hy1)
  cases e2
  have hax : w.cell? ad = some (.int .u64 x) := hax
  have hby : w.cell? ⟨ad.block, ad.off + 1, none⟩ = some (.int .u64 y) := hby
  have HL := Lib.hid hl
  have hal : ((w.alloc (.cells #[.int .i64 0, .int .i64 0, .int .i64 0, .int .i64 0] 70)).alloc (.cells #[.int .i64 16, .int .i64 16, .int .i64 16, .int .i64 16] 3)).heap[w.heap.size + 1]? = some (.cells #[.int .i64 16, .int .i64 16, .int .i64 16, .int .i64 16] 3 (0, 0)) := by
    have := alloc_new (w.alloc (.cells #[.int .i64 0, .int .i64 0, .int .i64 0, .int .i64 0] 70)) (.cells #[.int .i64 16, .int .i64 16, .int .i64 16, .int .i64 16] 3)
    rw [World.size_alloc] at this
    exact this
  have hsp := split_ (four_rk _ _ _ _ hal) x hx64 4 (by simp) (by decide) (by decide)
  have hne : x / 2 ^ ([16, 16, 16, 16] : List Nat).sum = 0 := by simp; omega
  rw [decide_eq_true hne, spl4 x hx64, ← ha0, ← ha1, ← hb1, ← hd1, show ([16, 16, 16, 16] : List Nat).length = 4 from rfl] at hsp
  have HS := Lib.hid (And.intro hsp hne)
  have HO := Lib.hid (alloc_old (alloc_new w (.cells #[.int .i64 0, .int .i64 0, .int .i64 0, .int .i64 0] 70)) (.cells #[.int .i64 16, .int .i64 16, .int .i64 16, .int .i64 16] 3))
  have hnc : (y ≤ 65535 ∧ n = y) ∨ (65535 < y ∧ n = 65535) := by omega
  clear hsp hal hne h hl hlt hx0 hy1 hxe hye ha1 hb1 hd1 hn1 hM hz hmx ha0
  go_enter Tryz.func91, Tryz.ntmps91
  go_wp2_with fail
  refine HMX.out.mono ?_
  rintro e w1 ⟨rfl, rfl⟩
  go_wp2_with fail
  refine (show Calls _ _ #[.int .u64 x, .slice (some ⟨w.heap.size + 1, 0, none⟩) 4 4] _ _ from HS.out.1).mono ?_
  rintro e w1 ⟨v, rfl, hown, hb1⟩
  replace hown := hown HS.out.2
  obtain ⟨A1, c1, rfl⟩ := own_slice hown
  obtain ⟨g1, rfl, hc0, hf0⟩ := own_at (i := 1) (x := (a : Nat)) hown rfl
  obtain ⟨g2, e2, hc1, hf1⟩ := own_at (i := 2) (x := (b : Nat)) hown rfl
  cases e2
  obtain ⟨g3, e3, hc2, hf2⟩ := own_at (i := 3) (x := (d : Nat)) hown rfl
  cases e3
  obtain ⟨hc, hf⟩ := bcell (bl_then (bl_alloc (bl_alloc (Below.refl _ _) _) _) hb1)
  have hq1 : Hid (w1.heap[w.heap.size]? = some (.cells #[.int .i64 0, .int .i64 0, .int .i64 0, .int .i64 0] 70 (0, 0))) := blk_bl HO.out hb1
  have HQ1 : Hid (Below w.heap.size w w1) := bl_then (bl_alloc (bl_alloc (Below.refl _ _) _) _) hb1
  have hy1 : w1.cell? ⟨ad.block, ad.off + 1, none⟩ = some (.int .u64 y) := by rw [hc _ _ had0]; exact hby
  have hg : g1 < w1.heap.size := by
    have := hc0
    unfold World.cell? at this
    cases hq : w1.heap[g1]? with
    | none => simp [hq] at this
    | some o => exact lt_of hq
  have had : ad.block < w1.heap.size := Nat.lt_of_lt_of_le had0 HQ1.out.size
  have hz1 : w.heap.size < w1.heap.size := lt_of hq1.out
  clear hown hb1 hf0 hf1 hf2 hax hby hc hf
  go_wp2_with fail
  have HND : Hid (((w1.alloc (.cells #[.int .i64 a, .int .i64 b, .int .i64 d, .int .i64 n] 70)).drew).heap[w1.heap.size]? = some (.cells #[.int .i64 a, .int .i64 b, .int .i64 d, .int .i64 n] 70 (0, 0))) := alloc_new w1 _
  rcases hnc with ⟨hny, rfl⟩ | ⟨hny, rfl⟩
  · go_region
    by_cases hgeo : rOk a b d n
    · have hen := encode_yes a b d n hgeo
      have hn8 : (line (pv (f16s [1, a, b, d])) n).length = 8 := rfl
      have HG : Hid (rOk a b d n) := hgeo
      obtain ⟨L6, hL6⟩ : ∃ L6, L6 = line (pv (f16s [1, a, b, d])) n := ⟨_, rfl⟩
      rw [← hL6] at hen hn8 HOK
      have HEN := Lib.hid hen
      clear hgeo hen hL6
      go_wp2_with fail
      refine (HEN.out _).mono ?_
      rintro e w2 ⟨v2, rfl, hown2, hb2⟩
      have hb2' : Below w1.heap.size w1 w2 := bl_then (bl_drew (bl_alloc (Below.refl _ _) _)) hb2
      obtain ⟨A2, c2, rfl⟩ := own_slice hown2
      have hrk2 := (own_rk (k := .u64) hown2).1
      have hlr : Rk .u64 w2 (some ad) (ints l) := H.out.below (bl_then HQ1.out hb2')
      have heq := Go.Proofs.YtgnagbbdnlmgeaaGreat.Pm.equal_any (rk_rd hrk2) (rk_rd hlr) c2 c (by rw [ints_length, hn8]; decide) (by rw [ints_length, HL.out]; decide)
      rw [ints_length, ints_length, hn8, HL.out] at heq
      have HE := Lib.hid heq
      have hgb := blk_bl (W := (w1.alloc (.cells #[.int .i64 a, .int .i64 b, .int .i64 d, .int .i64 n] 70)).drew) HND.out hb2
      have m0 := cell_of hgb 0
      have m1 := cell_of hgb 1
      have m2 := cell_of hgb 2
      have m3 := cell_of hgb 3
      have hq2 := Lib.hid (blk_bl hq1.out hb2')
      have HQ2 := Lib.hid (bl_then HQ1.out hb2')
      have hgl := lt_of hgb
      have l0 := cell_of hq2.out 0
      have l1 := cell_of hq2.out 1
      have l2 := cell_of hq2.out 2
      have l3 := cell_of hq2.out 3
      have f0 := free_of hq2.out 0
      have f1 := free_of hq2.out 1
      have f2 := free_of hq2.out 2
      have f3 := free_of hq2.out 3
      clear hown2 hb2 hb2' hrk2 hlr heq hgb hn8
      go_wp2_with fail
      refine HE.out.mono ?_
      rintro e w3 ⟨rfl, n3, rfl⟩
      by_cases hle : ints L6 = ints l
      · have hle' : L6 = l := ints_inj.1 hle
        rw [decide_eq_true hle]
        have HLE : Hid (ok9 l = true) := by show _ = _; rw [HOK.out, decide_eq_true HG.out, decide_eq_true hle']; rfl
        clear hle hle'
        go_wp2_with fail
        exact bodyPost_ret (res_ct (u := 3) rfl _ _ w.heap.size 70 #[.int .i64 a, .int .i64 b, .int .i64 d, .int .i64 n] (0, 0) _ rfl (put4 hq2.out _ _ _ _) hu rfl (by kernel_rfl)) rfl ⟨d9_yes HZ.out HLE.out HF.out.1 HF.out.2.1 HF.out.2.2.1 HF.out.2.2.2, bl_put4 (bl_drewN HQ2.out _) (Nat.le_refl _) _ _ _ _⟩
      · rw [decide_eq_false hle]
        have HLE : Hid (ok9 l = false) := by show _ = _; rw [HOK.out, decide_eq_false (p := L6 = l) (fun h => hle (by rw [h]))]; simp
        clear hle
        go_wp2_with fail
        exact bodyPost_ret (res_ct (u := 3) rfl _ _ w.heap.size 70 #[.int .i64 0, .int .i64 0, .int .i64 0, .int .i64 0] (0, 0) _ rfl (put4 hq2.out _ _ _ _) hu rfl (by kernel_rfl)) rfl ⟨d9_no HZ.out HLE.out, bl_put4 (bl_drewN HQ2.out _) (Nat.le_refl _) _ _ _ _⟩
    · have HLE : Hid (ok9 l = false) := by show _ = _; rw [HOK.out, decide_eq_false hgeo]; rfl
      have HEN := Lib.hid (encode_no a b d n hgeo)
      clear hgeo
      go_wp2_with fail
      refine (HEN.out _).mono ?_
      rintro e w2 ⟨rfl, hb2⟩
      have hb2' : Below w1.heap.size w1 w2 := bl_then (bl_drew (bl_alloc (Below.refl _ _) _)) hb2
      have hq2 := Lib.hid (blk_bl hq1.out hb2')
      have HQ2 := Lib.hid (bl_then HQ1.out hb2')
      have l0 := cell_of hq2.out 0
      have l1 := cell_of hq2.out 1
      have l2 := cell_of hq2.out 2
      have l3 := cell_of hq2.out 3
      have f0 := free_of hq2.out 0
      have f1 := free_of hq2.out 1
      have f2 := free_of hq2.out 2
      have f3 := free_of hq2.out 3
      clear hb2 hb2'
      go_wp2_with fail
      exact bodyPost_ret (res_ct (u := 3) rfl _ _ w.heap.size 70 #[.int .i64 0, .int .i64 0, .int .i64 0, .int .i64 0] (0, 0) _ rfl (put4 hq2.out _ _ _ _) hu rfl (by kernel_rfl)) rfl ⟨d9_no HZ.out HLE.out, bl_put4 HQ2.out (Nat.le_refl _) _ _ _ _⟩
  · have hgeo : ¬ rOk a b d ((65535 : Nat) : Int) := fun h => by have := h.2.2.2.2; omega
    have hgeo2 : ¬ rOk a b d (65535 : Int) := fun h => by have := h.2.2.2.2; omega
    have HLE : Hid (ok9 l = false) := by show _ = _; rw [HOK.out, decide_eq_false hgeo]; rfl
    have HEN := Lib.hid (encode_no a b d 65535 hgeo2)
    clear hgeo hgeo2 hn9 HND HF HOK
    go_region
    go_wp2_with fail
    refine (HEN.out _).mono ?_
    rintro e w2 ⟨rfl, hb2⟩
    have hb2' : Below w1.heap.size w1 w2 := bl_then (bl_drew (bl_alloc (Below.refl _ _) _)) hb2
    have hq2 := Lib.hid (blk_bl hq1.out hb2')
    have HQ2 := Lib.hid (bl_then HQ1.out hb2')
    have l0 := cell_of hq2.out 0
    have l1 := cell_of hq2.out 1
    have l2 := cell_of hq2.out 2
    have l3 := cell_of hq2.out 3
    have f0 := free_of hq2.out 0
    have f1 := free_of hq2.out 1
    have f2 := free_of hq2.out 2
    have f3 := free_of hq2.out 3
    clear hb2 hb2'
    go_wp2_with fail
    exact bodyPost_ret (res_ct (u := 3) rfl _ _ w.heap.size 70 #[.int .i64 0, .int .i64 0, .int .i64 0, .int .i64 0] (0, 0) _ rfl (put4 hq2.out _ _ _ _) hu rfl (by kernel_rfl)) rfl ⟨d9_no HZ.out HLE.out, bl_put4 HQ2.out (Nat.le_refl _) _ _ _ _⟩

theorem decode_ {w : World} {A : Option Addr} {l : List Nat} (h : Rk .u64 w A (ints l)) (c : Nat) (hl : l.length = 8) (hlt : ∀ x ∈ l, x < 18446744073709551616) :
    Calls Tryz.prog 91 #[.slice A 8 c] w fun e w' => D9 l e ∧ Below w.heap.size w w' := by
  by_cases hz : mxl l = 0
  · exact dec_zero h c hl hlt hz
  · exact dec_rest h c hl hlt hz

end Go.Proofs.YtgnagbbdnlmgeaaGreat.Rj
end

/- cantleref09.Decode. -/
section
set_option linter.unusedVariables false
set_option linter.unusedSimpArgs false
set_option maxHeartbeats 2000000
set_option maxRecDepth 100000
namespace Go.Proofs.YtgnagbbdnlmgeaaGreat.R9
open Go Go.RowKit
open Go.Proofs.YtgnagbbdnlmgeaaGreat.Ob Go.Proofs.YtgnagbbdnlmgeaaGreat.Ba Go.Proofs.YtgnagbbdnlmgeaaGreat.Oc Go.Proofs.YtgnagbbdnlmgeaaGreat.Pk Go.Proofs.YtgnagbbdnlmgeaaGreat.Su Go.Proofs.YtgnagbbdnlmgeaaGreat.Cc Go.Proofs.YtgnagbbdnlmgeaaGreat.Cr Go.Proofs.YtgnagbbdnlmgeaaGreat.Rj

/-- (a structure: 'assumption' sees through a definition) -/
structure K9 (l : List Nat) (a b d n : Nat) (L : List Nat) : Prop where
  out : ok9 l = (decide (rOk a b d n) && decide (L = l))
structure O9 (l : List Nat) (t : Bool) : Prop where
  out : ok9 l = t
theorem rdec_ {w : World} {A : Option Addr} {l : List Nat} (h : Rk .u64 w A (ints l)) (c : Nat) (hl : l.length = 8) (hlt : ∀ x ∈ l, x < 18446744073709551616) :
    Calls Tryz.prog 93 #[.slice A 8 c] w fun e w' => D9 l e ∧ Below w.heap.size w w' := by
  have hu := Tryz.underlying74
  obtain ⟨x, hx0⟩ := some_at (l := l) (i := 0) (by omega)
  obtain ⟨y, hy1⟩ := some_at (l := l) (i := 1) (by omega)
  have hxe : l.getD 0 0 = x := by rw [List.getD_eq_getElem?_getD, hx0]; rfl
  have hye : l.getD 1 0 = y := by rw [List.getD_eq_getElem?_getD, hy1]; rfl
  have hx64 := hlt x (List.mem_of_getElem? hx0)
  have hy64 := hlt y (List.mem_of_getElem? hy1)
  obtain ⟨y1, hq1⟩ : ∃ y1, y1 = x / 65536 := ⟨_, rfl⟩
  obtain ⟨y2, hq2⟩ : ∃ y2, y2 = x / 4294967296 := ⟨_, rfl⟩
  obtain ⟨a, ha1⟩ : ∃ a, a = y1 % 65536 := ⟨_, rfl⟩
  obtain ⟨b, hb1⟩ : ∃ b, b = y2 % 65536 := ⟨_, rfl⟩
  obtain ⟨d, hd1⟩ : ∃ d, d = x / 281474976710656 := ⟨_, rfl⟩
  have ha9 : a < 65536 := by omega
  have hb9 : b < 65536 := by omega
  have hd9 : d < 65536 := by omega
  have q1 : (x : Int) / 65536 = (y1 : Int) := by omega
  have q2 : (y1 : Int) % 65536 = (a : Int) := by omega
  have q3 : (x : Int) / 4294967296 = (y2 : Int) := by omega
  have q4 : (y2 : Int) % 65536 = (b : Int) := by omega
  have q5 : (x : Int) / 281474976710656 = (d : Int) := by omega
  have HF : Hid (a = l.getD 0 0 / 65536 % 65536 ∧ b = l.getD 0 0 / 4294967296 % 65536 ∧ d = l.getD 0 0 / 281474976710656 ∧ min (l.getD 1 0) 65535 = min y 65535) := ⟨by rw [hxe, ha1, hq1], by rw [hxe, hb1, hq2], by rw [hxe, hd1], by rw [hye]⟩
  have HOK : Hid (ok9 l = (decide (rOk a b d (min y 65535 : Nat)) && decide (line (pv (f16s [1, a, b, d])) (min y 65535) = l))) := by
    show _ = _
    unfold ok9
    rw [← HF.out.1, ← HF.out.2.1, ← HF.out.2.2.1, hye]
  obtain ⟨mn, hmn⟩ : ∃ mn, mn = min y 65535 := ⟨_, rfl⟩
  rw [← hmn] at HOK HF
  have HMN : Hid ((65535 < y → mn = 65535) ∧ (y ≤ 65535 → mn = y)) := by show _ ∧ _; omega
  clear hmn
  obtain ⟨LN, hLN⟩ : ∃ LN : List Nat, LN = line (pv (f16s [1, a, b, d])) mn := ⟨_, rfl⟩
  rw [← hLN] at HOK
  have HOK' : K9 l a b d mn LN := ⟨HOK.out⟩
  clear HOK
  have HLN := Lib.hid (And.intro hLN (show LN.length = 8 from by rw [hLN]; rfl))
  clear hLN
  have H := Lib.hid h
  obtain ⟨ad, rfl, ha0, ha⟩ := h 0 x (ints_get hx0)
  obtain ⟨_, e2, -, hb⟩ := h 1 y (ints_get hy1)
  cases e2
  have ha : w.cell? ad = some (.int .u64 x) := ha
  have hb : w.cell? ⟨ad.block, ad.off + 1, none⟩ = some (.int .u64 y) := hb
  have HL := Lib.hid hl
  obtain ⟨W1, hW1⟩ : ∃ W1, W1 = w.alloc (.cells #[.int .i64 0, .int .i64 0, .int .i64 0, .int .i64 0] 74) := ⟨_, rfl⟩
  have HW1 := Lib.hid hW1
  have HQ1 : Hid (W1.heap[w.heap.size]? = some (.cells #[.int .i64 0, .int .i64 0, .int .i64 0, .int .i64 0] 74 (0, 0))) := by show _ = _; rw [hW1]; exact alloc_new w _
  have HB1 : Hid (Below w.heap.size w W1) := by show Below _ _ _; rw [hW1]; exact bl_alloc (Below.refl _ _) _
  have HS1 : Hid (W1.heap.size = w.heap.size + 1) := by show _ = _; rw [hW1]; simp
  clear h hl hlt hx0 hy1 hxe hye ha1 hb1 hd1 hq1 hq2 hW1
  go_enter Tryz.func93, Tryz.ntmps93
  go_wp2_with fail
  rw [← HW1.out]
  have hx2 : W1.cell? ad = some (.int .u64 x) := (HB1.out.cell (p := ad) ha0).trans ha
  have hy2 : W1.cell? ⟨ad.block, ad.off + 1, none⟩ = some (.int .u64 y) := (HB1.out.cell (p := ⟨ad.block, ad.off + 1, none⟩) ha0).trans hb
  have had : ad.block < W1.heap.size := Nat.lt_of_lt_of_le ha0 HB1.out.size
  have hz1 : w.heap.size < W1.heap.size := lt_of HQ1.out
  have l0 := cell_of HQ1.out 0
  have l1 := cell_of HQ1.out 1
  have l2 := cell_of HQ1.out 2
  have l3 := cell_of HQ1.out 3
  have f0 := free_of HQ1.out 0
  have f1 := free_of HQ1.out 1
  have f2 := free_of HQ1.out 2
  have f3 := free_of HQ1.out 3
  have HR1 := Lib.hid (H.out.below HB1.out)
  clear ha hb
  go_loop [16, 4] (fun c16 c4 => ∃ (i : Nat) (t : Bool), i ≤ 8 ∧ c16 = .int .i64 i ∧ c4 = .bool t ∧ Hid (t = decide (mxl (l.take i) = 0))) (fun c16 _ => 8 - (intOf c16).toNat)
  case atStart => exact ⟨0, true, Nat.zero_le _, rfl, rfl, rfl⟩
  case round =>
    obtain ⟨i, t, hi, rfl, rfl, HT⟩ := hrel
    by_cases hlt : i < 8
    · obtain ⟨u, hu9⟩ := some_at (l := l) (i := i) (by rw [HL.out]; exact hlt)
      obtain ⟨_, e3, -, hp3⟩ := HR1.out i u (ints_get hu9)
      cases e3
      have HNX : Hid (mxl (l.take (i + 1)) = max (mxl (l.take i)) u) := by show _ = _; rw [take_next hu9, mxl_snoc]
      clear hu9 hx2 hy2 l0 l1 l2 l3 f0 f1 f2 f3
      cases t with
      | false =>
        have hne := of_decide_eq_false HT.out.symm
        have HN2 : Hid (false = decide (mxl (l.take (i + 1)) = 0)) := by show _ = _; rw [HNX.out, decide_eq_false (by omega)]
        clear hne
        go_wp2_with fail
        go_round
        case rel => exact ⟨i + 1, false, by omega, by go_num, rfl, HN2⟩
        case measure => simp [intOf]; omega
      | true =>
        have hze := of_decide_eq_true HT.out.symm
        by_cases hu0 : u = 0
        · have e1 : ((u : Int) == 0) = true := by rw [beq_iff_eq]; omega
          have HN2 : Hid (true = decide (mxl (l.take (i + 1)) = 0)) := by show _ = _; rw [HNX.out, decide_eq_true (by omega)]
          clear hze hu0
          go_wp2_with fail
          go_round
          case rel => exact ⟨i + 1, true, by omega, by go_num, rfl, HN2⟩
          case measure => simp [intOf]; omega
        · have e1 : ((u : Int) == 0) = false := by rw [beq_eq_false_iff_ne]; omega
          have HN2 : Hid (false = decide (mxl (l.take (i + 1)) = 0)) := by show _ = _; rw [HNX.out, decide_eq_false (by omega)]
          clear hze hu0
          go_wp2_with fail
          go_round
          case rel => exact ⟨i + 1, false, by omega, by go_num, rfl, HN2⟩
          case measure => simp [intOf]; omega
    · obtain rfl : i = 8 := by omega
      have ht := HT.out
      rw [List.take_of_length_le (by rw [HL.out]; omega)] at ht
      cases t with
      | true =>
        have HZ := Lib.hid (of_decide_eq_true ht.symm)
        clear ht
        go_wp2_with fail
        exact bodyPost_ret (res_ct (u := 3) rfl _ _ w.heap.size 74 #[.int .i64 0, .int .i64 0, .int .i64 0, .int .i64 0] (0, 0) _ rfl (put4 HQ1.out _ _ _ _) hu rfl (by kernel_rfl)) rfl ⟨d9_zero HZ.out, bl_put4 HB1.out (Nat.le_refl _) _ _ _ _⟩
      | false =>
        have HZ := Lib.hid (of_decide_eq_false ht.symm)
        clear ht
        by_cases hyb : 65535 < y
        · have e1 : (65535 : Int) < (y : Int) := by omega
          have HNO : O9 l false := by
            refine ⟨?_⟩
            rw [HOK'.out, decide_eq_false (fun h => by have := h.2.2.2.2; have := HMN.out.1 hyb; omega)]
            rfl
          clear hyb
          go_wp2_with fail
          exact bodyPost_ret (res_ct (u := 3) rfl _ _ w.heap.size 74 #[.int .i64 0, .int .i64 0, .int .i64 0, .int .i64 0] (0, 0) _ rfl (put4 HQ1.out _ _ _ _) hu rfl (by kernel_rfl)) rfl ⟨d9_no HZ.out HNO.out, bl_put4 HB1.out (Nat.le_refl _) _ _ _ _⟩
        · have e1 : (y : Int) ≤ 65535 := by omega
          have emin : mn = y := HMN.out.2 (by omega)
          rw [emin] at HOK' HF HLN
          clear hyb emin l0 l1 l2 l3 f0 f1 f2 f3
          have hbd : Below W1.heap.size W1 (W1.alloc (.cells #[.int .i64 a, .int .i64 b, .int .i64 d, .int .i64 y] 74)).drew := bl_drew (bl_alloc (Below.refl _ _) _)
          have HBD := Lib.hid hbd
          have HN2 : Hid ((W1.alloc (.cells #[.int .i64 a, .int .i64 b, .int .i64 d, .int .i64 y] 74)).drew.heap[W1.heap.size]? = some (.cells #[.int .i64 a, .int .i64 b, .int .i64 d, .int .i64 y] 74 (0, 0))) := alloc_new W1 _
          clear hbd
          go_wp2_with fail
          go_region
          go_wp2_with fail
          by_cases hok : rOk a b d y
          · have HG := Lib.hid hok
            clear hok
            refine (rmay_yes a b d y HG.out _).mono ?_
            rintro e w3 ⟨rfl, hb3⟩
            have HB3 := Lib.hid (bl_then HBD.out hb3)
            have hn3 := blk_bl HN2.out hb3
            have HN3 := Lib.hid hn3
            have m0 := cell_of hn3 0
            have m1 := cell_of hn3 1
            have m2 := cell_of hn3 2
            have m3 := cell_of hn3 3
            clear hb3 hn3 hx2 hy2 had hz1
            go_wp2_with fail
            refine (renc_ a b d y HG.out _).mono ?_
            rintro e w4 ⟨v4, rfl, hown4, hb4⟩
            obtain ⟨A4, c4, e4⟩ := own_slice hown4
            subst e4
            have HR4 := Lib.hid (own_rk (k := .u64) hown4).1
            have HB4 := Lib.hid (bl_then HB3.out hb4)
            have HR4l := Lib.hid (HR1.out.below HB4.out)
            have HN4 := Lib.hid (blk_bl HN3.out hb4)
            have HQ4 := Lib.hid (blk_bl HQ1.out HB4.out)
            have HBF := Lib.hid (bl_then HB1.out HB4.out)
            have HL6 := Lib.hid HLN.out.2
            rw [← HLN.out.1] at HR4
            clear hown4 hb4 m0 m1 m2 m3
            generalize LN = L6 at *
            go_wp2_with fail
            go_loopw [63] (fun c63 wr => ∃ i : Nat, i ≤ 8 ∧ c63 = .int .i64 i ∧ ∃ q, Hid (wr = w4.drewN q ∧ L6.take i = l.take i)) (fun c63 _ => 8 - (intOf c63).toNat)
            case atStart => exact ⟨0, Nat.zero_le _, rfl, 0, rfl, rfl⟩
            case round =>
              obtain ⟨i, hi, rfl, q, HR⟩ := hrel
              by_cases hlt : i < 8
              · obtain ⟨u, hu9⟩ := some_at (l := L6) (i := i) (by rw [HL6.out]; exact hlt)
                obtain ⟨z, hz9⟩ := some_at (l := l) (i := i) (by rw [HL.out]; exact hlt)
                have hl2 : Rk .u64 wr A4 (ints L6) := by rw [HR.out.1]; exact Iq.rk_drewN HR4.out q
                have hm2 : Rk .u64 wr (some ad) (ints l) := by rw [HR.out.1]; exact Iq.rk_drewN HR4l.out q
                obtain ⟨p3, e3, -, hp3⟩ := hl2 i u (ints_get hu9)
                subst e3
                obtain ⟨_, e4, -, hp4⟩ := hm2 i z (ints_get hz9)
                cases e4
                have HX := Lib.hid (And.intro hu9 hz9)
                clear hu9 hz9 hl2 hm2
                by_cases hxy : u = z
                · have e1 : ((u : Int) != (z : Int)) = false := by simp [hxy]
                  have EX := Lib.hid hxy
                  clear hxy
                  go_wp2_with fail
                  go_quiet (fail)
                  go_wp2_with fail
                  go_roundw
                  case rel => exact ⟨i + 1, by omega, by go_num, q + nq, by show _ ∧ _; rw [HR.out.1]; exact ⟨Pm.drewN_two _ _ _, Iq.take_step HR.out.2 HX.out.1 HX.out.2 EX.out⟩⟩
                  case measure => simp [intOf]; omega
                · have e1 : ((u : Int) != (z : Int)) = true := by rw [bne_iff_ne]; omega
                  have HLE : O9 l false := by
                    refine ⟨?_⟩
                    rw [HOK'.out, decide_eq_true HG.out, decide_eq_false (fun h => hxy (by rw [h] at HX; exact Option.some.inj (HX.out.1.symm.trans HX.out.2)))]
                    rfl
                  clear hxy
                  go_wp2_with fail
                  go_quiet (fail)
                  have hwq : wr.drewN nq = w4.drewN (q + nq) := by rw [HR.out.1]; exact Pm.drewN_two _ _ _
                  rw [hwq]
                  have hq := blk_bl HQ4.out (bl_drewN (Below.refl _ _) (q + nq))
                  have HQ := Lib.hid hq
                  have l0 := cell_of hq 0
                  have l1 := cell_of hq 1
                  have l2 := cell_of hq 2
                  have l3 := cell_of hq 3
                  have f0 := free_of hq 0
                  have f1 := free_of hq 1
                  have f2 := free_of hq 2
                  have f3 := free_of hq 3
                  clear hq hwq
                  go_wp2_with fail
                  exact bodyPost_ret (res_ct (u := 3) rfl _ _ w.heap.size 74 #[.int .i64 0, .int .i64 0, .int .i64 0, .int .i64 0] (0, 0) _ rfl (put4 HQ.out _ _ _ _) hu rfl (by kernel_rfl)) rfl ⟨d9_no HZ.out HLE.out, bl_put4 (bl_drewN HBF.out _) (Nat.le_refl _) _ _ _ _⟩
              · obtain rfl : i = 8 := by omega
                have hle : L6 = l := by
                  have h1 := HR.out.2
                  rw [List.take_of_length_le (by rw [HL6.out]; omega), List.take_of_length_le (by rw [HL.out]; omega)] at h1
                  exact h1
                have HLE : O9 l true := by refine ⟨?_⟩; rw [HOK'.out, decide_eq_true HG.out, decide_eq_true hle]; rfl
                have hwr := HR.out.1
                subst hwr
                have hq := blk_bl HQ4.out (bl_drewN (Below.refl _ _) q)
                have hm := blk_bl HN4.out (bl_drewN (Below.refl _ _) q)
                have HQ := Lib.hid hq
                have l0 := cell_of hq 0
                have l1 := cell_of hq 1
                have l2 := cell_of hq 2
                have l3 := cell_of hq 3
                have f0 := free_of hq 0
                have f1 := free_of hq 1
                have f2 := free_of hq 2
                have f3 := free_of hq 3
                have m0 := cell_of hm 0
                have m1 := cell_of hm 1
                have m2 := cell_of hm 2
                have m3 := cell_of hm 3
                clear hq hm hle
                go_wp2_with fail
                exact bodyPost_ret (res_ct (u := 3) rfl _ _ w.heap.size 74 #[.int .i64 a, .int .i64 b, .int .i64 d, .int .i64 y] (0, 0) _ rfl (put4 HQ.out _ _ _ _) hu rfl (by kernel_rfl)) rfl ⟨d9_yes HZ.out HLE.out HF.out.1 HF.out.2.1 HF.out.2.2.1 HF.out.2.2.2.symm, bl_put4 (bl_drewN HBF.out _) (Nat.le_refl _) _ _ _ _⟩
          · have HNO : O9 l false := by refine ⟨?_⟩; rw [HOK'.out, decide_eq_false hok]; rfl
            have HG := Lib.hid hok
            clear hok
            refine (rmay_no a b d y HG.out _).mono ?_
            rintro e w3 ⟨rfl, hb3⟩
            have HB3 := Lib.hid (bl_then HBD.out hb3)
            have HQ3 := Lib.hid (blk_bl HQ1.out HB3.out)
            have HBF := Lib.hid (bl_then HB1.out HB3.out)
            have l0 := cell_of HQ3.out 0
            have l1 := cell_of HQ3.out 1
            have l2 := cell_of HQ3.out 2
            have l3 := cell_of HQ3.out 3
            have f0 := free_of HQ3.out 0
            have f1 := free_of HQ3.out 1
            have f2 := free_of HQ3.out 2
            have f3 := free_of HQ3.out 3
            clear hb3 hx2 hy2 had hz1
            go_wp2_with fail
            exact bodyPost_ret (res_ct (u := 3) rfl _ _ w.heap.size 74 #[.int .i64 0, .int .i64 0, .int .i64 0, .int .i64 0] (0, 0) _ rfl (put4 HQ3.out _ _ _ _) hu rfl (by kernel_rfl)) rfl ⟨d9_no HZ.out HNO.out, bl_put4 HBF.out (Nat.le_refl _) _ _ _ _⟩

end Go.Proofs.YtgnagbbdnlmgeaaGreat.R9
end

/- The document's bitmap: New, Turn (cantleref10). -/
section
set_option linter.unusedVariables false
set_option linter.unusedSimpArgs false
set_option maxHeartbeats 2000000
set_option maxRecDepth 100000
namespace Go.Proofs.YtgnagbbdnlmgeaaGreat.R0
open Go Go.RowKit
open Go.Proofs.YtgnagbbdnlmgeaaGreat.Ob Go.Proofs.YtgnagbbdnlmgeaaGreat.Ba Go.Proofs.YtgnagbbdnlmgeaaGreat.Oc Go.Proofs.YtgnagbbdnlmgeaaGreat.Pk

def bvs (l : List Bool) : List Value := l.map Value.bool
theorem bvs_length (l : List Bool) : (bvs l).length = l.length := by simp [bvs]
theorem bvs_one (l : List Bool) : ∀ u ∈ bvs l, u.oneCell' = true := by
  intro u hu
  simp only [bvs, List.mem_map] at hu
  obtain ⟨z, _, rfl⟩ := hu
  rfl
/-- the slice (A, ..) reads as these truths -/
def RB (w : World) (A : Option Addr) (l : List Bool) : Prop := ∀ (i : Nat) x, l[i]? = some x → ∃ a, A = some a ∧ a.block < w.heap.size ∧ w.cell? (a.add i) = some (.bool x)
theorem RB.below {w w' : World} {A : Option Addr} {l : List Bool} (h : RB w A l) (hb : Below w.heap.size w w') : RB w' A l := by
  intro i x hi
  obtain ⟨a, rfl, h1, h2⟩ := h i x hi
  exact ⟨a, rfl, Nat.lt_of_lt_of_le h1 hb.size, by rw [hb.cell (p := a.add i) (by rw [add_block]; exact h1)]; exact h2⟩
theorem own_rb {w : World} {B T n : Nat} {A : Option Addr} {c : Nat} {l : List Bool} (h : w.ownsRow B T 1 (.slice A n c) n (bvs l)) : RB w A l := by
  obtain ⟨h1, ⟨h2, h3⟩ | ⟨g, cap, cur, hv, hg, hb, hn, hm, hs, ht⟩⟩ := h
  · intro i x hx
    have := (List.getElem?_eq_some_iff.1 hx).1
    rw [bvs_length] at h1
    omega
  · simp only [Value.slice.injEq, true_and] at hv
    obtain ⟨rfl, rfl⟩ := hv
    intro i x hx
    refine ⟨_, rfl, lt_of hb, ?_⟩
    rw [Addr.add_lit, cell_of hb, Nat.zero_add]
    have hx2 : (bvs l)[i]? = some (.bool x) := by simp [bvs, hx]
    rw [← ht, List.getElem?_take] at hx2
    split at hx2
    · simpa using hx2
    · cases hx2

theorem own_bat {w : World} {B T n c : Nat} {A : Option Addr} {l : List Bool} (h : w.ownsRow B T 1 (.slice A n c) n (bvs l)) {i : Nat} {x : Bool} (hx : l[i]? = some x) :
    ∃ q, A = some ⟨q, 0, none⟩ ∧ w.cell? ⟨q, i, none⟩ = some (.bool x) ∧ w.frozen? ⟨q, i, none⟩ = false := by
  obtain ⟨h1, ⟨h2, h3⟩ | ⟨g, cap, cur, hv, hg, hb, hn, hm, hs, ht⟩⟩ := h
  · have := (List.getElem?_eq_some_iff.1 hx).1
    rw [bvs_length] at h1
    omega
  · simp only [Value.slice.injEq, true_and] at hv
    obtain ⟨rfl, rfl⟩ := hv
    refine ⟨g, rfl, ?_, free_of hb i⟩
    rw [cell_of hb]
    have hx2 : (bvs l)[i]? = some (.bool x) := by simp [bvs, hx]
    rw [← ht, List.getElem?_take] at hx2
    split at hx2
    · simpa using hx2
    · cases hx2

theorem info_bool : (Tryz.prog.info? 4).map (fun i => (i.zero, i.size, i.bytes)) = some (some (.bool false), 1, 1) := by kernel_rfl

def btn (l : List Bool) (b : Int) : List Bool := if 0 ≤ b ∧ b < l.length then l.set b.toNat true else l
theorem btn_len (l : List Bool) (b : Int) : (btn l b).length = l.length := by unfold btn; split <;> simp

/-- truths that read so, and whether one was turned -/
def BOut (w : World) (A0 : Option Addr) (B : Nat) (l : List Bool) (e : Ending) : Prop := ∃ A c f, e = .returned (.tuple #[.slice A l.length c, .bool f]) ∧ RB w A l ∧ ∀ a, A = some a → A0 = some a ∨ B ≤ a.block
theorem bout_of {w : World} {l : List Bool} {A A0 : Option Addr} {B n c : Nat} {f : Bool} (hn : n = l.length) (h : RB w A l) (hA : ∀ a, A = some a → A0 = some a ∨ B ≤ a.block) : BOut w A0 B l (.returned (.tuple #[.slice A n c, .bool f])) := ⟨A, c, f, by rw [hn], h, hA⟩

end Go.Proofs.YtgnagbbdnlmgeaaGreat.R0
end

/- The document's bitmap in one word (cantleref10.Words). -/
section
set_option linter.unusedVariables false
set_option linter.unusedSimpArgs false
set_option maxHeartbeats 2000000
set_option maxRecDepth 100000
namespace Go.Proofs.YtgnagbbdnlmgeaaGreat.R0
open Go Go.RowKit
open Go.Proofs.YtgnagbbdnlmgeaaGreat.Ob Go.Proofs.YtgnagbbdnlmgeaaGreat.Ba Go.Proofs.YtgnagbbdnlmgeaaGreat.Oc Go.Proofs.YtgnagbbdnlmgeaaGreat.Pk

/-- truths in a number -/
def bwr : List Bool → Nat
  | [] => 0
  | b :: r => (if b then 1 else 0) + 2 * bwr r
theorem bwr_snoc (l : List Bool) (b : Bool) : bwr (l ++ [b]) = bwr l + (if b then 2 ^ l.length else 0) := by
  induction l with
  | nil => cases b <;> rfl
  | cons a l ih =>
    rw [List.cons_append, bwr, ih, bwr]
    cases b
    · simp
    · simp [Nat.pow_succ]; omega
theorem bwr_lt (l : List Bool) : bwr l < 2 ^ l.length := by
  induction l with
  | nil => decide
  | cons a l ih =>
    rw [bwr, List.length_cons, Nat.pow_succ]
    cases a <;> simp <;> omega

theorem rwords1 {w : World} {A : Option Addr} {l : List Bool} (h : RB w A l) (c : Nat) (h1 : 1 ≤ l.length) (h2 : l.length ≤ 63) :
    Calls Tryz.prog 99 #[.slice A l.length c] w fun e w' => ∃ v, e = .returned v ∧ w'.ownsRow w.heap.size 94 1 v 1 (ivs .u64 (ints [bwr l])) ∧ Below w.heap.size w w' := by
  have H := Lib.hid h
  obtain ⟨n, hnn⟩ : ∃ n, n = l.length := ⟨_, rfl⟩
  rw [← hnn] at h1 h2
  rw [← hnn]
  have HN := Lib.hid hnn
  have hq1 : ((n : Int) + 63) / 64 = 1 := by omega
  have HO0 : Hid ((w.alloc (.cells #[.int .u64 0] 94)).ownsRow w.heap.size 94 1 (.slice (some ⟨w.heap.size, 0, none⟩) 1 1) 1 (ivs .u64 (ints [0]))) := own_new (k := .u64) (l := ints [0]) (alloc_new w _) (Nat.le_refl _) rfl (by unfold maxLen; omega)
  clear h hnn
  go_enter Tryz.func99, Tryz.ntmps99
  go_wp2_with (at_make; refine Go.Proofs.YtgnagbbdnlmgeaaGreat.Wl.wpl_make rfl _ 22 94 rfl (.int .u64 0) 8 Tryz.underlying22 info_u64 rfl 1 .i64 _ rfl (by first | rfl | exact hq1 | omega) (by decide) (by decide) ?_)
  clear hq1
  go_loopw [13] (fun c13 wr => ∃ i : Nat, i ≤ n ∧ c13 = .int .i64 i ∧ Hid (Below w.heap.size w wr ∧ wr.ownsRow w.heap.size 94 1 (.slice (some ⟨w.heap.size, 0, none⟩) 1 1) 1 (ivs .u64 (ints [bwr (l.take i)])))) (fun c13 _ => n - (intOf c13).toNat)
  case atStart => exact ⟨0, Nat.zero_le _, rfl, bl_alloc (Below.refl _ _) _, HO0.out⟩
  case round =>
    obtain ⟨i, hi, rfl, HR⟩ := hrel
    by_cases hlt : i < n
    · obtain ⟨x, hx⟩ := some_at (l := l) (i := i) (by rw [← HN.out]; exact hlt)
      obtain ⟨a, rfl, -, ha⟩ := (H.out.below HR.out.1) i x hx
      have HNX : Hid (bwr (l.take (i + 1)) = bwr (l.take i) + (if x then 2 ^ i else 0)) := by
        show _ = _
        rw [take_next hx, bwr_snoc, List.length_take, Nat.min_eq_left (by rw [← HN.out]; omega)]
      have hyl : bwr (l.take i) < 2 ^ i := by
        have := bwr_lt (l.take i)
        rw [List.length_take, Nat.min_eq_left (by rw [← HN.out]; omega)] at this
        exact this
      clear hx
      cases x with
      | false =>
        rw [if_neg (by simp), Nat.add_zero] at HNX
        go_wp2_with fail
        go_roundw
        case rel => exact ⟨i + 1, by omega, by go_num, HR.out.1, by rw [HNX.out]; exact HR.out.2⟩
        case measure => simp [intOf]; omega
      | true =>
        rw [if_pos rfl] at HNX
        obtain ⟨y, hy⟩ : ∃ y, y = bwr (l.take i) := ⟨_, rfl⟩
        rw [← hy] at HNX hyl
        obtain ⟨p, hp⟩ : ∃ p, p = 2 ^ i := ⟨_, rfl⟩
        rw [← hp] at HNX hyl
        have hp9 : p ≤ 4611686018427387904 := by rw [hp]; exact Nat.pow_le_pow_right (by decide) (show i ≤ 62 by omega)
        have hpi : IntKind.u64.wrap (2 ^ i) = (p : Int) := by
          have e2 : (2 ^ i : Int) = ((2 ^ i : Nat) : Int) := by norm_cast
          rw [e2, ← hp]
          exact wu64 _ (by omega) (by omega)
        have hown := HR.out.2
        rw [← hy] at hown
        obtain ⟨g, eg, hc, hf⟩ := own_at (i := 0) (x := (y : Int)) hown rfl
        cases eg
        have HO := Lib.hid hown
        have hd1 : (i : Int) / 64 = 0 := by omega
        have hd2 : (i : Int) % 64 = i := by omega
        have hyp : y + p < 18446744073709551616 := by omega
        clear hy hp hown hyl
        go_wp2_with fail
        go_region
        go_wp2_with fail
        go_roundw
        case rel =>
          refine ⟨i + 1, by omega, by go_num, bl_drew (bl_set HR.out.1 (Nat.le_refl _) _), ?_⟩
          rw [HNX.out]
          have h9 := own_set HO.out (i := 0) (by decide) (.int .u64 ((y : Int) + (p : Int)))
          have e9 : (ivs .u64 (ints [y])).set 0 (.int .u64 ((y : Int) + (p : Int))) = ivs .u64 (ints [y + p]) := by simp [ivs, ints]
          rw [e9] at h9
          exact own_kp h9 (fun _ _ _ => rfl)
        case measure => simp [intOf]; omega
    · obtain rfl : i = n := by omega
      go_wp2_with fail
      go_ret
      have h2 := HR.out.2
      rw [List.take_of_length_le (by rw [← HN.out]; omega)] at h2
      exact ⟨_, rfl, h2, HR.out.1⟩

end Go.Proofs.YtgnagbbdnlmgeaaGreat.R0
end

/- How many bits a small word has. -/
section
set_option linter.unusedVariables false
set_option linter.unusedSimpArgs false
set_option maxHeartbeats 2000000
set_option maxRecDepth 100000
namespace Go.Proofs.YtgnagbbdnlmgeaaGreat.Jd
open Go Go.RowKit
open Go.Proofs.YtgnagbbdnlmgeaaGreat.Ob Go.Proofs.YtgnagbbdnlmgeaaGreat.Ba Go.Proofs.YtgnagbbdnlmgeaaGreat.Oc Go.Proofs.YtgnagbbdnlmgeaaGreat.Pk Go.Proofs.YtgnagbbdnlmgeaaGreat.Ge Go.Proofs.YtgnagbbdnlmgeaaGreat.Bm Go.Proofs.YtgnagbbdnlmgeaaGreat.R0

/-- the bits of a word, one by one -/
def bitsOf (x : Nat) : Nat → List Bool
  | 0 => []
  | n + 1 => bitsOf x n ++ [x.testBit n]
theorem bitsOf_length (x : Nat) : ∀ n, (bitsOf x n).length = n
  | 0 => rfl
  | n + 1 => by simp [bitsOf, bitsOf_length x n]
theorem bitsOf_get (x : Nat) : ∀ n i, i < n → (bitsOf x n)[i]? = some (x.testBit i)
  | n + 1, i, h => by
    unfold bitsOf
    by_cases hi : i < n
    · rw [List.getElem?_append_left (by rw [bitsOf_length]; exact hi)]
      exact bitsOf_get x n i hi
    · obtain rfl : i = n := by omega
      rw [List.getElem?_append_right (by rw [bitsOf_length]; exact Nat.le_refl _), bitsOf_length]
      simp
/-- how many -/
def cnt : List Bool → Nat
  | [] => 0
  | b :: r => (if b then 1 else 0) + cnt r
theorem cnt_append (a b : List Bool) : cnt (a ++ b) = cnt a + cnt b := by
  induction a with
  | nil => simp [cnt]
  | cons x r ih => simp [cnt, ih]; omega
theorem cnt_le (l : List Bool) : cnt l ≤ l.length := by
  induction l with
  | nil => simp [cnt]
  | cons x r ih => cases x <;> simp [cnt] <;> omega

def cb (x : Nat) : Nat → Nat
  | 0 => 0
  | n + 1 => cb x n + x / 2 ^ n % 2
theorem cnt_bits (x : Nat) : ∀ n, cnt (bitsOf x n) = cb x n
  | 0 => rfl
  | n + 1 => by
    have hm : x / 2 ^ n % 2 < 2 := Nat.mod_lt _ (by decide)
    rw [bitsOf, cnt_append, cnt_bits x n, cb, Nat.testBit_eq_decide_div_mod_eq]
    by_cases h : x / 2 ^ n % 2 = 1
    · simp [cnt, h]
    · simp [cnt, h]; omega
theorem cb_add (x n : Nat) : ∀ k, cb x (n + k) = cb x n + cb (x / 2 ^ n) k
  | 0 => rfl
  | k + 1 => by
    rw [← Nat.add_assoc, cb, cb_add x n k, cb, Nat.pow_add, Nat.div_div_eq_div_mul]
    omega
theorem cb_zero : ∀ k, cb 0 k = 0
  | 0 => rfl
  | k + 1 => by rw [cb, cb_zero k]; simp
theorem cb_mod (x : Nat) : ∀ n m, n ≤ m → cb (x % 2 ^ m) n = cb x n
  | 0, m, _ => rfl
  | n + 1, m, h => by
    rw [cb, cb, cb_mod x n m (by omega)]
    have h1 := Nat.testBit_mod_two_pow x m n
    rw [decide_eq_true (show n < m by omega), Bool.true_and, Nat.testBit_eq_decide_div_mod_eq, Nat.testBit_eq_decide_div_mod_eq] at h1
    have h2 : (x % 2 ^ m / 2 ^ n % 2 = 1) ↔ (x / 2 ^ n % 2 = 1) := by simpa using h1
    omega
theorem cb_lt {x n m : Nat} (hx : x < 2 ^ n) (h : n ≤ m) : cb x m = cb x n := by
  obtain ⟨k, rfl⟩ : ∃ k, m = n + k := ⟨m - n, by omega⟩
  rw [cb_add, Nat.div_eq_of_lt hx, cb_zero, Nat.add_zero]

theorem land_step (k a c b d : Nat) (hc : c < 2 ^ k) (hd : d < 2 ^ k) : (2 ^ k * a + c) &&& (2 ^ k * b + d) = 2 ^ k * (a &&& b) + (c &&& d) := by
  apply Nat.eq_of_testBit_eq
  intro i
  have hcd : c &&& d < 2 ^ k := Nat.and_lt_two_pow _ hd
  rw [Nat.testBit_and, Nat.testBit_two_pow_mul_add _ hc, Nat.testBit_two_pow_mul_add _ hd, Nat.testBit_two_pow_mul_add _ hcd]
  split
  · rw [Nat.testBit_and]
  · rw [Nat.testBit_and]
theorem land_low {k a : Nat} (m : Nat) (ha : a < 2 ^ k) : a &&& m = a &&& (m % 2 ^ k) := by
  apply Nat.eq_of_testBit_eq
  intro i
  rw [Nat.testBit_and, Nat.testBit_and, Nat.testBit_mod_two_pow]
  by_cases hi : i < k
  · rw [decide_eq_true hi, Bool.true_and]
  · rw [Nat.testBit_lt_two_pow (Nat.lt_of_lt_of_le ha (Nat.pow_le_pow_right (by decide) (by omega)))]
    rfl

theorem band (a b : Nat) (ha : a < 18446744073709551616) (hb : b < 18446744073709551616) : Go.bits .and .u64 (a : Int) (b : Int) = ((a &&& b : Nat) : Int) := by
  have hk : IntKind.u64.bits = 64 := rfl
  simp only [Go.bits, hk, BitVec.ofInt_natCast, BitVec.toNat_and, BitVec.toNat_ofNat]
  rw [show (2 : Nat) ^ 64 = 18446744073709551616 from rfl, Nat.mod_eq_of_lt ha, Nat.mod_eq_of_lt hb]
  have h : a &&& b < 18446744073709551616 := Nat.lt_of_le_of_lt Nat.and_le_left ha
  exact wu64 _ (by omega) (by omega)
theorem wi64 (n : Int) (h0 : -9223372036854775808 ≤ n) (h1 : n ≤ 9223372036854775807) : IntKind.i64.wrap n = n := by
  simp [IntKind.wrap, IntKind.bits, IntKind.signed]; omega
theorem bandi (a b : Nat) (ha : a < 9223372036854775808) (hb : b < 9223372036854775808) : Go.bits .and .i64 (a : Int) (b : Int) = ((a &&& b : Nat) : Int) := by
  have hk : IntKind.i64.bits = 64 := rfl
  simp only [Go.bits, hk, BitVec.ofInt_natCast, BitVec.toNat_and, BitVec.toNat_ofNat]
  rw [show (2 : Nat) ^ 64 = 18446744073709551616 from rfl, Nat.mod_eq_of_lt (by omega), Nat.mod_eq_of_lt (by omega)]
  have h : a &&& b < 9223372036854775808 := Nat.lt_of_le_of_lt Nat.and_le_left ha
  exact wi64 ((a &&& b : Nat) : Int) (by omega) (by omega)

def f0 (x : Nat) : Nat := (x / 2 &&& 6148914691236517205) + (x &&& 6148914691236517205)
def f1 (x : Nat) : Nat := (x / 4 &&& 3689348814741910323) + (x &&& 3689348814741910323)
def f2 (b : Nat) : Nat :=
  let c := (b / 16 + b) &&& 1085102592571150095
  let d := c + c / 256
  let e := d + d / 65536
  let f := e + e / 4294967296
  f &&& 127
theorem m0_step (a c : Nat) (ha : a < 4096) (hc : c < 4096) : (4096 * a + c) &&& 6148914691236517205 = 4096 * (a &&& 6148914691236517205) + (c &&& 6148914691236517205) := by
  rw [show (6148914691236517205 : Nat) = 2 ^ 12 * 1501199875790165 + 1365 from by decide, show (4096 : Nat) = 2 ^ 12 from rfl, land_step 12 _ _ _ _ hc (by decide), land_low (2 ^ 12 * 1501199875790165 + 1365) (show a < 2 ^ 12 from ha), land_low (2 ^ 12 * 1501199875790165 + 1365) (show c < 2 ^ 12 from hc), land_low 1501199875790165 (show a < 2 ^ 12 from ha)]
theorem m1_step (a c : Nat) (ha : a < 4096) (hc : c < 4096) : (4096 * a + c) &&& 3689348814741910323 = 4096 * (a &&& 3689348814741910323) + (c &&& 3689348814741910323) := by
  rw [show (3689348814741910323 : Nat) = 2 ^ 12 * 900719925474099 + 819 from by decide, show (4096 : Nat) = 2 ^ 12 from rfl, land_step 12 _ _ _ _ hc (by decide), land_low (2 ^ 12 * 900719925474099 + 819) (show a < 2 ^ 12 from ha), land_low (2 ^ 12 * 900719925474099 + 819) (show c < 2 ^ 12 from hc), land_low 900719925474099 (show a < 2 ^ 12 from ha)]
theorem m0_high (t d : Nat) (ht : t < 2) (hd : d < 2048) : (2048 * t + d) &&& 6148914691236517205 = d &&& 6148914691236517205 := by
  rw [land_low (k := 12) _ (show 2048 * t + d < 2 ^ 12 by omega), land_low (k := 12) _ (show d < 2 ^ 12 by omega), show (6148914691236517205 : Nat) % 2 ^ 12 = 2 ^ 11 * 0 + 1365 from by decide, show 2048 * t + d = 2 ^ 11 * t + d from rfl, land_step 11 _ _ _ _ hd (by decide)]
  simp
theorem m1_high (t d : Nat) (ht : t < 4) (hd : d < 1024) : (1024 * t + d) &&& 3689348814741910323 = d &&& 3689348814741910323 := by
  rw [land_low (k := 12) _ (show 1024 * t + d < 2 ^ 12 by omega), land_low (k := 12) _ (show d < 2 ^ 12 by omega), show (3689348814741910323 : Nat) % 2 ^ 12 = 2 ^ 10 * 0 + 819 from by decide, show 1024 * t + d = 2 ^ 10 * t + d from rfl, land_step 10 _ _ _ _ hd (by decide)]
  simp
theorem f0_step (a c : Nat) (ha : a < 4096) (hc : c < 4096) : f0 (4096 * a + c) = 4096 * f0 a + f0 c := by
  have e : (4096 * a + c) / 2 = 4096 * (a / 2) + (2048 * (a % 2) + c / 2) := by omega
  unfold f0
  rw [e, m0_step _ _ (by omega) (by omega), m0_step a c ha hc, m0_high _ _ (by omega) (by omega)]
  omega
theorem f1_step (a c : Nat) (ha : a < 4096) (hc : c < 4096) : f1 (4096 * a + c) = 4096 * f1 a + f1 c := by
  have e : (4096 * a + c) / 4 = 4096 * (a / 4) + (1024 * (a % 4) + c / 4) := by omega
  unfold f1
  rw [e, m1_step _ _ (by omega) (by omega), m1_step a c ha hc, m1_high _ _ (by omega) (by omega)]
  omega
def nb (c : Nat) : Nat := c % 2 + c / 2 % 2 + c / 4 % 2 + c / 8 % 2
theorem low_all : (List.range 4096).all (fun c => decide (f0 c < 4096) && (f1 (f0 c) == nb c + 16 * nb (c / 16) + 256 * nb (c / 256)) && (cb c 12 == nb c + nb (c / 16) + nb (c / 256))) = true := by decide +kernel
theorem low (c : Nat) (hc : c < 4096) : f0 c < 4096 ∧ f1 (f0 c) = nb c + 16 * nb (c / 16) + 256 * nb (c / 256) ∧ cb c 12 = nb c + nb (c / 16) + nb (c / 256) := by
  have := List.all_eq_true.1 low_all c (by simpa using hc)
  simpa [and_assoc] using this
theorem f2_all : (List.range 15625).all (fun q => f2 (q % 5 + 16 * (q / 5 % 5) + 256 * (q / 25 % 5) + 4096 * (q / 125 % 5 + 16 * (q / 625 % 5) + 256 * (q / 3125))) == q % 5 + q / 5 % 5 + q / 25 % 5 + q / 125 % 5 + q / 625 % 5 + q / 3125) = true := by decide +kernel
theorem f2_ (i j k a b c : Nat) (hi : i < 5) (hj : j < 5) (hk : k < 5) (ha : a < 5) (hb : b < 5) (hc : c < 5) : f2 (i + 16 * j + 256 * k + 4096 * (a + 16 * b + 256 * c)) = i + j + k + a + b + c := by
  have h := List.all_eq_true.1 f2_all (i + 5 * j + 25 * k + 125 * a + 625 * b + 3125 * c) (by simp; omega)
  have e0 : (i + 5 * j + 25 * k + 125 * a + 625 * b + 3125 * c) % 5 = i := by omega
  have e1 : (i + 5 * j + 25 * k + 125 * a + 625 * b + 3125 * c) / 5 % 5 = j := by omega
  have e2 : (i + 5 * j + 25 * k + 125 * a + 625 * b + 3125 * c) / 25 % 5 = k := by omega
  have e3 : (i + 5 * j + 25 * k + 125 * a + 625 * b + 3125 * c) / 125 % 5 = a := by omega
  have e4 : (i + 5 * j + 25 * k + 125 * a + 625 * b + 3125 * c) / 625 % 5 = b := by omega
  have e5 : (i + 5 * j + 25 * k + 125 * a + 625 * b + 3125 * c) / 3125 = c := by omega
  rw [e0, e1, e2, e3, e4, e5] at h
  simpa using h
theorem nb_lt (c : Nat) : nb c < 5 := by unfold nb; omega
theorem ocn (x : Nat) (hx : x < 16777216) : f1 (f0 x) < 16777216 ∧ f0 x < 16777216 ∧ f2 (f1 (f0 x)) = cb x 24 := by
  obtain ⟨a, ha⟩ : ∃ a, a = x / 4096 := ⟨_, rfl⟩
  obtain ⟨c, hc⟩ : ∃ c, c = x % 4096 := ⟨_, rfl⟩
  have e : x = 4096 * a + c := by omega
  have ha9 : a < 4096 := by omega
  have hc9 : c < 4096 := by omega
  obtain ⟨p1, p2, p3⟩ := low a ha9
  obtain ⟨q1, q2, q3⟩ := low c hc9
  have h24 : cb x 24 = cb c 12 + cb a 12 := by
    rw [show (24 : Nat) = 12 + 12 from rfl, cb_add, ← cb_mod x 12 12 (Nat.le_refl _), ha, hc]
  have b0 := nb_lt c
  have b1 := nb_lt (c / 16)
  have b2 := nb_lt (c / 256)
  have b3 := nb_lt a
  have b4 := nb_lt (a / 16)
  have b5 := nb_lt (a / 256)
  have h0 : f0 x = 4096 * f0 a + f0 c := by rw [e]; exact f0_step a c ha9 hc9
  have h1 : f1 (f0 x) = 4096 * f1 (f0 a) + f1 (f0 c) := by rw [h0]; exact f1_step _ _ p1 q1
  refine ⟨by omega, by omega, ?_⟩
  rw [h1, p2, q2, h24, p3, q3]
  have h9 := f2_ _ _ _ _ _ _ b0 b1 b2 b3 b4 b5
  rw [Nat.add_comm (4096 * _) _, h9]
  omega

theorem oc_small (x : Nat) (hx : x < 16777216) : oc (x : Int) = (cb x 24 : Nat) := by
  obtain ⟨h1, h0, h2⟩ := ocn x hx
  have a1 : x / 2 &&& 6148914691236517205 ≤ x / 2 := Nat.and_le_left
  have a2 : x &&& 6148914691236517205 ≤ x := Nat.and_le_left
  have eA : IntKind.u64.wrap (Go.bits .and .u64 ((x : Int) / 2) 6148914691236517205 + Go.bits .and .u64 (x : Int) 6148914691236517205) = (f0 x : Int) := by
    have e1 := band (x / 2) 6148914691236517205 (by omega) (by decide)
    have e2 := band x 6148914691236517205 (by omega) (by decide)
    rw [show ((x : Int) / 2) = ((x / 2 : Nat) : Int) from by omega, show (6148914691236517205 : Int) = ((6148914691236517205 : Nat) : Int) from rfl, e1, e2]
    have : f0 x = (x / 2 &&& 6148914691236517205) + (x &&& 6148914691236517205) := rfl
    rw [wu64 _ (by omega) (by omega)]
    omega
  have eB : ∀ y : Nat, y < 16777216 → IntKind.u64.wrap (Go.bits .and .u64 ((y : Int) / 4) 3689348814741910323 + Go.bits .and .u64 (y : Int) 3689348814741910323) = (f1 y : Int) := by
    intro y hy
    have a1 : y / 4 &&& 3689348814741910323 ≤ y / 4 := Nat.and_le_left
    have a2 : y &&& 3689348814741910323 ≤ y := Nat.and_le_left
    have e1 := band (y / 4) 3689348814741910323 (by omega) (by decide)
    have e2 := band y 3689348814741910323 (by omega) (by decide)
    rw [show ((y : Int) / 4) = ((y / 4 : Nat) : Int) from by omega, show (3689348814741910323 : Int) = ((3689348814741910323 : Nat) : Int) from rfl, e1, e2]
    have : f1 y = (y / 4 &&& 3689348814741910323) + (y &&& 3689348814741910323) := rfl
    rw [wu64 _ (by omega) (by omega)]
    omega
  unfold oc
  simp only
  rw [eA, eB _ h0, ← h2]
  generalize f1 (f0 x) = b at *
  unfold f2
  simp only
  have hc9 : (b / 16 + b) &&& 1085102592571150095 ≤ b / 16 + b := Nat.and_le_left
  have e1 : IntKind.u64.wrap ((b : Int) / 16 + b) = ((b / 16 + b : Nat) : Int) := by
    rw [wu64 _ (by omega) (by omega)]
    omega
  rw [e1, show (1085102592571150095 : Int) = ((1085102592571150095 : Nat) : Int) from rfl, band _ _ (by omega) (by decide)]
  generalize (b / 16 + b) &&& 1085102592571150095 = c at *
  have e2 : IntKind.u64.wrap ((c : Int) + c / 256) = ((c + c / 256 : Nat) : Int) := by
    rw [wu64 _ (by omega) (by omega)]
    omega
  rw [e2]
  have hd9 : c + c / 256 ≤ 100000000 := by omega
  generalize c + c / 256 = d at *
  have e3 : IntKind.u64.wrap ((d : Int) + d / 65536) = ((d + d / 65536 : Nat) : Int) := by
    rw [wu64 _ (by omega) (by omega)]
    omega
  rw [e3]
  have he9 : d + d / 65536 ≤ 200000000 := by omega
  generalize d + d / 65536 = q at *
  have e4 : IntKind.u64.wrap ((q : Int) + q / 4294967296) = ((q + q / 4294967296 : Nat) : Int) := by
    rw [wu64 _ (by omega) (by omega)]
    omega
  rw [e4, w64 _ (by omega) (by omega), show (127 : Int) = ((127 : Nat) : Int) from rfl, bandi _ _ (by omega) (by decide)]

theorem count_ {W : World} {B b n : Nat} {x : Nat} {A : Option Addr} {c : Nat} (h : Bm W B b n [x] A c) (hx : x < 2 ^ n) (hn : n ≤ 24) :
    Calls Tryz.prog 55 #[.pointer (some ⟨b, 0, none⟩)] W fun e w' => e = .returned (.int .i64 (cnt (bitsOf x n) : Nat)) ∧ w' = W := by
  have hu := Tryz.underlying182
  have k0 := cell_of h.box 0
  have k1 := cell_of h.box 1
  have hx24 : x < 16777216 := Nat.lt_of_lt_of_le hx (show 2 ^ n ≤ 2 ^ 24 from Nat.pow_le_pow_right (by decide) hn)
  have hoc := oc_small x hx24
  rw [cb_lt hx hn, ← cnt_bits] at hoc
  have hcl := cnt_le (bitsOf x n)
  rw [bitsOf_length] at hcl
  obtain ⟨a, rfl, ha0, ha⟩ := (own_rk (k := .u64) h.row).1 0 x rfl
  have ha : W.cell? a = some (.int .u64 x) := ha
  have HN : Hid (∀ w, Calls Tryz.prog 112 #[.int .u64 x] w fun e w' => e = .returned (.int .i64 (cnt (bitsOf x n) : Nat)) ∧ w = w') := fun w => by
    rw [← hoc]
    exact ones64 _ w
  generalize cnt (bitsOf x n) = r at *
  clear h hx hx24 hoc
  go_enter Tryz.func55, Tryz.ntmps55
  go_wp2_with fail
  go_loop [11, 3] (fun c11 c3 => ∃ i : Nat, i ≤ 1 ∧ c11 = .int .i64 i ∧ c3 = .int .i64 ((if i = 0 then 0 else r : Nat) : Int)) (fun c11 _ => 1 - (intOf c11).toNat)
  case atStart => exact ⟨0, by omega, rfl, rfl⟩
  case round =>
    obtain ⟨i, hi, rfl, rfl⟩ := hrel
    match i, hi with
    | 0, _ =>
      rw [if_pos rfl]
      go_wp2_with (go_at_call 112; refine (HN.out _).mono ?_; rintro e w1 ⟨rfl, rfl⟩)
      go_round
      case rel => exact ⟨1, by omega, by go_num, by rw [if_neg (by decide)]⟩
      case measure => simp [intOf]
    | 1, _ =>
      rw [if_neg (by decide)]
      go_wp2_with fail
      go_ret
      exact ⟨rfl, rfl⟩

theorem free_ {W : World} {B b n : Nat} {x : Nat} {A : Option Addr} {c : Nat} (h : Bm W B b n [x] A c) (hx : x < 2 ^ n) (hn : n ≤ 24) :
    Calls Tryz.prog 97 #[.pointer (some ⟨b, 0, none⟩)] W fun e w' => e = .returned (.int .i64 ((n : Int) - (cnt (bitsOf x n) : Nat))) ∧ Below W.heap.size W w' := by
  have hu := Tryz.underlying182
  have k0 := cell_of h.box 0
  have HC : Hid (∀ j, Calls Tryz.prog 55 #[.pointer (some ⟨b, 0, none⟩)] (W.drewN j) fun e w' => e = .returned (.int .i64 (cnt (bitsOf x n) : Nat)) ∧ w' = W.drewN j) := fun j => count_ (h.keep (bl_drewN (Below.refl _ _) j)) hx hn
  have hcl := cnt_le (bitsOf x n)
  rw [bitsOf_length] at hcl
  generalize cnt (bitsOf x n) = r at *
  clear h hx
  go_enter Tryz.func97, Tryz.ntmps97
  go_wp2_with fail
  go_region_held3 (fun w' => w'.cell? ⟨b, 0, none⟩ = some (.int .i64 n) ∧ Bk W w')
    (first | assumption | exact ⟨k0, ⟨1, rfl⟩⟩ | exact ⟨k0, ⟨_, rfl⟩⟩)
    ((go_at_call 55; refine (HC.out 1).mono ?_; rintro e w1 ⟨rfl, rfl⟩))
  all_goals
    go_wp2
    go_ret
    refine ⟨ret_int ?_, bl_drewN (Below.refl _ _) _⟩
    first | rfl | exact wi64 _ (by omega) (by omega)

theorem rcount_ {W : World} {A : Option Addr} {l : List Bool} (h : RB W A l) (c : Nat) (hl : l.length ≤ 1000000000) :
    Calls Tryz.prog 96 #[.slice A l.length c] W fun e w' => e = .returned (.int .i64 (cnt l : Nat)) ∧ w' = W := by
  have H := Lib.hid h
  obtain ⟨n, hn⟩ : ∃ n, n = l.length := ⟨_, rfl⟩
  rw [← hn] at hl
  rw [← hn]
  have HN := Lib.hid hn
  clear h hn
  go_enter Tryz.func96, Tryz.ntmps96
  go_wp2_with fail
  go_loop [8, 3] (fun c8 c3 => ∃ i r : Nat, i ≤ n ∧ r ≤ i ∧ c8 = .int .i64 i ∧ c3 = .int .i64 r ∧ Hid (r = cnt (l.take i))) (fun c8 _ => n - (intOf c8).toNat)
  case atStart => exact ⟨0, 0, by omega, by omega, rfl, rfl, by show _ = _; simp [cnt]⟩
  case round =>
    obtain ⟨i, r, hi, hr, rfl, rfl, HR⟩ := hrel
    by_cases hlt : i < n
    · obtain ⟨x, hx⟩ := some_at (l := l) (i := i) (by rw [← HN.out]; exact hlt)
      obtain ⟨a, rfl, ha0, ha⟩ := H.out i x hx
      have HX : Hid (cnt (l.take (i + 1)) = r + if x then 1 else 0) := by
        show _ = _
        rw [take_next hx, cnt_append, ← HR.out]
        simp [cnt]
      clear hx
      cases x with
      | false =>
        go_wp2_with fail
        go_round
        case rel => exact ⟨i + 1, r, by omega, by omega, by go_num, rfl, by show _ = _; rw [HX.out]; simp⟩
        case measure => simp [intOf]; omega
      | true =>
        go_wp2_with fail
        go_round
        case rel => exact ⟨i + 1, r + 1, by omega, by omega, by go_num, by go_num, by show _ = _; rw [HX.out]; simp⟩
        case measure => simp [intOf]; omega
    · obtain rfl : i = n := by omega
      go_wp2_with fail
      go_ret
      refine ⟨?_, rfl⟩
      rw [HR.out, List.take_of_length_le (by rw [← HN.out]; exact Nat.le_refl _)]
      rfl

end Go.Proofs.YtgnagbbdnlmgeaaGreat.Jd
end
