/- Parts of the proof, one behind the other: Ro, Jc, Bm, Bn, Bo. -/
import Derived.Test.YtgnagbbdnlmgeaaGreatG09
import Derived.Test.YtgnagbbdnlmgeaaGreatG07
import Derived.Test.YtgnagbbdnlmgeaaGreatG08
import Derived.Test.YtgnagbbdnlmgeaaGreatG03
import Derived.Deep.QuietTactic
import Derived.BigQuiet
import Derived.Deep.RegionHeld3

/- record.Decode of a line. -/
section
set_option linter.unusedVariables false
set_option linter.unusedSimpArgs false
set_option maxHeartbeats 2000000
set_option maxRecDepth 100000
namespace Go.Proofs.YtgnagbbdnlmgeaaGreat.Rj
open Go Go.RowKit
open Go.Proofs.YtgnagbbdnlmgeaaGreat.Ob Go.Proofs.YtgnagbbdnlmgeaaGreat.Ba Go.Proofs.YtgnagbbdnlmgeaaGreat.Oc Go.Proofs.YtgnagbbdnlmgeaaGreat.Pk Go.Proofs.YtgnagbbdnlmgeaaGreat.Su Go.Proofs.YtgnagbbdnlmgeaaGreat.Cc Go.Proofs.YtgnagbbdnlmgeaaGreat.Cr

/-- what a line is: 0 nothing, 1 a record, 2 torn -/
def ok9 (l : List Nat) : Bool := decide (rOk (l.getD 0 0 / 65536 % 65536 : Nat) (l.getD 0 0 / 4294967296 % 65536 : Nat) (l.getD 0 0 / 281474976710656 : Nat) (min (l.getD 1 0) 65535 : Nat)) &&
  decide (line (pv (f16s [1, l.getD 0 0 / 65536 % 65536, l.getD 0 0 / 4294967296 % 65536, l.getD 0 0 / 281474976710656])) (min (l.getD 1 0) 65535) = l)
def st9 (l : List Nat) : Int := if mxl l = 0 then 0 else if ok9 l then 1 else 2
def r9 (l : List Nat) : Int × Int × Int × Int := if mxl l ≠ 0 ∧ ok9 l = true then (((l.getD 0 0 / 65536 % 65536 : Nat) : Int), ((l.getD 0 0 / 4294967296 % 65536 : Nat) : Int), ((l.getD 0 0 / 281474976710656 : Nat) : Int), ((min (l.getD 1 0) 65535 : Nat) : Int)) else (0, 0, 0, 0)
def D9 (l : List Nat) (e : Ending) : Prop := e = .returned (.tuple #[.agg #[.int .i64 (r9 l).1, .int .i64 (r9 l).2.1, .int .i64 (r9 l).2.2.1, .int .i64 (r9 l).2.2.2], .int .i64 (st9 l)])
theorem d9_zero {l : List Nat} (h : mxl l = 0) : D9 l (.returned (.tuple #[.agg #[.int .i64 0, .int .i64 0, .int .i64 0, .int .i64 0], .int .i64 0])) := by unfold D9 r9 st9; rw [if_pos h, if_neg (fun h2 => h2.1 h)]
theorem d9_no {l : List Nat} (h : mxl l ≠ 0) (h2 : ok9 l = false) : D9 l (.returned (.tuple #[.agg #[.int .i64 0, .int .i64 0, .int .i64 0, .int .i64 0], .int .i64 2])) := by unfold D9 r9 st9; rw [if_neg h, if_neg (by rw [h2]; simp), h2, if_neg (by simp)]
theorem d9_yes {l : List Nat} {a b c n : Nat} (h : mxl l ≠ 0) (h2 : ok9 l = true) (ha : a = l.getD 0 0 / 65536 % 65536) (hb : b = l.getD 0 0 / 4294967296 % 65536) (hc : c = l.getD 0 0 / 281474976710656) (hn : n = min (l.getD 1 0) 65535) : D9 l (.returned (.tuple #[.agg #[.int .i64 a, .int .i64 b, .int .i64 c, .int .i64 n], .int .i64 1])) := by
  unfold D9 r9 st9
  rw [if_neg h, if_pos ⟨h, h2⟩, h2, if_pos rfl, ha, hb, hc, hn]

theorem spl4 (x : Nat) (hx : x < 18446744073709551616) : spl x [16, 16, 16, 16] = [x % 65536, x / 65536 % 65536, x / 4294967296 % 65536, x / 281474976710656] := by
  simp only [spl]
  simp
  omega
theorem four_rk (w : World) (q T : Nat) (fr : Nat × Nat) (h : w.heap[q]? = some (.cells #[.int .i64 16, .int .i64 16, .int .i64 16, .int .i64 16] T fr)) : Rk .i64 w (some ⟨q, 0, none⟩) (ints [16, 16, 16, 16]) := by
  refine blk_rk h fun i x hx => ?_
  match i with
  | 0 => simpa [ints] using hx
  | 1 => simpa [ints] using hx
  | 2 => simpa [ints] using hx
  | 3 => simpa [ints] using hx
  | i + 4 => simp [ints] at hx
theorem put4 {W : World} {k T : Nat} {x0 x1 x2 x3 : Value} (h : W.heap[k]? = some (.cells #[x0, x1, x2, x3] T (0, 0))) (y0 y1 y2 y3 : Value) :
    ((((W.setCell ⟨k, 0, none⟩ y0).setCell ⟨k, 1, none⟩ y1).setCell ⟨k, 2, none⟩ y2).setCell ⟨k, 3, none⟩ y3).heap[k]? = some (.cells #[y0, y1, y2, y3] T (0, 0)) := by
  rw [set_same (set_same (set_same (set_same h 0 y0) 1 y1) 2 y2) 3 y3]; rfl
theorem bl_put4 {w W : World} {k : Nat} (h : Below w.heap.size w W) (hk : w.heap.size ≤ k) (y0 y1 y2 y3 : Value) : Below w.heap.size w ((((W.setCell ⟨k, 0, none⟩ y0).setCell ⟨k, 1, none⟩ y1).setCell ⟨k, 2, none⟩ y2).setCell ⟨k, 3, none⟩ y3) := bl_set (bl_set (bl_set (bl_set h hk _) hk _) hk _) hk _

theorem dec_zero {w : World} {A : Option Addr} {l : List Nat} (h : Rk .u64 w A (ints l)) (c : Nat) (hl : l.length = 8) (hlt : ∀ x ∈ l, x < 18446744073709551616) (hz : mxl l = 0) :
    Calls Tryz.prog 91 #[.slice A 8 c] w fun e w' => D9 l e ∧ Below w.heap.size w w' := by
  have hu := Tryz.underlying70
  have hmx := max_ (h.below (bl_alloc (Below.refl _ _) (.cells #[.int .i64 0, .int .i64 0, .int .i64 0, .int .i64 0] 70))) hlt c (by omega) (by omega)
  rw [hl, hz] at hmx
  have HMX := Lib.hid hmx
  have HZ := Lib.hid hz
  have hq1 := Lib.hid (alloc_new w (.cells #[.int .i64 0, .int .i64 0, .int .i64 0, .int .i64 0] 70))
  have l0 := cell_of hq1.out 0
  have l1 := cell_of hq1.out 1
  have l2 := cell_of hq1.out 2
  have l3 := cell_of hq1.out 3
  have f0 := free_of hq1.out 0
  have f1 := free_of hq1.out 1
  have f2 := free_of hq1.out 2
  have f3 := free_of hq1.out 3
  clear h hlt hl hz hmx
  go_enter Tryz.func91, Tryz.ntmps91
  go_wp2_with fail
  refine HMX.out.mono ?_
  rintro e w1 ⟨rfl, rfl⟩
  go_wp2_with fail
  exact bodyPost_ret (res_ct (u := 3) rfl _ _ w.heap.size 70 #[.int .i64 0, .int .i64 0, .int .i64 0, .int .i64 0] (0, 0) _ rfl hq1.out hu rfl (by kernel_rfl)) rfl ⟨d9_zero HZ.out, bl_alloc (Below.refl _ _) _⟩

theorem dec_rest {w : World} {A : Option Addr} {l : List Nat} (h : Rk .u64 w A (ints l)) (c : Nat) (hl : l.length = 8) (hlt : ∀ x ∈ l, x < 18446744073709551616) (hz : mxl l ≠ 0) :
    Calls Tryz.prog 91 #[.slice A 8 c] w fun e w' => D9 l e ∧ Below w.heap.size w w' := by
  have hu := Tryz.underlying70
  have hmx := max_ (h.below (bl_alloc (Below.refl _ _) (.cells #[.int .i64 0, .int .i64 0, .int .i64 0, .int .i64 0] 70))) hlt c (by omega) (by omega)
  obtain ⟨M, hM⟩ : ∃ M, M = mxl l := ⟨_, rfl⟩
  rw [hl, ← hM] at hmx
  have hM0 : (((M : Nat) : Int) == 0) = false := beq_eq_false_iff_ne.2 (by omega)
  have HMX := Lib.hid hmx
  have HZ := Lib.hid hz
  obtain ⟨x, hx0⟩ := some_at (l := l) (i := 0) (by omega)
  obtain ⟨y, hy1⟩ := some_at (l := l) (i := 1) (by omega)
  have hxe : l.getD 0 0 = x := by rw [List.getD_eq_getElem?_getD, hx0]; rfl
  have hye : l.getD 1 0 = y := by rw [List.getD_eq_getElem?_getD, hy1]; rfl
  have hx64 := hlt x (List.mem_of_getElem? hx0)
  have hy64 := hlt y (List.mem_of_getElem? hy1)
  obtain ⟨a0, ha0⟩ : ∃ a0, a0 = x % 65536 := ⟨_, rfl⟩
  obtain ⟨a, ha1⟩ : ∃ a, a = x / 65536 % 65536 := ⟨_, rfl⟩
  obtain ⟨b, hb1⟩ : ∃ b, b = x / 4294967296 % 65536 := ⟨_, rfl⟩
  obtain ⟨d, hd1⟩ : ∃ d, d = x / 281474976710656 := ⟨_, rfl⟩
  obtain ⟨n, hn1⟩ : ∃ n, n = min y 65535 := ⟨_, rfl⟩
  have ha9 : a < 65536 := by omega
  have hb9 : b < 65536 := by omega
  have hd9 : d < 65536 := by omega
  have hn9 : n < 65536 := by omega
  have HF : Hid (a = l.getD 0 0 / 65536 % 65536 ∧ b = l.getD 0 0 / 4294967296 % 65536 ∧ d = l.getD 0 0 / 281474976710656 ∧ n = min (l.getD 1 0) 65535) := ⟨by rw [hxe]; exact ha1, by rw [hxe]; exact hb1, by rw [hxe]; exact hd1, by rw [hye]; exact hn1⟩
  have HOK : Hid (ok9 l = (decide (rOk a b d n) && decide (line (pv (f16s [1, a, b, d])) n = l))) := by
    show _ = _
    unfold ok9
    rw [hxe, hye, ← ha1, ← hb1, ← hd1, ← hn1]
  have H := Lib.hid h
  obtain ⟨ad, rfl, had0, hax⟩ := h 0 x (ints_get hx0)
  obtain ⟨_, e2, -, hby⟩ := h 1 y (ints_get hy1)
  cases e2
  have hax : w.cell? ad = some (.int .u64 x) := hax
  have hby : w.cell? ⟨ad.block, ad.off + 1, none⟩ = some (.int .u64 y) := hby
  have HL := Lib.hid hl
  have hal : ((w.alloc (.cells #[.int .i64 0, .int .i64 0, .int .i64 0, .int .i64 0] 70)).alloc (.cells #[.int .i64 16, .int .i64 16, .int .i64 16, .int .i64 16] 3)).heap[w.heap.size + 1]? = some (.cells #[.int .i64 16, .int .i64 16, .int .i64 16, .int .i64 16] 3 (0, 0)) := by
    have := alloc_new (w.alloc (.cells #[.int .i64 0, .int .i64 0, .int .i64 0, .int .i64 0] 70)) (.cells #[.int .i64 16, .int .i64 16, .int .i64 16, .int .i64 16] 3)
    rw [World.size_alloc] at this
    exact this
  have hsp := split_ (four_rk _ _ _ _ hal) x hx64 4 (by simp) (by decide) (by decide)
  have hne : x / 2 ^ ([16, 16, 16, 16] : List Nat).sum = 0 := by simp; omega
  rw [decide_eq_true hne, spl4 x hx64, ← ha0, ← ha1, ← hb1, ← hd1, show ([16, 16, 16, 16] : List Nat).length = 4 from rfl] at hsp
  have HS := Lib.hid (And.intro hsp hne)
  have HO := Lib.hid (alloc_old (alloc_new w (.cells #[.int .i64 0, .int .i64 0, .int .i64 0, .int .i64 0] 70)) (.cells #[.int .i64 16, .int .i64 16, .int .i64 16, .int .i64 16] 3))
  have hnc : (y ≤ 65535 ∧ n = y) ∨ (65535 < y ∧ n = 65535) := by omega
  clear hsp hal hne h hl hlt hx0 hy1 hxe hye ha1 hb1 hd1 hn1 hM hz hmx ha0
  go_enter Tryz.func91, Tryz.ntmps91
  go_wp2_with fail
  refine HMX.out.mono ?_
  rintro e w1 ⟨rfl, rfl⟩
  go_wp2_with fail
  refine (show Calls _ _ #[.int .u64 x, .slice (some ⟨w.heap.size + 1, 0, none⟩) 4 4] _ _ from HS.out.1).mono ?_
  rintro e w1 ⟨v, rfl, hown, hb1⟩
  replace hown := hown HS.out.2
  obtain ⟨A1, c1, rfl⟩ := own_slice hown
  obtain ⟨g1, rfl, hc0, hf0⟩ := own_at (i := 1) (x := (a : Nat)) hown rfl
  obtain ⟨g2, e2, hc1, hf1⟩ := own_at (i := 2) (x := (b : Nat)) hown rfl
  cases e2
  obtain ⟨g3, e3, hc2, hf2⟩ := own_at (i := 3) (x := (d : Nat)) hown rfl
  cases e3
  obtain ⟨hc, hf⟩ := bcell (bl_then (bl_alloc (bl_alloc (Below.refl _ _) _) _) hb1)
  have hq1 : Hid (w1.heap[w.heap.size]? = some (.cells #[.int .i64 0, .int .i64 0, .int .i64 0, .int .i64 0] 70 (0, 0))) := blk_bl HO.out hb1
  have HQ1 : Hid (Below w.heap.size w w1) := bl_then (bl_alloc (bl_alloc (Below.refl _ _) _) _) hb1
  have hy1 : w1.cell? ⟨ad.block, ad.off + 1, none⟩ = some (.int .u64 y) := by rw [hc _ _ had0]; exact hby
  have hg : g1 < w1.heap.size := by
    have := hc0
    unfold World.cell? at this
    cases hq : w1.heap[g1]? with
    | none => simp [hq] at this
    | some o => exact lt_of hq
  have had : ad.block < w1.heap.size := Nat.lt_of_lt_of_le had0 HQ1.out.size
  have hz1 : w.heap.size < w1.heap.size := lt_of hq1.out
  clear hown hb1 hf0 hf1 hf2 hax hby hc hf
  go_wp2_with fail
  have HND : Hid (((w1.alloc (.cells #[.int .i64 a, .int .i64 b, .int .i64 d, .int .i64 n] 70)).drew).heap[w1.heap.size]? = some (.cells #[.int .i64 a, .int .i64 b, .int .i64 d, .int .i64 n] 70 (0, 0))) := alloc_new w1 _
  rcases hnc with ⟨hny, rfl⟩ | ⟨hny, rfl⟩
  · go_region
    by_cases hgeo : rOk a b d n
    · have hen := encode_yes a b d n hgeo
      have hn8 : (line (pv (f16s [1, a, b, d])) n).length = 8 := rfl
      have HG : Hid (rOk a b d n) := hgeo
      obtain ⟨L6, hL6⟩ : ∃ L6, L6 = line (pv (f16s [1, a, b, d])) n := ⟨_, rfl⟩
      rw [← hL6] at hen hn8 HOK
      have HEN := Lib.hid hen
      clear hgeo hen hL6
      go_wp2_with fail
      refine (HEN.out _).mono ?_
      rintro e w2 ⟨v2, rfl, hown2, hb2⟩
      have hb2' : Below w1.heap.size w1 w2 := bl_then (bl_drew (bl_alloc (Below.refl _ _) _)) hb2
      obtain ⟨A2, c2, rfl⟩ := own_slice hown2
      have hrk2 := (own_rk (k := .u64) hown2).1
      have hlr : Rk .u64 w2 (some ad) (ints l) := H.out.below (bl_then HQ1.out hb2')
      have heq := Go.Proofs.YtgnagbbdnlmgeaaGreat.Pm.equal_any (rk_rd hrk2) (rk_rd hlr) c2 c (by rw [ints_length, hn8]; decide) (by rw [ints_length, HL.out]; decide)
      rw [ints_length, ints_length, hn8, HL.out] at heq
      have HE := Lib.hid heq
      have hgb := blk_bl (W := (w1.alloc (.cells #[.int .i64 a, .int .i64 b, .int .i64 d, .int .i64 n] 70)).drew) HND.out hb2
      have m0 := cell_of hgb 0
      have m1 := cell_of hgb 1
      have m2 := cell_of hgb 2
      have m3 := cell_of hgb 3
      have hq2 := Lib.hid (blk_bl hq1.out hb2')
      have HQ2 := Lib.hid (bl_then HQ1.out hb2')
      have hgl := lt_of hgb
      have l0 := cell_of hq2.out 0
      have l1 := cell_of hq2.out 1
      have l2 := cell_of hq2.out 2
      have l3 := cell_of hq2.out 3
      have f0 := free_of hq2.out 0
      have f1 := free_of hq2.out 1
      have f2 := free_of hq2.out 2
      have f3 := free_of hq2.out 3
      clear hown2 hb2 hb2' hrk2 hlr heq hgb hn8
      go_wp2_with fail
      refine HE.out.mono ?_
      rintro e w3 ⟨rfl, n3, rfl⟩
      by_cases hle : ints L6 = ints l
      · have hle' : L6 = l := ints_inj.1 hle
        rw [decide_eq_true hle]
        have HLE : Hid (ok9 l = true) := by show _ = _; rw [HOK.out, decide_eq_true HG.out, decide_eq_true hle']; rfl
        clear hle hle'
        go_wp2_with fail
        exact bodyPost_ret (res_ct (u := 3) rfl _ _ w.heap.size 70 #[.int .i64 a, .int .i64 b, .int .i64 d, .int .i64 n] (0, 0) _ rfl (put4 hq2.out _ _ _ _) hu rfl (by kernel_rfl)) rfl ⟨d9_yes HZ.out HLE.out HF.out.1 HF.out.2.1 HF.out.2.2.1 HF.out.2.2.2, bl_put4 (bl_drewN HQ2.out _) (Nat.le_refl _) _ _ _ _⟩
      · rw [decide_eq_false hle]
        have HLE : Hid (ok9 l = false) := by show _ = _; rw [HOK.out, decide_eq_false (p := L6 = l) (fun h => hle (by rw [h]))]; simp
        clear hle
        go_wp2_with fail
        exact bodyPost_ret (res_ct (u := 3) rfl _ _ w.heap.size 70 #[.int .i64 0, .int .i64 0, .int .i64 0, .int .i64 0] (0, 0) _ rfl (put4 hq2.out _ _ _ _) hu rfl (by kernel_rfl)) rfl ⟨d9_no HZ.out HLE.out, bl_put4 (bl_drewN HQ2.out _) (Nat.le_refl _) _ _ _ _⟩
    · have HLE : Hid (ok9 l = false) := by show _ = _; rw [HOK.out, decide_eq_false hgeo]; rfl
      have HEN := Lib.hid (encode_no a b d n hgeo)
      clear hgeo
      go_wp2_with fail
      refine (HEN.out _).mono ?_
      rintro e w2 ⟨rfl, hb2⟩
      have hb2' : Below w1.heap.size w1 w2 := bl_then (bl_drew (bl_alloc (Below.refl _ _) _)) hb2
      have hq2 := Lib.hid (blk_bl hq1.out hb2')
      have HQ2 := Lib.hid (bl_then HQ1.out hb2')
      have l0 := cell_of hq2.out 0
      have l1 := cell_of hq2.out 1
      have l2 := cell_of hq2.out 2
      have l3 := cell_of hq2.out 3
      have f0 := free_of hq2.out 0
      have f1 := free_of hq2.out 1
      have f2 := free_of hq2.out 2
      have f3 := free_of hq2.out 3
      clear hb2 hb2'
      go_wp2_with fail
      exact bodyPost_ret (res_ct (u := 3) rfl _ _ w.heap.size 70 #[.int .i64 0, .int .i64 0, .int .i64 0, .int .i64 0] (0, 0) _ rfl (put4 hq2.out _ _ _ _) hu rfl (by kernel_rfl)) rfl ⟨d9_no HZ.out HLE.out, bl_put4 HQ2.out (Nat.le_refl _) _ _ _ _⟩
  · have hgeo : ¬ rOk a b d ((65535 : Nat) : Int) := fun h => by have := h.2.2.2.2; omega
    have hgeo2 : ¬ rOk a b d (65535 : Int) := fun h => by have := h.2.2.2.2; omega
    have HLE : Hid (ok9 l = false) := by show _ = _; rw [HOK.out, decide_eq_false hgeo]; rfl
    have HEN := Lib.hid (encode_no a b d 65535 hgeo2)
    clear hgeo hgeo2 hn9 HND HF HOK
    go_region
    go_wp2_with fail
    refine (HEN.out _).mono ?_
    rintro e w2 ⟨rfl, hb2⟩
    have hb2' : Below w1.heap.size w1 w2 := bl_then (bl_drew (bl_alloc (Below.refl _ _) _)) hb2
    have hq2 := Lib.hid (blk_bl hq1.out hb2')
    have HQ2 := Lib.hid (bl_then HQ1.out hb2')
    have l0 := cell_of hq2.out 0
    have l1 := cell_of hq2.out 1
    have l2 := cell_of hq2.out 2
    have l3 := cell_of hq2.out 3
    have f0 := free_of hq2.out 0
    have f1 := free_of hq2.out 1
    have f2 := free_of hq2.out 2
    have f3 := free_of hq2.out 3
    clear hb2 hb2'
    go_wp2_with fail
    exact bodyPost_ret (res_ct (u := 3) rfl _ _ w.heap.size 70 #[.int .i64 0, .int .i64 0, .int .i64 0, .int .i64 0] (0, 0) _ rfl (put4 hq2.out _ _ _ _) hu rfl (by kernel_rfl)) rfl ⟨d9_no HZ.out HLE.out, bl_put4 HQ2.out (Nat.le_refl _) _ _ _ _⟩

theorem decode_ {w : World} {A : Option Addr} {l : List Nat} (h : Rk .u64 w A (ints l)) (c : Nat) (hl : l.length = 8) (hlt : ∀ x ∈ l, x < 18446744073709551616) :
    Calls Tryz.prog 91 #[.slice A 8 c] w fun e w' => D9 l e ∧ Below w.heap.size w w' := by
  by_cases hz : mxl l = 0
  · exact dec_zero h c hl hlt hz
  · exact dec_rest h c hl hlt hz

end Go.Proofs.YtgnagbbdnlmgeaaGreat.Rj
end

/- cantleref09.Decode. -/
section
set_option linter.unusedVariables false
set_option linter.unusedSimpArgs false
set_option maxHeartbeats 2000000
set_option maxRecDepth 100000
namespace Go.Proofs.YtgnagbbdnlmgeaaGreat.R9
open Go Go.RowKit
open Go.Proofs.YtgnagbbdnlmgeaaGreat.Ob Go.Proofs.YtgnagbbdnlmgeaaGreat.Ba Go.Proofs.YtgnagbbdnlmgeaaGreat.Oc Go.Proofs.YtgnagbbdnlmgeaaGreat.Pk Go.Proofs.YtgnagbbdnlmgeaaGreat.Su Go.Proofs.YtgnagbbdnlmgeaaGreat.Cc Go.Proofs.YtgnagbbdnlmgeaaGreat.Cr Go.Proofs.YtgnagbbdnlmgeaaGreat.Rj

/-- (a structure: 'assumption' sees through a definition) -/
structure K9 (l : List Nat) (a b d n : Nat) (L : List Nat) : Prop where
  out : ok9 l = (decide (rOk a b d n) && decide (L = l))
structure O9 (l : List Nat) (t : Bool) : Prop where
  out : ok9 l = t
theorem rdec_ {w : World} {A : Option Addr} {l : List Nat} (h : Rk .u64 w A (ints l)) (c : Nat) (hl : l.length = 8) (hlt : ∀ x ∈ l, x < 18446744073709551616) :
    Calls Tryz.prog 93 #[.slice A 8 c] w fun e w' => D9 l e ∧ Below w.heap.size w w' := by
  have hu := Tryz.underlying74
  obtain ⟨x, hx0⟩ := some_at (l := l) (i := 0) (by omega)
  obtain ⟨y, hy1⟩ := some_at (l := l) (i := 1) (by omega)
  have hxe : l.getD 0 0 = x := by rw [List.getD_eq_getElem?_getD, hx0]; rfl
  have hye : l.getD 1 0 = y := by rw [List.getD_eq_getElem?_getD, hy1]; rfl
  have hx64 := hlt x (List.mem_of_getElem? hx0)
  have hy64 := hlt y (List.mem_of_getElem? hy1)
  obtain ⟨y1, hq1⟩ : ∃ y1, y1 = x / 65536 := ⟨_, rfl⟩
  obtain ⟨y2, hq2⟩ : ∃ y2, y2 = x / 4294967296 := ⟨_, rfl⟩
  obtain ⟨a, ha1⟩ : ∃ a, a = y1 % 65536 := ⟨_, rfl⟩
  obtain ⟨b, hb1⟩ : ∃ b, b = y2 % 65536 := ⟨_, rfl⟩
  obtain ⟨d, hd1⟩ : ∃ d, d = x / 281474976710656 := ⟨_, rfl⟩
  have ha9 : a < 65536 := by omega
  have hb9 : b < 65536 := by omega
  have hd9 : d < 65536 := by omega
  have q1 : (x : Int) / 65536 = (y1 : Int) := by omega
  have q2 : (y1 : Int) % 65536 = (a : Int) := by omega
  have q3 : (x : Int) / 4294967296 = (y2 : Int) := by omega
  have q4 : (y2 : Int) % 65536 = (b : Int) := by omega
  have q5 : (x : Int) / 281474976710656 = (d : Int) := by omega
  have HF : Hid (a = l.getD 0 0 / 65536 % 65536 ∧ b = l.getD 0 0 / 4294967296 % 65536 ∧ d = l.getD 0 0 / 281474976710656 ∧ min (l.getD 1 0) 65535 = min y 65535) := ⟨by rw [hxe, ha1, hq1], by rw [hxe, hb1, hq2], by rw [hxe, hd1], by rw [hye]⟩
  have HOK : Hid (ok9 l = (decide (rOk a b d (min y 65535 : Nat)) && decide (line (pv (f16s [1, a, b, d])) (min y 65535) = l))) := by
    show _ = _
    unfold ok9
    rw [← HF.out.1, ← HF.out.2.1, ← HF.out.2.2.1, hye]
  obtain ⟨mn, hmn⟩ : ∃ mn, mn = min y 65535 := ⟨_, rfl⟩
  rw [← hmn] at HOK HF
  have HMN : Hid ((65535 < y → mn = 65535) ∧ (y ≤ 65535 → mn = y)) := by show _ ∧ _; omega
  clear hmn
  obtain ⟨LN, hLN⟩ : ∃ LN : List Nat, LN = line (pv (f16s [1, a, b, d])) mn := ⟨_, rfl⟩
  rw [← hLN] at HOK
  have HOK' : K9 l a b d mn LN := ⟨HOK.out⟩
  clear HOK
  have HLN := Lib.hid (And.intro hLN (show LN.length = 8 from by rw [hLN]; rfl))
  clear hLN
  have H := Lib.hid h
  obtain ⟨ad, rfl, ha0, ha⟩ := h 0 x (ints_get hx0)
  obtain ⟨_, e2, -, hb⟩ := h 1 y (ints_get hy1)
  cases e2
  have ha : w.cell? ad = some (.int .u64 x) := ha
  have hb : w.cell? ⟨ad.block, ad.off + 1, none⟩ = some (.int .u64 y) := hb
  have HL := Lib.hid hl
  obtain ⟨W1, hW1⟩ : ∃ W1, W1 = w.alloc (.cells #[.int .i64 0, .int .i64 0, .int .i64 0, .int .i64 0] 74) := ⟨_, rfl⟩
  have HW1 := Lib.hid hW1
  have HQ1 : Hid (W1.heap[w.heap.size]? = some (.cells #[.int .i64 0, .int .i64 0, .int .i64 0, .int .i64 0] 74 (0, 0))) := by show _ = _; rw [hW1]; exact alloc_new w _
  have HB1 : Hid (Below w.heap.size w W1) := by show Below _ _ _; rw [hW1]; exact bl_alloc (Below.refl _ _) _
  have HS1 : Hid (W1.heap.size = w.heap.size + 1) := by show _ = _; rw [hW1]; simp
  clear h hl hlt hx0 hy1 hxe hye ha1 hb1 hd1 hq1 hq2 hW1
  go_enter Tryz.func93, Tryz.ntmps93
  go_wp2_with fail
  rw [← HW1.out]
  have hx2 : W1.cell? ad = some (.int .u64 x) := (HB1.out.cell (p := ad) ha0).trans ha
  have hy2 : W1.cell? ⟨ad.block, ad.off + 1, none⟩ = some (.int .u64 y) := (HB1.out.cell (p := ⟨ad.block, ad.off + 1, none⟩) ha0).trans hb
  have had : ad.block < W1.heap.size := Nat.lt_of_lt_of_le ha0 HB1.out.size
  have hz1 : w.heap.size < W1.heap.size := lt_of HQ1.out
  have l0 := cell_of HQ1.out 0
  have l1 := cell_of HQ1.out 1
  have l2 := cell_of HQ1.out 2
  have l3 := cell_of HQ1.out 3
  have f0 := free_of HQ1.out 0
  have f1 := free_of HQ1.out 1
  have f2 := free_of HQ1.out 2
  have f3 := free_of HQ1.out 3
  have HR1 := Lib.hid (H.out.below HB1.out)
  clear ha hb
  go_loop [16, 4] (fun c16 c4 => ∃ (i : Nat) (t : Bool), i ≤ 8 ∧ c16 = .int .i64 i ∧ c4 = .bool t ∧ Hid (t = decide (mxl (l.take i) = 0))) (fun c16 _ => 8 - (intOf c16).toNat)
  case atStart => exact ⟨0, true, Nat.zero_le _, rfl, rfl, rfl⟩
  case round =>
    obtain ⟨i, t, hi, rfl, rfl, HT⟩ := hrel
    by_cases hlt : i < 8
    · obtain ⟨u, hu9⟩ := some_at (l := l) (i := i) (by rw [HL.out]; exact hlt)
      obtain ⟨_, e3, -, hp3⟩ := HR1.out i u (ints_get hu9)
      cases e3
      have HNX : Hid (mxl (l.take (i + 1)) = max (mxl (l.take i)) u) := by show _ = _; rw [take_next hu9, mxl_snoc]
      clear hu9 hx2 hy2 l0 l1 l2 l3 f0 f1 f2 f3
      cases t with
      | false =>
        have hne := of_decide_eq_false HT.out.symm
        have HN2 : Hid (false = decide (mxl (l.take (i + 1)) = 0)) := by show _ = _; rw [HNX.out, decide_eq_false (by omega)]
        clear hne
        go_wp2_with fail
        go_round
        case rel => exact ⟨i + 1, false, by omega, by go_num, rfl, HN2⟩
        case measure => simp [intOf]; omega
      | true =>
        have hze := of_decide_eq_true HT.out.symm
        by_cases hu0 : u = 0
        · have e1 : ((u : Int) == 0) = true := by rw [beq_iff_eq]; omega
          have HN2 : Hid (true = decide (mxl (l.take (i + 1)) = 0)) := by show _ = _; rw [HNX.out, decide_eq_true (by omega)]
          clear hze hu0
          go_wp2_with fail
          go_round
          case rel => exact ⟨i + 1, true, by omega, by go_num, rfl, HN2⟩
          case measure => simp [intOf]; omega
        · have e1 : ((u : Int) == 0) = false := by rw [beq_eq_false_iff_ne]; omega
          have HN2 : Hid (false = decide (mxl (l.take (i + 1)) = 0)) := by show _ = _; rw [HNX.out, decide_eq_false (by omega)]
          clear hze hu0
          go_wp2_with fail
          go_round
          case rel => exact ⟨i + 1, false, by omega, by go_num, rfl, HN2⟩
          case measure => simp [intOf]; omega
    · obtain rfl : i = 8 := by omega
      have ht := HT.out
      rw [List.take_of_length_le (by rw [HL.out]; omega)] at ht
      cases t with
      | true =>
        have HZ := Lib.hid (of_decide_eq_true ht.symm)
        clear ht
        go_wp2_with fail
        exact bodyPost_ret (res_ct (u := 3) rfl _ _ w.heap.size 74 #[.int .i64 0, .int .i64 0, .int .i64 0, .int .i64 0] (0, 0) _ rfl (put4 HQ1.out _ _ _ _) hu rfl (by kernel_rfl)) rfl ⟨d9_zero HZ.out, bl_put4 HB1.out (Nat.le_refl _) _ _ _ _⟩
      | false =>
        have HZ := Lib.hid (of_decide_eq_false ht.symm)
        clear ht
        by_cases hyb : 65535 < y
        · have e1 : (65535 : Int) < (y : Int) := by omega
          have HNO : O9 l false := by
            refine ⟨?_⟩
            rw [HOK'.out, decide_eq_false (fun h => by have := h.2.2.2.2; have := HMN.out.1 hyb; omega)]
            rfl
          clear hyb
          go_wp2_with fail
          exact bodyPost_ret (res_ct (u := 3) rfl _ _ w.heap.size 74 #[.int .i64 0, .int .i64 0, .int .i64 0, .int .i64 0] (0, 0) _ rfl (put4 HQ1.out _ _ _ _) hu rfl (by kernel_rfl)) rfl ⟨d9_no HZ.out HNO.out, bl_put4 HB1.out (Nat.le_refl _) _ _ _ _⟩
        · have e1 : (y : Int) ≤ 65535 := by omega
          have emin : mn = y := HMN.out.2 (by omega)
          rw [emin] at HOK' HF HLN
          clear hyb emin l0 l1 l2 l3 f0 f1 f2 f3
          have hbd : Below W1.heap.size W1 (W1.alloc (.cells #[.int .i64 a, .int .i64 b, .int .i64 d, .int .i64 y] 74)).drew := bl_drew (bl_alloc (Below.refl _ _) _)
          have HBD := Lib.hid hbd
          have HN2 : Hid ((W1.alloc (.cells #[.int .i64 a, .int .i64 b, .int .i64 d, .int .i64 y] 74)).drew.heap[W1.heap.size]? = some (.cells #[.int .i64 a, .int .i64 b, .int .i64 d, .int .i64 y] 74 (0, 0))) := alloc_new W1 _
          clear hbd
          go_wp2_with fail
          go_region
          go_wp2_with fail
          by_cases hok : rOk a b d y
          · have HG := Lib.hid hok
            clear hok
            refine (rmay_yes a b d y HG.out _).mono ?_
            rintro e w3 ⟨rfl, hb3⟩
            have HB3 := Lib.hid (bl_then HBD.out hb3)
            have hn3 := blk_bl HN2.out hb3
            have HN3 := Lib.hid hn3
            have m0 := cell_of hn3 0
            have m1 := cell_of hn3 1
            have m2 := cell_of hn3 2
            have m3 := cell_of hn3 3
            clear hb3 hn3 hx2 hy2 had hz1
            go_wp2_with fail
            refine (renc_ a b d y HG.out _).mono ?_
            rintro e w4 ⟨v4, rfl, hown4, hb4⟩
            obtain ⟨A4, c4, e4⟩ := own_slice hown4
            subst e4
            have HR4 := Lib.hid (own_rk (k := .u64) hown4).1
            have HB4 := Lib.hid (bl_then HB3.out hb4)
            have HR4l := Lib.hid (HR1.out.below HB4.out)
            have HN4 := Lib.hid (blk_bl HN3.out hb4)
            have HQ4 := Lib.hid (blk_bl HQ1.out HB4.out)
            have HBF := Lib.hid (bl_then HB1.out HB4.out)
            have HL6 := Lib.hid HLN.out.2
            rw [← HLN.out.1] at HR4
            clear hown4 hb4 m0 m1 m2 m3
            generalize LN = L6 at *
            go_wp2_with fail
            go_loopw [63] (fun c63 wr => ∃ i : Nat, i ≤ 8 ∧ c63 = .int .i64 i ∧ ∃ q, Hid (wr = w4.drewN q ∧ L6.take i = l.take i)) (fun c63 _ => 8 - (intOf c63).toNat)
            case atStart => exact ⟨0, Nat.zero_le _, rfl, 0, rfl, rfl⟩
            case round =>
              obtain ⟨i, hi, rfl, q, HR⟩ := hrel
              by_cases hlt : i < 8
              · obtain ⟨u, hu9⟩ := some_at (l := L6) (i := i) (by rw [HL6.out]; exact hlt)
                obtain ⟨z, hz9⟩ := some_at (l := l) (i := i) (by rw [HL.out]; exact hlt)
                have hl2 : Rk .u64 wr A4 (ints L6) := by rw [HR.out.1]; exact Iq.rk_drewN HR4.out q
                have hm2 : Rk .u64 wr (some ad) (ints l) := by rw [HR.out.1]; exact Iq.rk_drewN HR4l.out q
                obtain ⟨p3, e3, -, hp3⟩ := hl2 i u (ints_get hu9)
                subst e3
                obtain ⟨_, e4, -, hp4⟩ := hm2 i z (ints_get hz9)
                cases e4
                have HX := Lib.hid (And.intro hu9 hz9)
                clear hu9 hz9 hl2 hm2
                by_cases hxy : u = z
                · have e1 : ((u : Int) != (z : Int)) = false := by simp [hxy]
                  have EX := Lib.hid hxy
                  clear hxy
                  go_wp2_with fail
                  go_quiet (fail)
                  go_wp2_with fail
                  go_roundw
                  case rel => exact ⟨i + 1, by omega, by go_num, q + nq, by show _ ∧ _; rw [HR.out.1]; exact ⟨Pm.drewN_two _ _ _, Iq.take_step HR.out.2 HX.out.1 HX.out.2 EX.out⟩⟩
                  case measure => simp [intOf]; omega
                · have e1 : ((u : Int) != (z : Int)) = true := by rw [bne_iff_ne]; omega
                  have HLE : O9 l false := by
                    refine ⟨?_⟩
                    rw [HOK'.out, decide_eq_true HG.out, decide_eq_false (fun h => hxy (by rw [h] at HX; exact Option.some.inj (HX.out.1.symm.trans HX.out.2)))]
                    rfl
                  clear hxy
                  go_wp2_with fail
                  go_quiet (fail)
                  have hwq : wr.drewN nq = w4.drewN (q + nq) := by rw [HR.out.1]; exact Pm.drewN_two _ _ _
                  rw [hwq]
                  have hq := blk_bl HQ4.out (bl_drewN (Below.refl _ _) (q + nq))
                  have HQ := Lib.hid hq
                  have l0 := cell_of hq 0
                  have l1 := cell_of hq 1
                  have l2 := cell_of hq 2
                  have l3 := cell_of hq 3
                  have f0 := free_of hq 0
                  have f1 := free_of hq 1
                  have f2 := free_of hq 2
                  have f3 := free_of hq 3
                  clear hq hwq
                  go_wp2_with fail
                  exact bodyPost_ret (res_ct (u := 3) rfl _ _ w.heap.size 74 #[.int .i64 0, .int .i64 0, .int .i64 0, .int .i64 0] (0, 0) _ rfl (put4 HQ.out _ _ _ _) hu rfl (by kernel_rfl)) rfl ⟨d9_no HZ.out HLE.out, bl_put4 (bl_drewN HBF.out _) (Nat.le_refl _) _ _ _ _⟩
              · obtain rfl : i = 8 := by omega
                have hle : L6 = l := by
                  have h1 := HR.out.2
                  rw [List.take_of_length_le (by rw [HL6.out]; omega), List.take_of_length_le (by rw [HL.out]; omega)] at h1
                  exact h1
                have HLE : O9 l true := by refine ⟨?_⟩; rw [HOK'.out, decide_eq_true HG.out, decide_eq_true hle]; rfl
                have hwr := HR.out.1
                subst hwr
                have hq := blk_bl HQ4.out (bl_drewN (Below.refl _ _) q)
                have hm := blk_bl HN4.out (bl_drewN (Below.refl _ _) q)
                have HQ := Lib.hid hq
                have l0 := cell_of hq 0
                have l1 := cell_of hq 1
                have l2 := cell_of hq 2
                have l3 := cell_of hq 3
                have f0 := free_of hq 0
                have f1 := free_of hq 1
                have f2 := free_of hq 2
                have f3 := free_of hq 3
                have m0 := cell_of hm 0
                have m1 := cell_of hm 1
                have m2 := cell_of hm 2
                have m3 := cell_of hm 3
                clear hq hm hle
                go_wp2_with fail
                exact bodyPost_ret (res_ct (u := 3) rfl _ _ w.heap.size 74 #[.int .i64 a, .int .i64 b, .int .i64 d, .int .i64 y] (0, 0) _ rfl (put4 HQ.out _ _ _ _) hu rfl (by kernel_rfl)) rfl ⟨d9_yes HZ.out HLE.out HF.out.1 HF.out.2.1 HF.out.2.2.1 HF.out.2.2.2.symm, bl_put4 (bl_drewN HBF.out _) (Nat.le_refl _) _ _ _ _⟩
          · have HNO : O9 l false := by refine ⟨?_⟩; rw [HOK'.out, decide_eq_false hok]; rfl
            have HG := Lib.hid hok
            clear hok
            refine (rmay_no a b d y HG.out _).mono ?_
            rintro e w3 ⟨rfl, hb3⟩
            have HB3 := Lib.hid (bl_then HBD.out hb3)
            have HQ3 := Lib.hid (blk_bl HQ1.out HB3.out)
            have HBF := Lib.hid (bl_then HB1.out HB3.out)
            have l0 := cell_of HQ3.out 0
            have l1 := cell_of HQ3.out 1
            have l2 := cell_of HQ3.out 2
            have l3 := cell_of HQ3.out 3
            have f0 := free_of HQ3.out 0
            have f1 := free_of HQ3.out 1
            have f2 := free_of HQ3.out 2
            have f3 := free_of HQ3.out 3
            clear hb3 hx2 hy2 had hz1
            go_wp2_with fail
            exact bodyPost_ret (res_ct (u := 3) rfl _ _ w.heap.size 74 #[.int .i64 0, .int .i64 0, .int .i64 0, .int .i64 0] (0, 0) _ rfl (put4 HQ3.out _ _ _ _) hu rfl (by kernel_rfl)) rfl ⟨d9_no HZ.out HNO.out, bl_put4 HBF.out (Nat.le_refl _) _ _ _ _⟩

end Go.Proofs.YtgnagbbdnlmgeaaGreat.R9
end

/- package bitmap: which blocks are used. -/
section
set_option linter.unusedVariables false
set_option linter.unusedSimpArgs false
set_option maxHeartbeats 2000000
set_option maxRecDepth 100000
namespace Go.Proofs.YtgnagbbdnlmgeaaGreat.Bm
open Go Go.RowKit
open Go.Proofs.YtgnagbbdnlmgeaaGreat.Ob Go.Proofs.YtgnagbbdnlmgeaaGreat.Ba Go.Proofs.YtgnagbbdnlmgeaaGreat.Oc Go.Proofs.YtgnagbbdnlmgeaaGreat.Pk

/-- a map of n blocks in words l -/
structure Bm (W : World) (B b n : Nat) (l : List Nat) (A : Option Addr) (c : Nat) : Prop where
  box : W.heap[b]? = some (.cells #[.int .i64 n, .slice A l.length c] 182 (0, 0))
  row : W.ownsRow B 94 1 (.slice A l.length c) l.length (ivs .u64 (ints l))
  lo : B ≤ b
  apart : ∀ a, A = some a → a.block ≠ b
  len : l.length = (n + 63) / 64
  lt : ∀ x ∈ l, x < 18446744073709551616
  le : n ≤ 65534

theorem Bm.keep {W W' : World} {B b n : Nat} {l : List Nat} {A : Option Addr} {c : Nat} (h : Bm W B b n l A c) (hb : Below W.heap.size W W') : Bm W' B b n l A c :=
  ⟨blk_bl h.box hb, own_bl h.row hb, h.lo, h.apart, h.len, h.lt, h.le⟩

def bget (l : List Nat) (i : Nat) : Bool := (l.getD (i / 64) 0).testBit (i % 64)
def bhas (n : Nat) (l : List Nat) (i : Int) : Bool := decide (0 ≤ i) && decide (i < n) && bget l i.toNat

theorem bit_and (x r : Nat) (hx : x < 18446744073709551616) : (Go.bits .and .u64 ((x : Int) / 2 ^ r) 1 == 1) = x.testBit r := by
  have e : (x : Int) / 2 ^ r = ((x / 2 ^ r : Nat) : Int) := by norm_cast
  have hlt : x / 2 ^ r < 18446744073709551616 := Nat.lt_of_le_of_lt (Nat.div_le_self _ _) hx
  have hk : IntKind.u64.bits = 64 := rfl
  have h1 : Go.bits .and .u64 ((x / 2 ^ r : Nat) : Int) 1 = ((x / 2 ^ r % 2 : Nat) : Int) := by
    rw [show (1 : Int) = ((1 : Nat) : Int) from rfl]
    simp only [Go.bits, hk, BitVec.ofInt_natCast, BitVec.toNat_and, BitVec.toNat_ofNat]
    rw [show (2 : Nat) ^ 64 = 18446744073709551616 from rfl, Nat.mod_eq_of_lt hlt, Nat.mod_eq_of_lt (by decide : 1 < 18446744073709551616), Nat.and_one_is_mod]
    exact wu64 _ (by omega) (by omega)
  rw [e, h1, Nat.testBit_eq_decide_div_mod_eq]
  by_cases h : x / 2 ^ r % 2 = 1
  · rw [h]; rfl
  · rw [decide_eq_false h]
    exact beq_eq_false_iff_ne.2 (by omega)

theorem has_ {W : World} {B b n : Nat} {l : List Nat} {A : Option Addr} {c : Nat} (h : Bm W B b n l A c) (i : Int) :
    Calls Tryz.prog 94 #[.pointer (some ⟨b, 0, none⟩), .int .i64 i] W fun e w' => e = .returned (.bool (bhas n l i)) ∧ w' = W := by
  have hu := Tryz.underlying182
  have k0 := cell_of h.box 0
  have k1 := cell_of h.box 1
  by_cases h1 : 0 ≤ i
  · by_cases h2 : i < n
    · obtain ⟨j, rfl⟩ : ∃ j : Nat, i = j := ⟨i.toNat, by omega⟩
      have hlen := h.len
      have hj : j < 65534 := by have := h.le; omega
      obtain ⟨x, hx⟩ := some_at (l := l) (i := j / 64) (by omega)
      obtain ⟨g, hA, hc, hf⟩ := own_at h.row (ints_get hx)
      have hx9 := h.lt x (List.mem_of_getElem? hx)
      have hv : bhas n l j = x.testBit (j % 64) := by
        unfold bhas bget
        rw [show (j : Int).toNat = j from rfl, List.getD_eq_getElem?_getD, hx]
        simp [h2]
      have hb := bit_and x (j % 64) hx9
      rw [hv]
      subst hA
      have hjl : (j : Int) / 64 < l.length := by omega
      clear hlen hv hx
      go_enter Tryz.func94, Tryz.ntmps94
      go_wp2_with fail
      go_ret
      exact ⟨rfl, rfl⟩
    · have hv : bhas n l i = false := by unfold bhas; rw [decide_eq_false h2]; simp
      rw [hv]
      go_enter Tryz.func94, Tryz.ntmps94
      go_wp2_with fail
      go_ret
      exact ⟨rfl, rfl⟩
  · have hv : bhas n l i = false := by unfold bhas; rw [decide_eq_false h1]; simp
    rw [hv]
    go_enter Tryz.func94, Tryz.ntmps94
    go_wp2_with fail
    go_ret
    exact ⟨rfl, rfl⟩

def bturn (l : List Nat) (j : Nat) : List Nat := l.set (j / 64) (l.getD (j / 64) 0 ^^^ 2 ^ (j % 64))
def turnF (n : Nat) (was : Bool) (st : List Nat × Nat) (i : Int) : List Nat × Nat := if 0 ≤ i ∧ i < n ∧ bget st.1 i.toNat = was then (bturn st.1 i.toNat, st.2 + 1) else st
def turnL (n : Nat) (was : Bool) (l : List Nat) (xs : List Int) : List Nat × Nat := xs.foldl (turnF n was) (l, 0)
theorem turnL_snoc (n : Nat) (was : Bool) (l : List Nat) (xs : List Int) (x : Int) : turnL n was l (xs ++ [x]) = turnF n was (turnL n was l xs) x := by simp [turnL]

theorem bit_xor (x r : Nat) (hx : x < 18446744073709551616) (hr : r < 64) : Go.bits .xor .u64 (x : Int) (IntKind.u64.wrap (2 ^ r)) = ((x ^^^ 2 ^ r : Nat) : Int) ∧ x ^^^ 2 ^ r < 18446744073709551616 := by
  have hk : IntKind.u64.bits = 64 := rfl
  have h2 : (2 : Nat) ^ r < 18446744073709551616 := Nat.pow_lt_pow_right (by decide) hr
  have e : IntKind.u64.wrap (2 ^ r) = ((2 ^ r : Nat) : Int) := by
    have e2 : (2 ^ r : Int) = ((2 ^ r : Nat) : Int) := by norm_cast
    rw [e2]
    exact wu64 _ (Int.natCast_nonneg _) (Int.lt_of_lt_of_le (Int.ofNat_lt.2 h2) (by decide))
  have hxx : x ^^^ 2 ^ r < 2 ^ 64 := Nat.xor_lt_two_pow hx h2
  refine ⟨?_, hxx⟩
  rw [e]
  simp only [Go.bits, hk, BitVec.ofInt_natCast, BitVec.toNat_xor, BitVec.toNat_ofNat]
  rw [show (2 : Nat) ^ 64 = 18446744073709551616 from rfl, Nat.mod_eq_of_lt hx, Nat.mod_eq_of_lt h2]
  exact wu64 _ (by omega) (by omega)

theorem Bm.turn {W : World} {B b n : Nat} {l : List Nat} {g c : Nat} (h : Bm W B b n l (some ⟨g, 0, none⟩) c) {j x : Nat} (hx : l[j / 64]? = some x) (y : Nat) (hy : y < 18446744073709551616) : Bm (W.setCell ⟨g, j / 64, none⟩ (.int .u64 y)) B b n (l.set (j / 64) y) (some ⟨g, 0, none⟩) c := by
  have hlt := (List.getElem?_eq_some_iff.1 hx).1
  have hne : g ≠ b := h.apart _ rfl
  have e : (ivs .u64 (ints l)).set (j / 64) (.int .u64 y) = ivs .u64 (ints (l.set (j / 64) y)) := by simp [ivs, ints, List.map_set]
  refine ⟨?_, ?_, h.lo, h.apart, by rw [List.length_set]; exact h.len, ?_, h.le⟩
  · rw [List.length_set]
    exact (Below.heap_setCell W _ _ b (fun e => hne e.symm)).trans h.box
  · rw [List.length_set, ← e]
    exact own_set h.row hlt _
  · intro z hz
    rcases List.mem_or_eq_of_mem_set hz with h1 | rfl
    · exact h.lt z h1
    · exact hy

/-- nothing but A's block has changed -/
structure Only (A : Option Addr) (w w' : World) : Prop where
  os : w'.os = w.os
  tape : w'.tape = w.tape
  output : w'.output = w.output
  size : w'.heap.size = w.heap.size
  block : ∀ k, (∀ a, A = some a → a.block ≠ k) → w'.heap[k]? = w.heap[k]?
theorem Only.refl (A : Option Addr) (w : World) : Only A w w := ⟨rfl, rfl, rfl, rfl, fun _ _ => rfl⟩
theorem Only.set {w w' : World} {g : Nat} (h : Only (some ⟨g, 0, none⟩) w w') (o : Nat) (v : Value) : Only (some ⟨g, 0, none⟩) w (w'.setCell ⟨g, o, none⟩ v) := by
  have hb : Below 0 w' (w'.setCell ⟨g, o, none⟩ v) := (Below.refl 0 w').setCell (Nat.zero_le _) v
  refine ⟨hb.os.trans h.os, hb.tape.trans h.tape, hb.output.trans h.output, ?_, fun k hk => ?_⟩
  · simpa using h.size
  · exact (Below.heap_setCell w' (⟨g, o, none⟩ : Addr) v k (fun e => hk _ rfl e.symm)).trans (h.block k hk)
theorem Only.drew {A : Option Addr} {w w' : World} (h : Only A w w') : Only A w w'.drew := ⟨h.os, h.tape, h.output, h.size, h.block⟩
theorem Only.below {A : Option Addr} {w w' : World} {B : Nat} (h : Only A w w') (hA : ∀ a, A = some a → B ≤ a.block) : Below B w w' :=
  ⟨h.os, h.tape, h.output, Nat.le_of_eq h.size.symm, fun k hk => h.block k (fun a ha e => by have := hA a ha; omega)⟩
theorem Only.rk {k : IntKind} {A D : Option Addr} {w w' : World} {xs : List Int} (h : Only A w w') (hx : Rk k w D xs) (hD : ∀ a a', D = some a → A = some a' → a'.block ≠ a.block) : Rk k w' D xs :=
  hx.keep (fun a ha => h.block _ (fun a' ha' => hD a a' ha ha')) (Nat.le_of_eq h.size.symm)

theorem Bm.drew {W : World} {B b n : Nat} {l : List Nat} {A : Option Addr} {c : Nat} (h : Bm W B b n l A c) : Bm W.drew B b n l A c := ⟨h.box, h.row, h.lo, h.apart, h.len, h.lt, h.le⟩

theorem turn_ {W : World} {B b n : Nat} {l : List Nat} {A : Option Addr} {c : Nat} (h : Bm W B b n l A c) (was : Bool) {D : Option Addr} {xs : List Int} (hxs : Rk .i64 W D xs) (hD : ∀ a a', D = some a → A = some a' → a'.block ≠ a.block) (cd : Nat) (hn : xs.length ≤ 1000000000) :
    Calls Tryz.prog 119 #[.pointer (some ⟨b, 0, none⟩), .bool was, .slice D xs.length cd] W fun e w' => e = .returned (.int .i64 (turnL n was l xs).2) ∧ Bm w' B b n (turnL n was l xs).1 A c ∧ Only A W w' := by
  have hu := Tryz.underlying182
  have H := Lib.hid h
  have HX := Lib.hid hxs
  have HD := Lib.hid hD
  obtain ⟨m, hm⟩ : ∃ m, m = xs.length := ⟨_, rfl⟩
  rw [← hm]
  rw [← hm] at hn
  have HN := Lib.hid hm
  clear h hxs hD hm
  go_enter Tryz.func119, Tryz.ntmps119
  go_wp2_with fail
  go_loopw [12, 7] (fun c12 c7 wr => ∃ i k : Nat, ∃ l' : List Nat, i ≤ m ∧ c12 = .int .i64 i ∧ c7 = .int .i64 k ∧ k ≤ i ∧ Hid (Bm wr B b n l' A c ∧ Only A W wr ∧ turnL n was l (xs.take i) = (l', k))) (fun c12 _ _ => m - (intOf c12).toNat)
  case atStart => exact ⟨0, 0, l, Nat.zero_le _, rfl, rfl, Nat.le_refl _, H.out, Only.refl _ _, rfl⟩
  case round =>
    obtain ⟨i, k, l', hi, rfl, rfl, hk, HR⟩ := hrel
    by_cases hlt : i < m
    · obtain ⟨x, hx⟩ := some_at (l := xs) (i := i) (by rw [← HN.out]; exact hlt)
      obtain ⟨a, rfl, -, ha⟩ := (HR.out.2.1.rk HX.out HD.out) i x hx
      have k0 := cell_of HR.out.1.box 0
      have HXI := Lib.hid hx
      have HT : Hid (turnL n was l (xs.take (i + 1)) = turnF n was (l', k) x) := by
        show _ = _
        rw [take_next hx, turnL_snoc, HR.out.2.2]
      clear hx
      by_cases h1 : 0 ≤ x
      · by_cases h2 : x < n
        · have HHX := Lib.hid (has_ HR.out.1 x)
          obtain ⟨j, rfl⟩ : ∃ j : Nat, x = j := ⟨x.toNat, by omega⟩
          have hj : j < 65534 := by have := HR.out.1.le; omega
          have hlen := HR.out.1.len
          obtain ⟨y, hy⟩ := some_at (l := l') (i := j / 64) (by omega)
          obtain ⟨g, hA, hc, hf⟩ := own_at HR.out.1.row (ints_get hy)
          subst hA
          have hy9 := HR.out.1.lt y (List.mem_of_getElem? hy)
          obtain ⟨hx1, hx2⟩ := bit_xor y (j % 64) hy9 (by omega)
          have hbg : bhas n l' j = bget l' j := by unfold bhas; simp [h2]
          have k1 := cell_of HR.out.1.box 1
          have hjl : (j : Int) / 64 < l'.length := by omega
          have HTN := Lib.hid (HR.out.1.turn hy (y ^^^ 2 ^ (j % 64)) hx2)
          have HY := Lib.hid hy
          rw [hbg] at HHX
          by_cases h3 : bget l' j = was
          · have HF : Hid (turnF n was (l', k) j = (bturn l' j, k + 1) ∧ bturn l' j = l'.set (j / 64) (y ^^^ 2 ^ (j % 64))) := by
              refine ⟨?_, ?_⟩
              · unfold turnF; rw [if_pos ⟨h1, h2, by rw [show (j : Int).toNat = j from rfl]; exact h3⟩]; rfl
              · unfold bturn; rw [List.getD_eq_getElem?_getD, HY.out]; rfl
            rw [h3] at HHX
            clear h3 hbg hlen hy hx2
            go_wp2_with fail
            refine HHX.out.mono ?_
            rintro e w5 ⟨rfl, rfl⟩
            go_wp2_with fail
            go_region
            go_wp2_with fail
            go_roundw
            case rel =>
              refine ⟨i + 1, k + 1, bturn l' j, by omega, by go_num, by go_num, by omega, ?_, ?_, ?_⟩
              · rw [HF.out.2]; exact HTN.out.drew
              · exact (HR.out.2.1.set _ _).drew
              · rw [HT.out, HF.out.1]
            case measure => simp [intOf]; omega
          · have HF : Hid (turnF n was (l', k) j = (l', k)) := by
              show _ = _
              unfold turnF; rw [if_neg (fun h => h3 (by have := h.2.2; rwa [show (j : Int).toNat = j from rfl] at this))]
            have e3 : (bget l' j == was) = false := beq_eq_false_iff_ne.2 h3
            generalize bget l' j = r at *
            clear h3 hbg hlen hy hx2
            go_wp2_with fail
            refine HHX.out.mono ?_
            rintro e w5 ⟨rfl, rfl⟩
            go_wp2_with fail
            go_roundw
            case rel => exact ⟨i + 1, k, l', by omega, by go_num, rfl, by omega, HR.out.1, HR.out.2.1, by rw [HT.out, HF.out]⟩
            case measure => simp [intOf]; omega
        · have HF : Hid (turnF n was (l', k) x = (l', k)) := by
            show _ = _
            unfold turnF; rw [if_neg (fun h => h2 h.2.1)]
          go_wp2_with fail
          go_roundw
          case rel => exact ⟨i + 1, k, l', by omega, by go_num, rfl, by omega, HR.out.1, HR.out.2.1, by rw [HT.out, HF.out]⟩
          case measure => simp [intOf]; omega
      · have HF : Hid (turnF n was (l', k) x = (l', k)) := by
          show _ = _
          unfold turnF; rw [if_neg (fun h => h1 h.1)]
        go_wp2_with fail
        go_roundw
        case rel => exact ⟨i + 1, k, l', by omega, by go_num, rfl, by omega, HR.out.1, HR.out.2.1, by rw [HT.out, HF.out]⟩
        case measure => simp [intOf]; omega
    · obtain rfl : i = m := by omega
      go_wp2_with fail
      go_ret
      have h2 := HR.out.2.2
      rw [List.take_of_length_le (by rw [← HN.out]; omega)] at h2
      rw [h2]
      exact ⟨rfl, HR.out.1, HR.out.2.1⟩

end Go.Proofs.YtgnagbbdnlmgeaaGreat.Bm
end

/- package bitmap: New, Put, Words, Next. -/
section
set_option linter.unusedVariables false
set_option linter.unusedSimpArgs false
set_option maxHeartbeats 2000000
set_option maxRecDepth 100000
namespace Go.Proofs.YtgnagbbdnlmgeaaGreat.Bm
open Go Go.RowKit
open Go.Proofs.YtgnagbbdnlmgeaaGreat.Ob Go.Proofs.YtgnagbbdnlmgeaaGreat.Ba Go.Proofs.YtgnagbbdnlmgeaaGreat.Oc Go.Proofs.YtgnagbbdnlmgeaaGreat.Pk

theorem words_ (n : Nat) (hn : n ≤ 65534) (w : World) : Calls Tryz.prog 142 #[.int .i64 n] w fun e w' => e = .returned (.int .i64 ((n + 63) / 64 : Nat)) ∧ w' = w := by
  go_enter Tryz.func142, Tryz.ntmps142
  go_wp2_with fail
  go_ret
  refine ⟨?_, rfl⟩
  go_num

theorem new_ (n : Nat) (hn : n ≤ 65534) (w : World) : Calls Tryz.prog 109 #[.int .i64 n] w fun e w' => ∃ b, e = .returned (.pointer (some ⟨b, 0, none⟩)) ∧ Bm w' w.heap.size b n (List.replicate ((n + 63) / 64) 0) (some ⟨w.heap.size, 0, none⟩) ((n + 63) / 64) ∧ Below w.heap.size w w' := by
  have hu := Tryz.underlying182
  have hm : (n + 63) / 64 ≤ 1024 := by omega
  have hz : ivs .u64 (ints (List.replicate ((n + 63) / 64) 0)) = List.replicate ((n + 63) / 64) (.int .u64 0) := by simp [ivs, ints]
  have HFIN : Hid (Bm ((w.alloc (.cells (Array.replicate ((n + 63) / 64) (.int .u64 0)) 94)).alloc (.cells #[.int .i64 n, .slice (some ⟨w.heap.size, 0, none⟩) ((n + 63) / 64) ((n + 63) / 64)] 182)) w.heap.size (w.heap.size + 1) n (List.replicate ((n + 63) / 64) 0) (some ⟨w.heap.size, 0, none⟩) ((n + 63) / 64)) := by
    have h1 := alloc_new w (.cells (Array.replicate ((n + 63) / 64) (.int .u64 0)) 94)
    have h2 := alloc_new (w.alloc (.cells (Array.replicate ((n + 63) / 64) (.int .u64 0)) 94)) (.cells #[.int .i64 n, .slice (some ⟨w.heap.size, 0, none⟩) ((n + 63) / 64) ((n + 63) / 64)] 182)
    rw [World.size_alloc] at h2
    have h3 := alloc_old h1 (.cells #[.int .i64 n, .slice (some ⟨w.heap.size, 0, none⟩) ((n + 63) / 64) ((n + 63) / 64)] 182)
    refine ⟨by rw [List.length_replicate]; exact h2, ?_, by omega, ?_, by simp, ?_, hn⟩
    · rw [List.length_replicate]
      refine own_new (k := .u64) (l := ints (List.replicate ((n + 63) / 64) 0)) ?_ (Nat.le_refl _) (by rw [ints_length, List.length_replicate]) (by unfold maxLen; omega)
      rw [hz, List.toArray_replicate]
      exact h3
    · intro a ha
      cases ha
      simp
    · intro x hx
      rw [(List.mem_replicate.1 hx).2]
      decide
  clear hz
  rcases Nat.eq_zero_or_pos n with rfl | h0
  · have HW := Lib.hid (words_ 0 hn w)
    go_enter Tryz.func109, Tryz.ntmps109
    go_wp2_with fail
    refine HW.out.mono ?_
    rintro e w1 ⟨rfl, rfl⟩
    go_wp2_with (at_make; refine Go.Proofs.YtgnagbbdnlmgeaaGreat.Wl.wpl_make rfl _ 22 94 rfl (.int .u64 0) 8 Tryz.underlying22 info_u64 rfl 0 .i64 _ rfl rfl (by omega) (by omega) ?_)
    go_ret
    exact ⟨_, rfl, HFIN.out, bl_alloc (bl_alloc (Below.refl _ _) _) _⟩
  have HW := Lib.hid (words_ n hn w)
  by_cases h9 : n < 65534
  · generalize (n + 63) / 64 = m at *
    go_enter Tryz.func109, Tryz.ntmps109
    go_wp2_with fail
    refine HW.out.mono ?_
    rintro e w1 ⟨rfl, rfl⟩
    go_wp2_with (at_make; refine Go.Proofs.YtgnagbbdnlmgeaaGreat.Wl.wpl_make rfl _ 22 94 rfl (.int .u64 0) 8 Tryz.underlying22 info_u64 rfl m .i64 _ rfl rfl (by omega) (by omega) ?_)
    go_ret
    exact ⟨_, rfl, HFIN.out, bl_alloc (bl_alloc (Below.refl _ _) _) _⟩
  · obtain rfl : n = 65534 := by omega
    go_enter Tryz.func109, Tryz.ntmps109
    go_wp2_with fail
    refine HW.out.mono ?_
    rintro e w1 ⟨rfl, rfl⟩
    go_wp2_with (at_make; refine Go.Proofs.YtgnagbbdnlmgeaaGreat.Wl.wpl_make rfl _ 22 94 rfl (.int .u64 0) 8 Tryz.underlying22 info_u64 rfl 1024 .i64 _ rfl rfl (by omega) (by omega) ?_)
    go_ret
    exact ⟨_, rfl, HFIN.out, bl_alloc (bl_alloc (Below.refl _ _) _) _⟩

theorem put_ {W : World} {B b n : Nat} {l : List Nat} {A : Option Addr} {c : Nat} (h : Bm W B b n l A c) {D : Option Addr} {xs : List Int} (hxs : Rk .i64 W D xs) (hD : ∀ a a', D = some a → A = some a' → a'.block ≠ a.block) (cd : Nat) (hn : xs.length ≤ 1000000000) :
    Calls Tryz.prog 61 #[.pointer (some ⟨b, 0, none⟩), .slice D xs.length cd] W fun e w' => e = .returned (.int .i64 (turnL n false l xs).2) ∧ Bm w' B b n (turnL n false l xs).1 A c ∧ Only A W w' := by
  have HT := Lib.hid (turn_ h false hxs hD cd hn)
  generalize turnL n false l xs = r at *
  clear h hxs hD
  go_enter Tryz.func61, Tryz.ntmps61
  go_wp2_with fail
  refine HT.out.mono ?_
  rintro e w1 ⟨rfl, h1, h2⟩
  have H := Lib.hid (And.intro h1 h2)
  clear h1 h2
  go_wp2_with fail
  go_ret
  exact ⟨rfl, H.out.1, H.out.2⟩

theorem words_of {W : World} {B b n : Nat} {l : List Nat} {A : Option Addr} {c : Nat} (h : Bm W B b n l A c) :
    Calls Tryz.prog 98 #[.pointer (some ⟨b, 0, none⟩)] W fun e w' => ∃ v, e = .returned v ∧ w'.ownsRow W.heap.size 94 1 v l.length (ivs .u64 (ints l)) ∧ Below W.heap.size W w' := by
  have hu := Tryz.underlying182
  have k0 := cell_of h.box 0
  have k1 := cell_of h.box 1
  have hrk := own_rk (k := .u64) h.row
  have hcl := Pm.clone_big (show Pm.Rd W A (ints l) from hrk.1) c (by rw [ints_length]; have := h.len; have := h.le; omega) (by
    intro hA
    obtain ⟨h1, ⟨h2, h3⟩ | ⟨g, cap, cur, hv, hg, hb, hn, hm, hs, ht⟩⟩ := h.row
    · simp only [Value.slice.injEq] at h2
      refine ⟨?_, h2.2.2⟩
      have := h2.2.1
      rw [← ints_length] at this
      exact List.length_eq_zero_iff.1 this
    · rw [hA] at hv; cases hv)
  rw [ints_length] at hcl
  have HCL := Lib.hid hcl
  clear hcl hrk
  go_enter Tryz.func98, Tryz.ntmps98
  go_wp2_with fail
  refine HCL.out.mono ?_
  rintro e w1 ⟨v, rfl, h1, h2⟩
  have H := Lib.hid (And.intro h1 h2)
  clear h1 h2
  go_wp2_with fail
  go_ret
  exact ⟨_, rfl, H.out.1, H.out.2⟩

/-- the least one from i on -/
def NextIs (n : Nat) (l : List Nat) (i : Int) (used : Bool) (r : Int) : Prop :=
  (r = -1 ∧ ∀ j : Nat, i ≤ j → j < n → bget l j ≠ used) ∨ (∃ j : Nat, r = j ∧ i ≤ j ∧ j < n ∧ bget l j = used ∧ ∀ k : Nat, i ≤ k → k < j → bget l k ≠ used)

theorem next_ {W : World} {B b n : Nat} {l : List Nat} {A : Option Addr} {c : Nat} (h : Bm W B b n l A c) (i : Int) (used : Bool) : Calls Tryz.prog 116 #[.pointer (some ⟨b, 0, none⟩), .int .i64 i, .bool used] W fun e w' => ∃ r, e = .returned (.int .i64 r) ∧ NextIs n l i used r ∧ w' = W := by
  have hu := Tryz.underlying182
  have k0 := cell_of h.box 0
  have hn := h.le
  have H := Lib.hid h
  clear h
  go_enter Tryz.func116, Tryz.ntmps116
  go_wp2_with fail
  all_goals
    go_loop [7] (fun c7 => ∃ s : Int, c7 = .int .i64 s ∧ 0 ≤ s ∧ Hid (i ≤ s ∧ ∀ k : Nat, i ≤ k → (k : Int) < s → bget l k ≠ used)) (fun c7 => n - (intOf c7).toNat)
    case atStart =>
      first
        | exact ⟨i, rfl, by omega, Int.le_refl _, fun k h1 h2 => by omega⟩
        | exact ⟨0, rfl, Int.le_refl _, by omega, fun k h1 h2 => by omega⟩
    case round =>
      obtain ⟨s, rfl, hs, HR⟩ := hrel
      by_cases hlt : s < n
      · have HH := Lib.hid (has_ H.out s)
        have hbg : bhas n l s = bget l s.toNat := by unfold bhas; rw [decide_eq_true hs, decide_eq_true hlt]; rfl
        rw [hbg] at HH
        by_cases h3 : bget l s.toNat = used
        · have HF : Hid (NextIs n l i used s) := .inr ⟨s.toNat, by omega, by have := HR.out.1; omega, by omega, h3, fun k h1 h2 => HR.out.2 k h1 (by omega)⟩
          rw [h3] at HH
          clear h3 hbg
          go_wp2_with fail
          refine HH.out.mono ?_
          rintro e w5 ⟨rfl, rfl⟩
          go_wp2_with fail
          go_ret
          exact ⟨_, rfl, HF.out, rfl⟩
        · have HF : Hid (i ≤ s + 1 ∧ ∀ k : Nat, i ≤ k → (k : Int) < s + 1 → bget l k ≠ used) := by
            refine ⟨by have := HR.out.1; omega, fun k h1 h2 => ?_⟩
            by_cases hk : (k : Int) < s
            · exact HR.out.2 k h1 hk
            · have : k = s.toNat := by omega
              rw [this]; exact h3
          have e3 : (bget l s.toNat == used) = false := beq_eq_false_iff_ne.2 h3
          generalize bget l s.toNat = r at *
          clear h3 hbg
          go_wp2_with fail
          refine HH.out.mono ?_
          rintro e w5 ⟨rfl, rfl⟩
          go_wp2_with fail
          go_round
          case rel => exact ⟨s + 1, by go_num, by omega, HF⟩
          case measure => simp [intOf]; omega
      · have HF : Hid (NextIs n l i used (-1)) := .inl ⟨rfl, fun j h1 h2 => HR.out.2 j h1 (by omega)⟩
        go_wp2_with fail
        go_ret
        exact ⟨_, rfl, HF.out, rfl⟩

end Go.Proofs.YtgnagbbdnlmgeaaGreat.Bm
end

/- package bitmap: Len, Of (one word), Same. -/
section
set_option linter.unusedVariables false
set_option linter.unusedSimpArgs false
set_option maxHeartbeats 2000000
set_option maxRecDepth 100000
namespace Go.Proofs.YtgnagbbdnlmgeaaGreat.Bm
open Go Go.RowKit
open Go.Proofs.YtgnagbbdnlmgeaaGreat.Ob Go.Proofs.YtgnagbbdnlmgeaaGreat.Ba Go.Proofs.YtgnagbbdnlmgeaaGreat.Oc Go.Proofs.YtgnagbbdnlmgeaaGreat.Pk

theorem len_ {W : World} {B b n : Nat} {l : List Nat} {A : Option Addr} {c : Nat} (h : Bm W B b n l A c) : Calls Tryz.prog 95 #[.pointer (some ⟨b, 0, none⟩)] W fun e w' => e = .returned (.int .i64 n) ∧ w' = W := by
  have hu := Tryz.underlying182
  have k0 := cell_of h.box 0
  clear h
  go_enter Tryz.func95, Tryz.ntmps95
  go_wp2
  go_ret
  exact ⟨rfl, rfl⟩

theorem own_blk' {W : World} {B T s n k : Nat} {v : Value} {xs : List Value} (h : W.ownsRow B T s v n xs) (hk : v.ownBlock = some k) : ∃ cur, W.heap[k]? = some (.cells cur T (0, 0)) := by
  obtain ⟨h1, ⟨rfl, _⟩ | ⟨g, cap, cur, rfl, hg, hb, r⟩⟩ := h
  · simp [Value.ownBlock] at hk
  · simp [Value.ownBlock] at hk
    subst hk
    exact ⟨_, hb⟩

/-- of one word: of n blocks, or none -/
theorem of_one {w : World} {A : Option Addr} {x : Nat} (h : Rk .u64 w A (ints [x])) (hx : x < 18446744073709551616) (c n : Nat) (h1 : 1 ≤ n) (h2 : n ≤ 63) :
    Calls Tryz.prog 89 #[.int .i64 n, .slice A 1 c] w fun e w' =>
      (x / 2 ^ n = 0 → ∃ b A' c', e = .returned (.tuple #[.pointer (some ⟨b, 0, none⟩), .int .i64 0]) ∧ Bm w' w.heap.size b n [x] A' c') ∧ (x / 2 ^ n ≠ 0 → e = .returned (.tuple #[.pointer none, .int .i64 2])) ∧ Below w.heap.size w w' := by
  have hu := Tryz.underlying182
  obtain ⟨a, rfl, ha0, ha⟩ := h 0 x rfl
  have ha : w.cell? a = some (.int .u64 x) := ha
  have hW : Hid (∀ W, Calls Tryz.prog 142 #[.int .i64 n] W fun e w' => e = .returned (.int .i64 1) ∧ w' = W) := fun W => by
    have := words_ n (by omega) W
    rw [show (n + 63) / 64 = 1 from by omega] at this
    exact this
  have hcl := Pm.clone_big (show Pm.Rd w (some a) (ints [x]) from h) c (by simp [ints]) (by intro h; cases h)
  rw [ints_length] at hcl
  have HCL := Lib.hid hcl
  have hmod : (n : Int) % 64 = n := by omega
  have hne : ((n : Int) != 0) = true := by rw [bne_iff_ne]; omega
  have hdv : (x : Int) / 2 ^ n = ((x / 2 ^ n : Nat) : Int) := by norm_cast
  clear hcl h
  by_cases hz : x / 2 ^ n = 0
  · have e0 : (((x / 2 ^ n : Nat) : Int) != 0) = false := by rw [hz]; rfl
    have HX : Hid (x / 2 ^ n = 0 ∧ x < 18446744073709551616) := ⟨hz, hx⟩
    generalize x / 2 ^ n = y at *
    clear hz
    go_enter Tryz.func89, Tryz.ntmps89
    go_wp2_with (first | (go_at_call 142; refine (hW.out _).mono ?_; rintro e w1 ⟨rfl, rfl⟩) |
      (go_at_call 75; refine (show Calls _ _ #[.slice (some a) 1 c] _ _ from HCL.out).mono ?_; rintro e w1 ⟨v, rfl, hown, hb⟩; (obtain ⟨A1, c1, rfl⟩ := own_slice hown); (have HO := Lib.hid hown); (have HB := Lib.hid hb); clear hown hb))
    go_ret2
    refine ⟨fun _ => ⟨_, A1, c1, rfl, ?_⟩, fun h => absurd HX.out.1 h, bl_alloc HB.out _⟩
    refine ⟨alloc_new w1 _, own_kp HO.out (fun k _ hk => Below.heap_alloc _ _ k hk), HB.out.size, ?_, by simp; omega, ?_, by omega⟩
    · intro p hp
      subst hp
      obtain ⟨cur, hc⟩ := own_blk' HO.out rfl
      exact Nat.ne_of_lt (lt_of hc)
    · intro z hz
      simp at hz
      subst hz
      exact HX.out.2
  · have e0 : (((x / 2 ^ n : Nat) : Int) != 0) = true := by rw [bne_iff_ne]; omega
    have HX : Hid (x / 2 ^ n ≠ 0) := hz
    generalize x / 2 ^ n = y at *
    clear hz
    go_enter Tryz.func89, Tryz.ntmps89
    go_wp2_with (go_at_call 142; refine (hW.out _).mono ?_; rintro e w1 ⟨rfl, rfl⟩)
    go_ret2
    exact ⟨fun h => absurd h HX.out, fun _ => rfl, Below.refl _ _⟩

structure Bk (w W : World) : Prop where
  same : ∃ k, W = w.drewN k
end Go.Proofs.YtgnagbbdnlmgeaaGreat.Bm
end
