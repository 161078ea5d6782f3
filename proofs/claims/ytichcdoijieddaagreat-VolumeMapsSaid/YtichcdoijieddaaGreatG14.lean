/- Parts of the proof, one behind the other: Mb, Rn, Ro, Vc, Vj, Rz, Ru. -/
import Derived.Test.YtichcdoijieddaaGreatG12
import Derived.Test.YtichcdoijieddaaGreatG13
import Derived.Test.YtichcdoijieddaaGreatG09
import Derived.Test.YtichcdoijieddaaGreatG11
import Derived.Deep.RegionHeld3
import Derived.Test.YtichcdoijieddaaGreatG03

/- bitmap.Put of nothing; bitmaps and images side by side. -/
section
set_option linter.unusedVariables false
set_option linter.unusedSimpArgs false
set_option maxHeartbeats 2000000
set_option maxRecDepth 100000
namespace Go.Proofs.YtichcdoijieddaaGreat.Bm
open Go Go.RowKit
open Go.Proofs.YtichcdoijieddaaGreat.Ob Go.Proofs.YtichcdoijieddaaGreat.Ba Go.Proofs.YtichcdoijieddaaGreat.Oc Go.Proofs.YtichcdoijieddaaGreat.Pk

theorem turn_nil {W : World} {b : Nat} (D : Option Addr) (cd : Nat) :
    Calls Tryz.prog 63 #[.pointer (some ⟨b, 0, none⟩), .bool false, .slice D 0 cd] W fun e w' => e = .returned (.int .i64 0) ∧ w' = W := by
  go_enter Tryz.func63, Tryz.ntmps63
  go_wp2_with fail
  go_loop [12, 7] (fun c12 c7 => c12 = .int .i64 0 ∧ c7 = .int .i64 0) (fun c12 _ => 0 - (intOf c12).toNat)
  case atStart => exact ⟨rfl, rfl⟩
  case round =>
    obtain ⟨rfl, rfl⟩ := hrel
    go_wp2_with fail
    go_ret
    exact ⟨rfl, rfl⟩

theorem put_any {W : World} {B b n : Nat} {l : List Nat} {A : Option Addr} {c : Nat} (h : Bm W B b n l A c) {D : Option Addr} {xs : List Int} (hxs : Rk .i64 W D xs) (hD : xs ≠ [] → ∀ a a', D = some a → A = some a' → a'.block ≠ a.block) (cd : Nat) (hn : xs.length ≤ 1000000000) :
    Calls Tryz.prog 16 #[.pointer (some ⟨b, 0, none⟩), .slice D xs.length cd] W fun e w' => ∃ r, e = .returned (.int .i64 r) ∧ Bm w' B b n (turnL n false l xs).1 A c ∧ Only A W w' := by
  by_cases hx : xs = []
  · subst hx
    have HT : Hid (Calls Tryz.prog 63 #[.pointer (some ⟨b, 0, none⟩), .bool false, .slice D 0 cd] W fun e w' => e = .returned (.int .i64 0) ∧ w' = W) := turn_nil D cd
    have HB := Lib.hid h
    show Calls Tryz.prog 16 #[.pointer (some ⟨b, 0, none⟩), .slice D 0 cd] W _
    clear h hxs hD hn
    go_enter Tryz.func16, Tryz.ntmps16
    go_wp2_with fail
    refine HT.out.mono ?_
    rintro e w1 ⟨rfl, rfl⟩
    go_wp2_with fail
    go_ret
    exact ⟨_, rfl, HB.out, Only.refl _ _⟩
  · refine (put_ h hxs (hD hx) cd hn).mono ?_
    rintro e w' ⟨rfl, q1, q2⟩
    exact ⟨_, rfl, q1, q2⟩

theorem Bm.upd {W W' : World} {B b n q : Nat} {l : List Nat} {c : Nat} {F : List Nat} (h : Bm W B b n l (some ⟨q, 0, none⟩) c) (hu : Upd F W W') (hb : b ∉ F) (hq : q ∉ F) : Bm W' B b n l (some ⟨q, 0, none⟩) c := by
  refine ⟨hu.blk h.box hb, Vo.own_kq h.row (fun k hk => ?_), h.lo, h.apart, h.len, h.lt, h.le⟩
  obtain ⟨cur, hc⟩ := own_blk' h.row hk
  have e : k = q := by simpa [Value.ownBlock] using hk.symm
  subst e
  exact hu.block k (lt_of hc) hq

def want (L : List Int) (p X : Nat) : Nat := if L.getD p 0 = (X : Int) then 0 else 1
theorem one_diff (L : List Int) (p X : Nat) (hp : p < L.length) : ∃ d1, Vo.putGo false [(X : Int)] p ⟨Pm.devOf L, 0, []⟩ = (d1, some (want L p X)) ∧ Wp.Pt (Pm.devOf L) d1 (L.set p (X : Int)) (want L p X) (want L p X) := by
  obtain ⟨d1, e1, h1⟩ := Wp.put_gen (Pm.devOf L) false [(X : Int)] p (Pm.devOf L) L 0 [] ⟨rfl, rfl, Vs.words_devOf L, rfl, rfl⟩ (by show p + 1 ≤ L.length; omega) (by simp)
  refine ⟨d1, ?_⟩
  unfold want
  by_cases hz : L.getD p 0 = (X : Int)
  · have e : Wp.pgo false [(X : Int)] p (L, 0, []) = (L, 0, []) := by
      show (if (!false && decide (L.getD p 0 = (X : Int))) = true then _ else _) = _
      rw [if_pos (by simp; exact hz)]
      rfl
    rw [e] at e1 h1
    rw [if_pos hz]
    refine ⟨e1, ?_⟩
    have hs : L.set p (X : Int) = L := by
      apply List.ext_getElem?
      intro i
      rw [List.getElem?_set]
      by_cases h2 : p = i
      · subst h2
        rw [if_pos rfl, if_pos hp, ← hz, List.getD_eq_getElem?_getD, List.getElem?_eq_getElem hp]
        rfl
      · rw [if_neg h2]
    rw [hs]
    exact h1
  · have e : Wp.pgo false [(X : Int)] p (L, 0, []) = (L.set p (X : Int), 1, [p / 8]) := by
      show (if (!false && decide (L.getD p 0 = (X : Int))) = true then _ else _) = _
      rw [if_neg (by simp; exact hz)]
      rfl
    rw [e] at e1 h1
    rw [if_neg hz]
    exact ⟨e1, h1⟩

end Go.Proofs.YtichcdoijieddaaGreat.Bm
end

/- slices.Max of words. -/
section
set_option linter.unusedVariables false
set_option linter.unusedSimpArgs false
set_option maxHeartbeats 2000000
set_option maxRecDepth 100000
namespace Go.Proofs.YtichcdoijieddaaGreat.Rj
open Go Go.RowKit
open Go.Proofs.YtichcdoijieddaaGreat.Ob Go.Proofs.YtichcdoijieddaaGreat.Ba Go.Proofs.YtichcdoijieddaaGreat.Oc Go.Proofs.YtichcdoijieddaaGreat.Pk Go.Proofs.YtichcdoijieddaaGreat.Su Go.Proofs.YtichcdoijieddaaGreat.Cc Go.Proofs.YtichcdoijieddaaGreat.Cr

def mxl (l : List Nat) : Nat := l.foldl max 0
theorem mxl_snoc (l : List Nat) (x : Nat) : mxl (l ++ [x]) = max (mxl l) x := by simp [mxl]
theorem mxl_ge (l : List Nat) : ∀ x ∈ l, x ≤ mxl l := by
  have key : ∀ (l : List Nat) (a : Nat), (∀ x ∈ l, x ≤ l.foldl max a) ∧ a ≤ l.foldl max a := by
    intro l
    induction l with
    | nil => intro a; simp
    | cons y l ih =>
      intro a
      obtain ⟨h1, h2⟩ := ih (max a y)
      refine ⟨fun x hx => ?_, ?_⟩
      · rcases List.mem_cons.1 hx with rfl | hx
        · exact Nat.le_trans (Nat.le_max_right _ _) h2
        · exact h1 x hx
      · exact Nat.le_trans (Nat.le_max_left _ _) h2
  exact (key l 0).1
theorem mxl_zero (l : List Nat) : mxl l = 0 ↔ ∀ x ∈ l, x = 0 := by
  constructor
  · intro h x hx
    have := mxl_ge l x hx
    omega
  · intro h
    unfold mxl
    have key : ∀ (l : List Nat), (∀ x ∈ l, x = 0) → l.foldl max 0 = 0 := by
      intro l
      induction l with
      | nil => intro _; rfl
      | cons y l ih =>
        intro h
        have hy := h y (List.mem_cons_self)
        subst hy
        exact ih (fun x hx => h x (List.mem_cons_of_mem _ hx))
    exact key l h

theorem max_ {w : World} {A : Option Addr} {l : List Nat} (h : Rk .u64 w A (ints l)) (hl : ∀ x ∈ l, x < 18446744073709551616) (c : Nat) (h1 : 1 ≤ l.length) (hn : l.length ≤ 1000000) :
    Calls Tryz.prog 110 #[.slice A l.length c] w fun e w' => e = .returned (.int .u64 (mxl l : Nat)) ∧ w' = w := by
  have H := Lib.hid h
  have HL := Lib.hid hl
  obtain ⟨x0, hx0⟩ := some_at (l := l) (i := 0) (by omega)
  obtain ⟨a, rfl, -, ha0⟩ := h 0 x0 (ints_get hx0)
  have ha0 : w.cell? a = some (.int .u64 x0) := ha0
  have hx9 := hl x0 (List.mem_of_getElem? hx0)
  have HX0 : Hid (x0 = mxl (l.take 1)) := by
    show _ = _
    rw [show l.take 1 = [] ++ [x0] from by rw [take_next (i := 0) hx0]; rfl, mxl_snoc]
    simp [mxl]
  obtain ⟨n, hnn⟩ : ∃ n, n = l.length := ⟨_, rfl⟩
  rw [← hnn]
  rw [← hnn] at hn h1
  have HN := Lib.hid hnn
  clear h hl hnn hx0
  go_enter Tryz.func110, Tryz.ntmps110
  go_wp2_with fail
  go_loop [4, 3] (fun c4 c3 => ∃ i x : Nat, 1 ≤ i ∧ i ≤ n ∧ c4 = .int .i64 i ∧ c3 = .int .u64 x ∧ x < 18446744073709551616 ∧ Hid (x = mxl (l.take i))) (fun c4 _ => n - (intOf c4).toNat)
  case atStart => exact ⟨1, x0, Nat.le_refl _, h1, rfl, rfl, hx9, HX0⟩
  case round =>
    obtain ⟨i, x, hi1, hi, rfl, rfl, hx64, HX⟩ := hrel
    by_cases hlt : i < n
    · obtain ⟨y, hy⟩ := some_at (l := l) (i := i) (by rw [← HN.out]; exact hlt)
      have hcy := H.out.at_ (ints_get hy)
      have hy9 := HL.out y (List.mem_of_getElem? hy)
      have HY : Hid (mxl (l.take (i + 1)) = max x y) := by show _ = _; rw [take_next hy, mxl_snoc, HX.out]
      clear hy
      by_cases hxy : x < y
      · go_wp2_with fail
        go_round
        case rel => exact ⟨i + 1, y, by omega, by omega, by go_num, rfl, hy9, by show _ = _; rw [HY.out]; omega⟩
        case measure => simp [intOf]; omega
      · go_wp2_with fail
        go_round
        case rel => exact ⟨i + 1, x, by omega, by omega, by go_num, rfl, hx64, by show _ = _; rw [HY.out]; omega⟩
        case measure => simp [intOf]; omega
    · obtain rfl : i = n := by omega
      go_wp2_with fail
      go_ret
      have h2 := HX.out
      rw [List.take_of_length_le (by rw [← HN.out]; omega)] at h2
      subst h2
      exact ⟨rfl, rfl⟩

end Go.Proofs.YtichcdoijieddaaGreat.Rj
end

/- record.Decode of a line. -/
section
set_option linter.unusedVariables false
set_option linter.unusedSimpArgs false
set_option maxHeartbeats 2000000
set_option maxRecDepth 100000
namespace Go.Proofs.YtichcdoijieddaaGreat.Rj
open Go Go.RowKit
open Go.Proofs.YtichcdoijieddaaGreat.Ob Go.Proofs.YtichcdoijieddaaGreat.Ba Go.Proofs.YtichcdoijieddaaGreat.Oc Go.Proofs.YtichcdoijieddaaGreat.Pk Go.Proofs.YtichcdoijieddaaGreat.Su Go.Proofs.YtichcdoijieddaaGreat.Cc Go.Proofs.YtichcdoijieddaaGreat.Cr

/-- what a line is: 0 nothing, 1 a record, 2 torn -/
def ok9 (l : List Nat) : Bool := decide (rOk (l.getD 0 0 / 65536 % 65536 : Nat) (l.getD 0 0 / 4294967296 % 65536 : Nat) (l.getD 0 0 / 281474976710656 : Nat) (min (l.getD 1 0) 65535 : Nat)) &&
  decide (line (pv (f16s [1, l.getD 0 0 / 65536 % 65536, l.getD 0 0 / 4294967296 % 65536, l.getD 0 0 / 281474976710656])) (min (l.getD 1 0) 65535) = l)
def st9 (l : List Nat) : Int := if mxl l = 0 then 0 else if ok9 l then 1 else 2
def r9 (l : List Nat) : Int × Int × Int × Int := if mxl l ≠ 0 ∧ ok9 l = true then (((l.getD 0 0 / 65536 % 65536 : Nat) : Int), ((l.getD 0 0 / 4294967296 % 65536 : Nat) : Int), ((l.getD 0 0 / 281474976710656 : Nat) : Int), ((min (l.getD 1 0) 65535 : Nat) : Int)) else (0, 0, 0, 0)
def D9 (l : List Nat) (e : Ending) : Prop := e = .returned (.tuple #[.agg #[.int .i64 (r9 l).1, .int .i64 (r9 l).2.1, .int .i64 (r9 l).2.2.1, .int .i64 (r9 l).2.2.2], .int .i64 (st9 l)])
theorem d9_zero {l : List Nat} (h : mxl l = 0) : D9 l (.returned (.tuple #[.agg #[.int .i64 0, .int .i64 0, .int .i64 0, .int .i64 0], .int .i64 0])) := by unfold D9 r9 st9; rw [if_pos h, if_neg (fun h2 => h2.1 h)]
theorem d9_no {l : List Nat} (h : mxl l ≠ 0) (h2 : ok9 l = false) : D9 l (.returned (.tuple #[.agg #[.int .i64 0, .int .i64 0, .int .i64 0, .int .i64 0], .int .i64 2])) := by unfold D9 r9 st9; rw [if_neg h, if_neg (by rw [h2]; simp), h2, if_neg (by simp)]
theorem d9_yes {l : List Nat} {a b c n : Nat} (h : mxl l ≠ 0) (h2 : ok9 l = true) (ha : a = l.getD 0 0 / 65536 % 65536) (hb : b = l.getD 0 0 / 4294967296 % 65536) (hc : c = l.getD 0 0 / 281474976710656) (hn : n = min (l.getD 1 0) 65535) : D9 l (.returned (.tuple #[.agg #[.int .i64 a, .int .i64 b, .int .i64 c, .int .i64 n], .int .i64 1])) := by
  unfold D9 r9 st9
  rw [if_neg h, if_pos ⟨h, h2⟩, h2, if_pos rfl, ha, hb, hc, hn]

theorem spl4 (x : Nat) (hx : x < 18446744073709551616) : spl x [16, 16, 16, 16] = [x % 65536, x / 65536 % 65536, x / 4294967296 % 65536, x / 281474976710656] := by
  simp only [spl]
  simp
  omega
theorem four_rk (w : World) (q T : Nat) (fr : Nat × Nat) (h : w.heap[q]? = some (.cells #[.int .i64 16, .int .i64 16, .int .i64 16, .int .i64 16] T fr)) : Rk .i64 w (some ⟨q, 0, none⟩) (ints [16, 16, 16, 16]) := by
  refine blk_rk h fun i x hx => ?_
  match i with
  | 0 => simpa [ints] using hx
  | 1 => simpa [ints] using hx
  | 2 => simpa [ints] using hx
  | 3 => simpa [ints] using hx
  | i + 4 => simp [ints] at hx
theorem put4 {W : World} {k T : Nat} {x0 x1 x2 x3 : Value} (h : W.heap[k]? = some (.cells #[x0, x1, x2, x3] T (0, 0))) (y0 y1 y2 y3 : Value) :
    ((((W.setCell ⟨k, 0, none⟩ y0).setCell ⟨k, 1, none⟩ y1).setCell ⟨k, 2, none⟩ y2).setCell ⟨k, 3, none⟩ y3).heap[k]? = some (.cells #[y0, y1, y2, y3] T (0, 0)) := by
  rw [set_same (set_same (set_same (set_same h 0 y0) 1 y1) 2 y2) 3 y3]; rfl
theorem bl_put4 {w W : World} {k : Nat} (h : Below w.heap.size w W) (hk : w.heap.size ≤ k) (y0 y1 y2 y3 : Value) : Below w.heap.size w ((((W.setCell ⟨k, 0, none⟩ y0).setCell ⟨k, 1, none⟩ y1).setCell ⟨k, 2, none⟩ y2).setCell ⟨k, 3, none⟩ y3) := bl_set (bl_set (bl_set (bl_set h hk _) hk _) hk _) hk _

theorem dec_zero {w : World} {A : Option Addr} {l : List Nat} (h : Rk .u64 w A (ints l)) (c : Nat) (hl : l.length = 8) (hlt : ∀ x ∈ l, x < 18446744073709551616) (hz : mxl l = 0) :
    Calls Tryz.prog 72 #[.slice A 8 c] w fun e w' => D9 l e ∧ Below w.heap.size w w' := by
  have hu := Tryz.underlying50
  have hmx := max_ (h.below (bl_alloc (Below.refl _ _) (.cells #[.int .i64 0, .int .i64 0, .int .i64 0, .int .i64 0] 50))) hlt c (by omega) (by omega)
  rw [hl, hz] at hmx
  have HMX := Lib.hid hmx
  have HZ := Lib.hid hz
  have hq1 := Lib.hid (alloc_new w (.cells #[.int .i64 0, .int .i64 0, .int .i64 0, .int .i64 0] 50))
  have l0 := cell_of hq1.out 0
  have l1 := cell_of hq1.out 1
  have l2 := cell_of hq1.out 2
  have l3 := cell_of hq1.out 3
  have f0 := free_of hq1.out 0
  have f1 := free_of hq1.out 1
  have f2 := free_of hq1.out 2
  have f3 := free_of hq1.out 3
  clear h hlt hl hz hmx
  go_enter Tryz.func72, Tryz.ntmps72
  go_wp2_with fail
  refine HMX.out.mono ?_
  rintro e w1 ⟨rfl, rfl⟩
  go_wp2_with fail
  exact bodyPost_ret (res_ct (u := 3) rfl _ _ w.heap.size 50 #[.int .i64 0, .int .i64 0, .int .i64 0, .int .i64 0] (0, 0) _ rfl hq1.out hu rfl (by kernel_rfl)) rfl ⟨d9_zero HZ.out, bl_alloc (Below.refl _ _) _⟩

theorem dec_rest {w : World} {A : Option Addr} {l : List Nat} (h : Rk .u64 w A (ints l)) (c : Nat) (hl : l.length = 8) (hlt : ∀ x ∈ l, x < 18446744073709551616) (hz : mxl l ≠ 0) :
    Calls Tryz.prog 72 #[.slice A 8 c] w fun e w' => D9 l e ∧ Below w.heap.size w w' := by
  have hu := Tryz.underlying50
  have hmx := max_ (h.below (bl_alloc (Below.refl _ _) (.cells #[.int .i64 0, .int .i64 0, .int .i64 0, .int .i64 0] 50))) hlt c (by omega) (by omega)
  obtain ⟨M, hM⟩ : ∃ M, M = mxl l := ⟨_, rfl⟩
  rw [hl, ← hM] at hmx
  have hM0 : (((M : Nat) : Int) == 0) = false := beq_eq_false_iff_ne.2 (by omega)
  have HMX := Lib.hid hmx
  have HZ := Lib.hid hz
  obtain ⟨x, hx0⟩ := some_at (l := l) (i := 0) (by omega)
  obtain ⟨y, hy1⟩ := some_at (l := l) (i := 1) (by omega)
  have hxe : l.getD 0 0 = x := by rw [List.getD_eq_getElem?_getD, hx0]; rfl
  have hye : l.getD 1 0 = y := by rw [List.getD_eq_getElem?_getD, hy1]; rfl
  have hx64 := hlt x (List.mem_of_getElem? hx0)
  have hy64 := hlt y (List.mem_of_getElem? hy1)
  obtain ⟨a0, ha0⟩ : ∃ a0, a0 = x % 65536 := ⟨_, rfl⟩
  obtain ⟨a, ha1⟩ : ∃ a, a = x / 65536 % 65536 := ⟨_, rfl⟩
  obtain ⟨b, hb1⟩ : ∃ b, b = x / 4294967296 % 65536 := ⟨_, rfl⟩
  obtain ⟨d, hd1⟩ : ∃ d, d = x / 281474976710656 := ⟨_, rfl⟩
  obtain ⟨n, hn1⟩ : ∃ n, n = min y 65535 := ⟨_, rfl⟩
  have ha9 : a < 65536 := by omega
  have hb9 : b < 65536 := by omega
  have hd9 : d < 65536 := by omega
  have hn9 : n < 65536 := by omega
  have HF : Hid (a = l.getD 0 0 / 65536 % 65536 ∧ b = l.getD 0 0 / 4294967296 % 65536 ∧ d = l.getD 0 0 / 281474976710656 ∧ n = min (l.getD 1 0) 65535) := ⟨by rw [hxe]; exact ha1, by rw [hxe]; exact hb1, by rw [hxe]; exact hd1, by rw [hye]; exact hn1⟩
  have HOK : Hid (ok9 l = (decide (rOk a b d n) && decide (line (pv (f16s [1, a, b, d])) n = l))) := by
    show _ = _
    unfold ok9
    rw [hxe, hye, ← ha1, ← hb1, ← hd1, ← hn1]
  have H := Lib.hid h
  obtain ⟨ad, rfl, had0, hax⟩ := h 0 x (ints_get hx0)
  obtain ⟨_, e2, -, hby⟩ := h 1 y (ints_get hy1)
  cases e2
  have hax : w.cell? ad = some (.int .u64 x) := hax
  have hby : w.cell? ⟨ad.block, ad.off + 1, none⟩ = some (.int .u64 y) := hby
  have HL := Lib.hid hl
  have hal : ((w.alloc (.cells #[.int .i64 0, .int .i64 0, .int .i64 0, .int .i64 0] 50)).alloc (.cells #[.int .i64 16, .int .i64 16, .int .i64 16, .int .i64 16] 3)).heap[w.heap.size + 1]? = some (.cells #[.int .i64 16, .int .i64 16, .int .i64 16, .int .i64 16] 3 (0, 0)) := by
    have := alloc_new (w.alloc (.cells #[.int .i64 0, .int .i64 0, .int .i64 0, .int .i64 0] 50)) (.cells #[.int .i64 16, .int .i64 16, .int .i64 16, .int .i64 16] 3)
    rw [World.size_alloc] at this
    exact this
  have hsp := split_ (four_rk _ _ _ _ hal) x hx64 4 (by simp) (by decide) (by decide)
  have hne : x / 2 ^ ([16, 16, 16, 16] : List Nat).sum = 0 := by simp; omega
  rw [decide_eq_true hne, spl4 x hx64, ← ha0, ← ha1, ← hb1, ← hd1, show ([16, 16, 16, 16] : List Nat).length = 4 from rfl] at hsp
  have HS := Lib.hid (And.intro hsp hne)
  have HO := Lib.hid (alloc_old (alloc_new w (.cells #[.int .i64 0, .int .i64 0, .int .i64 0, .int .i64 0] 50)) (.cells #[.int .i64 16, .int .i64 16, .int .i64 16, .int .i64 16] 3))
  have hnc : (y ≤ 65535 ∧ n = y) ∨ (65535 < y ∧ n = 65535) := by omega
  clear hsp hal hne h hl hlt hx0 hy1 hxe hye ha1 hb1 hd1 hn1 hM hz hmx ha0
  go_enter Tryz.func72, Tryz.ntmps72
  go_wp2_with fail
  refine HMX.out.mono ?_
  rintro e w1 ⟨rfl, rfl⟩
  go_wp2_with fail
  refine (show Calls _ _ #[.int .u64 x, .slice (some ⟨w.heap.size + 1, 0, none⟩) 4 4] _ _ from HS.out.1).mono ?_
  rintro e w1 ⟨v, rfl, hown, hb1⟩
  replace hown := hown HS.out.2
  obtain ⟨A1, c1, rfl⟩ := own_slice hown
  obtain ⟨g1, rfl, hc0, hf0⟩ := own_at (i := 1) (x := (a : Nat)) hown rfl
  obtain ⟨g2, e2, hc1, hf1⟩ := own_at (i := 2) (x := (b : Nat)) hown rfl
  cases e2
  obtain ⟨g3, e3, hc2, hf2⟩ := own_at (i := 3) (x := (d : Nat)) hown rfl
  cases e3
  obtain ⟨hc, hf⟩ := bcell (bl_then (bl_alloc (bl_alloc (Below.refl _ _) _) _) hb1)
  have hq1 : Hid (w1.heap[w.heap.size]? = some (.cells #[.int .i64 0, .int .i64 0, .int .i64 0, .int .i64 0] 50 (0, 0))) := blk_bl HO.out hb1
  have HQ1 : Hid (Below w.heap.size w w1) := bl_then (bl_alloc (bl_alloc (Below.refl _ _) _) _) hb1
  have hy1 : w1.cell? ⟨ad.block, ad.off + 1, none⟩ = some (.int .u64 y) := by rw [hc _ _ had0]; exact hby
  have hg : g1 < w1.heap.size := by
    have := hc0
    unfold World.cell? at this
    cases hq : w1.heap[g1]? with
    | none => simp [hq] at this
    | some o => exact lt_of hq
  have had : ad.block < w1.heap.size := Nat.lt_of_lt_of_le had0 HQ1.out.size
  have hz1 : w.heap.size < w1.heap.size := lt_of hq1.out
  clear hown hb1 hf0 hf1 hf2 hax hby hc hf
  go_wp2_with fail
  have HND : Hid (((w1.alloc (.cells #[.int .i64 a, .int .i64 b, .int .i64 d, .int .i64 n] 50)).drew).heap[w1.heap.size]? = some (.cells #[.int .i64 a, .int .i64 b, .int .i64 d, .int .i64 n] 50 (0, 0))) := alloc_new w1 _
  rcases hnc with ⟨hny, rfl⟩ | ⟨hny, rfl⟩
  · go_region
    by_cases hgeo : rOk a b d n
    · have hen := encode_yes a b d n hgeo
      have hn8 : (line (pv (f16s [1, a, b, d])) n).length = 8 := rfl
      have HG : Hid (rOk a b d n) := hgeo
      obtain ⟨L6, hL6⟩ : ∃ L6, L6 = line (pv (f16s [1, a, b, d])) n := ⟨_, rfl⟩
      rw [← hL6] at hen hn8 HOK
      have HEN := Lib.hid hen
      clear hgeo hen hL6
      go_wp2_with fail
      refine (HEN.out _).mono ?_
      rintro e w2 ⟨v2, rfl, hown2, hb2⟩
      have hb2' : Below w1.heap.size w1 w2 := bl_then (bl_drew (bl_alloc (Below.refl _ _) _)) hb2
      obtain ⟨A2, c2, rfl⟩ := own_slice hown2
      have hrk2 := (own_rk (k := .u64) hown2).1
      have hlr : Rk .u64 w2 (some ad) (ints l) := H.out.below (bl_then HQ1.out hb2')
      have heq := Go.Proofs.YtichcdoijieddaaGreat.Pm.equal_any (rk_rd hrk2) (rk_rd hlr) c2 c (by rw [ints_length, hn8]; decide) (by rw [ints_length, HL.out]; decide)
      rw [ints_length, ints_length, hn8, HL.out] at heq
      have HE := Lib.hid heq
      have hgb := blk_bl (W := (w1.alloc (.cells #[.int .i64 a, .int .i64 b, .int .i64 d, .int .i64 n] 50)).drew) HND.out hb2
      have m0 := cell_of hgb 0
      have m1 := cell_of hgb 1
      have m2 := cell_of hgb 2
      have m3 := cell_of hgb 3
      have hq2 := Lib.hid (blk_bl hq1.out hb2')
      have HQ2 := Lib.hid (bl_then HQ1.out hb2')
      have hgl := lt_of hgb
      have l0 := cell_of hq2.out 0
      have l1 := cell_of hq2.out 1
      have l2 := cell_of hq2.out 2
      have l3 := cell_of hq2.out 3
      have f0 := free_of hq2.out 0
      have f1 := free_of hq2.out 1
      have f2 := free_of hq2.out 2
      have f3 := free_of hq2.out 3
      clear hown2 hb2 hb2' hrk2 hlr heq hgb hn8
      go_wp2_with fail
      refine HE.out.mono ?_
      rintro e w3 ⟨rfl, n3, rfl⟩
      by_cases hle : ints L6 = ints l
      · have hle' : L6 = l := ints_inj.1 hle
        rw [decide_eq_true hle]
        have HLE : Hid (ok9 l = true) := by show _ = _; rw [HOK.out, decide_eq_true HG.out, decide_eq_true hle']; rfl
        clear hle hle'
        go_wp2_with fail
        exact bodyPost_ret (res_ct (u := 3) rfl _ _ w.heap.size 50 #[.int .i64 a, .int .i64 b, .int .i64 d, .int .i64 n] (0, 0) _ rfl (put4 hq2.out _ _ _ _) hu rfl (by kernel_rfl)) rfl ⟨d9_yes HZ.out HLE.out HF.out.1 HF.out.2.1 HF.out.2.2.1 HF.out.2.2.2, bl_put4 (bl_drewN HQ2.out _) (Nat.le_refl _) _ _ _ _⟩
      · rw [decide_eq_false hle]
        have HLE : Hid (ok9 l = false) := by show _ = _; rw [HOK.out, decide_eq_false (p := L6 = l) (fun h => hle (by rw [h]))]; simp
        clear hle
        go_wp2_with fail
        exact bodyPost_ret (res_ct (u := 3) rfl _ _ w.heap.size 50 #[.int .i64 0, .int .i64 0, .int .i64 0, .int .i64 0] (0, 0) _ rfl (put4 hq2.out _ _ _ _) hu rfl (by kernel_rfl)) rfl ⟨d9_no HZ.out HLE.out, bl_put4 (bl_drewN HQ2.out _) (Nat.le_refl _) _ _ _ _⟩
    · have HLE : Hid (ok9 l = false) := by show _ = _; rw [HOK.out, decide_eq_false hgeo]; rfl
      have HEN := Lib.hid (encode_no a b d n hgeo)
      clear hgeo
      go_wp2_with fail
      refine (HEN.out _).mono ?_
      rintro e w2 ⟨rfl, hb2⟩
      have hb2' : Below w1.heap.size w1 w2 := bl_then (bl_drew (bl_alloc (Below.refl _ _) _)) hb2
      have hq2 := Lib.hid (blk_bl hq1.out hb2')
      have HQ2 := Lib.hid (bl_then HQ1.out hb2')
      have l0 := cell_of hq2.out 0
      have l1 := cell_of hq2.out 1
      have l2 := cell_of hq2.out 2
      have l3 := cell_of hq2.out 3
      have f0 := free_of hq2.out 0
      have f1 := free_of hq2.out 1
      have f2 := free_of hq2.out 2
      have f3 := free_of hq2.out 3
      clear hb2 hb2'
      go_wp2_with fail
      exact bodyPost_ret (res_ct (u := 3) rfl _ _ w.heap.size 50 #[.int .i64 0, .int .i64 0, .int .i64 0, .int .i64 0] (0, 0) _ rfl (put4 hq2.out _ _ _ _) hu rfl (by kernel_rfl)) rfl ⟨d9_no HZ.out HLE.out, bl_put4 HQ2.out (Nat.le_refl _) _ _ _ _⟩
  · have hgeo : ¬ rOk a b d ((65535 : Nat) : Int) := fun h => by have := h.2.2.2.2; omega
    have hgeo2 : ¬ rOk a b d (65535 : Int) := fun h => by have := h.2.2.2.2; omega
    have HLE : Hid (ok9 l = false) := by show _ = _; rw [HOK.out, decide_eq_false hgeo]; rfl
    have HEN := Lib.hid (encode_no a b d 65535 hgeo2)
    clear hgeo hgeo2 hn9 HND HF HOK
    go_region
    go_wp2_with fail
    refine (HEN.out _).mono ?_
    rintro e w2 ⟨rfl, hb2⟩
    have hb2' : Below w1.heap.size w1 w2 := bl_then (bl_drew (bl_alloc (Below.refl _ _) _)) hb2
    have hq2 := Lib.hid (blk_bl hq1.out hb2')
    have HQ2 := Lib.hid (bl_then HQ1.out hb2')
    have l0 := cell_of hq2.out 0
    have l1 := cell_of hq2.out 1
    have l2 := cell_of hq2.out 2
    have l3 := cell_of hq2.out 3
    have f0 := free_of hq2.out 0
    have f1 := free_of hq2.out 1
    have f2 := free_of hq2.out 2
    have f3 := free_of hq2.out 3
    clear hb2 hb2'
    go_wp2_with fail
    exact bodyPost_ret (res_ct (u := 3) rfl _ _ w.heap.size 50 #[.int .i64 0, .int .i64 0, .int .i64 0, .int .i64 0] (0, 0) _ rfl (put4 hq2.out _ _ _ _) hu rfl (by kernel_rfl)) rfl ⟨d9_no HZ.out HLE.out, bl_put4 HQ2.out (Nat.le_refl _) _ _ _ _⟩

theorem decode_ {w : World} {A : Option Addr} {l : List Nat} (h : Rk .u64 w A (ints l)) (c : Nat) (hl : l.length = 8) (hlt : ∀ x ∈ l, x < 18446744073709551616) :
    Calls Tryz.prog 72 #[.slice A 8 c] w fun e w' => D9 l e ∧ Below w.heap.size w w' := by
  by_cases hz : mxl l = 0
  · exact dec_zero h c hl hlt hz
  · exact dec_rest h c hl hlt hz

end Go.Proofs.YtichcdoijieddaaGreat.Rj
end

/- volume.Block. -/
section
set_option linter.unusedVariables false
set_option linter.unusedSimpArgs false
set_option maxHeartbeats 2000000
set_option maxRecDepth 100000
namespace Go.Proofs.YtichcdoijieddaaGreat.Vo
open Go Go.RowKit
open Go.Proofs.YtichcdoijieddaaGreat.Ob Go.Proofs.YtichcdoijieddaaGreat.Ba Go.Proofs.YtichcdoijieddaaGreat.Oc Go.Proofs.YtichcdoijieddaaGreat.Pk Go.Proofs.YtichcdoijieddaaGreat.Dv Go.Proofs.YtichcdoijieddaaGreat.Su Go.Proofs.YtichcdoijieddaaGreat.Mp Go.Proofs.YtichcdoijieddaaGreat.Ge Go.Proofs.YtichcdoijieddaaGreat.Lo Go.Proofs.YtichcdoijieddaaGreat.Ko Go.Proofs.YtichcdoijieddaaGreat.Cc

theorem block_out {w : World} {v b n m s : Nat} {d : Dev} {g : Lay} (h : VolIs w v b n m s d g) (i : Int) (hi : i < 0 ∨ (n : Int) ≤ i) :
    Calls Tryz.prog 40 #[.pointer (some ⟨v, 0, none⟩), .int .i64 i] w fun e w' => e = .returned (.tuple #[.slice none 0 0, .int .i64 9]) ∧ Below w.heap.size w w' := by
  have hsl := Ge.block_ n m s i h.ok
  rw [plc_no hi] at hsl
  have HS := Lib.hid hsl
  obtain ⟨c0, c1, c2, c3⟩ := h.cells
  clear h hi hsl
  go_enter Tryz.func40, Tryz.ntmps40
  go_wp2_with (go_at_call 79; refine (HS.out _).mono ?_; rintro e w1 ⟨rfl, hb⟩; (have HB := Lib.hid hb); clear hb)
  go_ret2
  exact ⟨rfl, HB.out⟩

/-- a block that is there -/
structure Sz (v : Nat) (W : World) : Prop where
  lt : v < W.heap.size
theorem vk_keep {W W' : World} {v b n m s : Nat} (h : W.cell? ⟨v, 0, none⟩ = some (.pointer (some ⟨b, 0, none⟩)) ∧ W.cell? ⟨v, 1, none⟩ = some (.int .i64 n) ∧ W.cell? ⟨v, 2, none⟩ = some (.int .i64 m) ∧ W.cell? ⟨v, 3, none⟩ = some (.int .i64 s) ∧ Sz v W) (hb : Below W.heap.size W W') :
    W'.cell? ⟨v, 0, none⟩ = some (.pointer (some ⟨b, 0, none⟩)) ∧ W'.cell? ⟨v, 1, none⟩ = some (.int .i64 n) ∧ W'.cell? ⟨v, 2, none⟩ = some (.int .i64 m) ∧ W'.cell? ⟨v, 3, none⟩ = some (.int .i64 s) ∧ Sz v W' := by
  obtain ⟨h0, h1, h2, h3, ⟨h4⟩⟩ := h
  exact ⟨(hb.cell (p := ⟨v, 0, none⟩) h4).trans h0, (hb.cell (p := ⟨v, 1, none⟩) h4).trans h1, (hb.cell (p := ⟨v, 2, none⟩) h4).trans h2, (hb.cell (p := ⟨v, 3, none⟩) h4).trans h3, ⟨Nat.lt_of_lt_of_le h4 hb.size⟩⟩

theorem block_get {w : World} {v b n m s : Nat} {d : Dev} {g : Lay} (h : VolIs w v b n m s d g) (i : Int) (hi : 0 ≤ i ∧ i < (n : Int)) (k : Nat) (hk : (k : Int) = bkAt n m + i * ((s : Int) / 8)) (hk9 : k ≤ 1000000000) (ws : List Nat) (hw : lds d k ws.length = ints ws) (hws : ∀ x ∈ ws, x < 18446744073709551616) (hl : (ws.length : Int) = (s : Int) / 8) (hl9 : ws.length ≤ 1000000) :
    Calls Tryz.prog 40 #[.pointer (some ⟨v, 0, none⟩), .int .i64 i] w fun e w' => ∃ v', e = .returned (.tuple #[v', .int .i64 0]) ∧ w'.ownsRow w.heap.size 5 1 v' (8 * ws.length) (ivs .u8 (ints (octs ws))) ∧ Below w.heap.size w w' := by
  have hsl := Ge.block_ n m s i h.ok
  rw [plc_yes hi, ← hk] at hsl
  have HS := Lib.hid hsl
  have HEA : Hid (∀ W, Calls Tryz.prog 81 #[.agg #[.int .i64 n, .int .i64 m, .int .i64 s]] W fun e w' => e = .returned (.int .i64 (ws.length : Nat)) ∧ Below W.heap.size W w') := fun W => by
    have := Ge.each_ n m s h.ok W
    rw [← hl] at this
    exact this
  have HV := Lib.hid h
  have HLN : Hid (∀ {W : World}, Below w.heap.size w W → _) := fun {W} hb => line_ (h.dev.below hb) k ws.length hk9 hl9
  rw [hw] at HLN
  have HBY : Hid (∀ {W : World} {A : Option Addr} {c : Nat}, Rk .u64 W A (ints ws) → _) := fun {W A c} hr => bytes_ hr hws c (by omega)
  obtain ⟨len, hlen⟩ : ∃ len, len = ws.length := ⟨_, rfl⟩
  rw [← hlen] at HEA HLN HBY hl9
  rw [← hlen]
  obtain ⟨c0, c1, c2, c3⟩ := h.cells
  clear h hi hsl hk hw hws hl hlen
  go_enter Tryz.func40, Tryz.ntmps40
  go_wp2_with (go_at_call 79; refine (HS.out _).mono ?_; rintro e w1 ⟨rfl, hb⟩; (have HB := Lib.hid hb); (have HV1 := Lib.hid (HV.out.below hb)); clear hb)
  obtain ⟨m0, m1, m2, m3⟩ := HV1.out.cells
  have hvl : Sz v w1 := ⟨lt_of HV1.out.blk⟩
  have hvd : Sz v w1.drew := ⟨lt_of HV1.out.blk⟩
  have hst : w1.drew.cell? ⟨v, 0, none⟩ = some (.pointer (some ⟨b, 0, none⟩)) ∧ w1.drew.cell? ⟨v, 1, none⟩ = some (.int .i64 n) ∧ w1.drew.cell? ⟨v, 2, none⟩ = some (.int .i64 m) ∧ w1.drew.cell? ⟨v, 3, none⟩ = some (.int .i64 s) ∧ Sz v w1.drew := ⟨m0, m1, m2, m3, hvd⟩
  have HST := Lib.hid hst
  clear hst hvl hvd
  clear m0 m1 m2 m3
  go_region_held3 (fun w' => w'.cell? ⟨v, 0, none⟩ = some (.pointer (some ⟨b, 0, none⟩)) ∧ w'.cell? ⟨v, 1, none⟩ = some (.int .i64 n) ∧ w'.cell? ⟨v, 2, none⟩ = some (.int .i64 m) ∧ w'.cell? ⟨v, 3, none⟩ = some (.int .i64 s) ∧ Sz v w')
    (first | assumption | exact HST.out | exact vk_keep ‹_› ‹_›)
    (first | (go_at_call 81; refine (HEA.out _).mono ?_; rintro e w2 ⟨rfl, hb2⟩; (have HB2 := Lib.hid (bl_then HB.out (bl_then (w1 := w1.drew) (bl_drew (Below.refl _ _)) hb2)))) |
      (go_at_call 61; refine (HLN.out HB2.out).mono ?_; rintro e w3 ⟨v3, rfl, hown, hb3⟩; (obtain ⟨A3, c3, rfl⟩ := own_slice hown); (have HB3 := Lib.hid (bl_then HB2.out hb3)); (have HR3 := Lib.hid (own_rk (k := .u64) hown).1); clear hown) |
      (go_at_call 80; refine (HBY.out HR3.out).mono ?_; rintro e w4 ⟨v4, rfl, hown, hb4⟩; (obtain ⟨A4, c4, rfl⟩ := own_slice hown); (have HB4 := Lib.hid (bl_then HB3.out hb4)); (have HO4 := Lib.hid (own_base hown HB3.out.size)); clear hown))
  go_wp2
  go_ret2
  exact ⟨_, rfl, HO4.out, HB4.out⟩

end Go.Proofs.YtichcdoijieddaaGreat.Vo
end

/- volume.SetBitmap, Bitmap. -/
section
set_option linter.unusedVariables false
set_option linter.unusedSimpArgs false
set_option maxHeartbeats 2000000
set_option maxRecDepth 100000
namespace Go.Proofs.YtichcdoijieddaaGreat.Vo
open Go Go.RowKit
open Go.Proofs.YtichcdoijieddaaGreat.Ob Go.Proofs.YtichcdoijieddaaGreat.Ba Go.Proofs.YtichcdoijieddaaGreat.Oc Go.Proofs.YtichcdoijieddaaGreat.Pk Go.Proofs.YtichcdoijieddaaGreat.Dv Go.Proofs.YtichcdoijieddaaGreat.Su Go.Proofs.YtichcdoijieddaaGreat.Mp Go.Proofs.YtichcdoijieddaaGreat.Ge Go.Proofs.YtichcdoijieddaaGreat.Lo Go.Proofs.YtichcdoijieddaaGreat.Ko Go.Proofs.YtichcdoijieddaaGreat.Bm

theorem setbm_nil {w : World} {v b n m s : Nat} {d : Dev} {g : Lay} (h : VolIs w v b n m s d g) :
    Calls Tryz.prog 18 #[.pointer (some ⟨v, 0, none⟩), .pointer none] w fun e w' => e = .returned (.tuple #[.int .i64 0, .int .i64 1]) ∧ Below w.heap.size w w' := by
  obtain ⟨c0, c1, c2, c3⟩ := h.cells
  clear h
  go_enter Tryz.func18, Tryz.ntmps18
  go_wp2_with fail
  go_quiet (fail)
  go_wp2
  go_ret2
  exact ⟨rfl, bl_drewN (Below.refl _ _) _⟩

theorem setbm_len {w : World} {v b n m s : Nat} {d : Dev} {g : Lay} (h : VolIs w v b n m s d g) {B p n' : Nat} {l : List Nat} {A : Option Addr} {c : Nat} (hb : Bm w B p n' l A c) (hn : n' ≠ n) :
    Calls Tryz.prog 18 #[.pointer (some ⟨v, 0, none⟩), .pointer (some ⟨p, 0, none⟩)] w fun e w' => e = .returned (.tuple #[.int .i64 0, .int .i64 1]) ∧ Below w.heap.size w w' := by
  obtain ⟨c0, c1, c2, c3⟩ := h.cells
  have HL : Hid (∀ W, Below w.heap.size w W → Calls Tryz.prog 64 #[.pointer (some ⟨p, 0, none⟩)] W fun e w' => e = .returned (.int .i64 n') ∧ w' = W) := fun W hw => len_ (hb.keep hw)
  have e1 : ((n' : Int) != (n : Int)) = true := by rw [bne_iff_ne]; omega
  have HST : Hid (w.drew.cell? ⟨v, 0, none⟩ = some (.pointer (some ⟨b, 0, none⟩)) ∧ w.drew.cell? ⟨v, 1, none⟩ = some (.int .i64 n) ∧ w.drew.cell? ⟨v, 2, none⟩ = some (.int .i64 m) ∧ w.drew.cell? ⟨v, 3, none⟩ = some (.int .i64 s) ∧ Sz v w.drew) := ⟨c0, c1, c2, c3, ⟨lt_of h.blk⟩⟩
  clear h hb
  go_enter Tryz.func18, Tryz.ntmps18
  go_wp2_with fail
  go_region_held3 (fun w' => w'.cell? ⟨v, 0, none⟩ = some (.pointer (some ⟨b, 0, none⟩)) ∧ w'.cell? ⟨v, 1, none⟩ = some (.int .i64 n) ∧ w'.cell? ⟨v, 2, none⟩ = some (.int .i64 m) ∧ w'.cell? ⟨v, 3, none⟩ = some (.int .i64 s) ∧ Sz v w')
    (first | assumption | exact HST.out)
    ((go_at_call 64; refine (HL.out _ (bl_drew (Below.refl _ _))).mono ?_; rintro e w2 ⟨rfl, rfl⟩))
  all_goals
    go_wp2
    go_ret2
    exact ⟨rfl, bl_drew (Below.refl _ _)⟩

theorem setbm_yes {w : World} {v b n m s : Nat} {d : Dev} {g : Lay} (h : VolIs w v b n m s d g) (hst : d.steps ≤ 1000000000) {B p : Nat} {l : List Nat} {A : Option Addr} {c : Nat} (hb : Bm w B p n l A c) (k : Nat) (hk : (k : Int) = bmAt n m) (hk9 : k ≤ 1000000000)
    (R : Dev × Option Nat) (hR : putGo false (ints l) k ⟨d, 0, []⟩ = R) :
    Calls Tryz.prog 18 #[.pointer (some ⟨v, 0, none⟩), .pointer (some ⟨p, 0, none⟩)] w fun e w' => PutIs w b g R e w' := by
  obtain ⟨c0, c1, c2, c3⟩ := h.cells
  have HL : Hid (∀ W, Below w.heap.size w W → Calls Tryz.prog 64 #[.pointer (some ⟨p, 0, none⟩)] W fun e w' => e = .returned (.int .i64 n) ∧ w' = W) := fun W hw => len_ (hb.keep hw)
  have HST : Hid (w.drew.cell? ⟨v, 0, none⟩ = some (.pointer (some ⟨b, 0, none⟩)) ∧ w.drew.cell? ⟨v, 1, none⟩ = some (.int .i64 n) ∧ w.drew.cell? ⟨v, 2, none⟩ = some (.int .i64 m) ∧ w.drew.cell? ⟨v, 3, none⟩ = some (.int .i64 s) ∧ Sz v w.drew) := ⟨c0, c1, c2, c3, ⟨lt_of h.blk⟩⟩
  have HBM : Hid (∀ W, Calls Tryz.prog 65 #[.agg #[.int .i64 n, .int .i64 m, .int .i64 s]] W fun e w' => e = .returned (.tuple #[.int .i64 k, .int .i64 (((n : Int) + 63) / 64)]) ∧ Below W.heap.size W w') := fun W => by
    have := bmap_ n m s h.ok W
    rw [← hk] at this
    exact this
  have HV := Lib.hid h
  have HWD : Hid (∀ {W : World}, Below w.heap.size w W → Calls Tryz.prog 66 #[.pointer (some ⟨p, 0, none⟩)] W fun e w' => ∃ v, e = .returned v ∧ w'.ownsRow W.heap.size 60 1 v l.length (ivs .u64 (ints l)) ∧ Below W.heap.size W w') := fun {W} hw => words_of (hb.keep hw)
  have hln : l.length ≤ 1000000 := by have := hb.len; have := hb.le; omega
  have HPT : Hid (∀ {W : World} {A : Option Addr} {c : Nat}, Below w.heap.size w W → Rk .u64 W A (ints l) → (∀ p, A = some p → w.heap.size ≤ p.block) → Calls Tryz.prog 58 #[.agg #[.pointer (some ⟨b, 0, none⟩)], .int .i64 k, .slice A l.length c, .bool false] W fun e w' => PutIs W b g R e w') := fun {W A c} hw hr hA => by
    have := put_diff (HV.out.below hw).dev hr (fun q hq hm => by have := hA q hq; have := HV.out.dev.lt _ hm; omega) k c hk9 (by rw [ints_length]; exact hln) hst R hR
    rw [ints_length] at this
    exact this
  generalize l.length = ln at *
  clear h hb hk hst hR hln hk9
  go_enter Tryz.func18, Tryz.ntmps18
  go_wp2_with fail
  go_region_held3 (fun w' => w'.cell? ⟨v, 0, none⟩ = some (.pointer (some ⟨b, 0, none⟩)) ∧ w'.cell? ⟨v, 1, none⟩ = some (.int .i64 n) ∧ w'.cell? ⟨v, 2, none⟩ = some (.int .i64 m) ∧ w'.cell? ⟨v, 3, none⟩ = some (.int .i64 s) ∧ Sz v w')
    (first | assumption | exact HST.out)
    ((go_at_call 64; refine (HL.out _ (bl_drew (Below.refl _ _))).mono ?_; rintro e w2 ⟨rfl, rfl⟩))
  all_goals
    go_wp2_with (go_at_call 65; refine (HBM.out _).mono ?_; rintro e w3 ⟨rfl, hb3⟩; (have HB3 := Lib.hid (bl_then (w1 := w.drew) (bl_drew (Below.refl _ _)) hb3)); (obtain ⟨n0, n1, n2, n3⟩ := (HV.out.below HB3.out).cells); (have HV3 : Hid (Sz v w3) := ⟨lt_of (HV.out.below HB3.out).blk⟩); clear hb3)
    have HS3 : Hid (w3.drew.cell? ⟨v, 0, none⟩ = some (.pointer (some ⟨b, 0, none⟩)) ∧ Sz v w3.drew) := ⟨n0, ⟨HV3.out.lt⟩⟩
    go_region_held3 (fun w' => w'.cell? ⟨v, 0, none⟩ = some (.pointer (some ⟨b, 0, none⟩)))
      (first | assumption | exact HS3.out.1)
      (first | (go_at_call 66; refine (HWD.out (bl_drew HB3.out)).mono ?_; rintro e w4 ⟨v4, rfl, hown, hb4⟩; (obtain ⟨A4, c4, rfl⟩ := own_slice hown); (have HB4 := Lib.hid (bl_then (w1 := w3.drew) (bl_drew HB3.out) hb4)); (have r0 := (HV.out.below HB4.out).cells.1); (have HR4 := Lib.hid (own_rk (k := .u64) hown).1); (have HA4 : Hid (∀ p, A4 = some p → w.heap.size ≤ p.block) := fun q hq => Nat.le_trans (bl_drew HB3.out).size (own_lo hown _ (by rw [hq]; rfl))); clear hown hb4) |
        (go_at_call 58; refine (HPT.out HB4.out HR4.out HA4.out).mono ?_; rintro e w5 ⟨rfl, hto⟩; (have n4 : w5.cell? ⟨v, 0, none⟩ = some (.pointer (some ⟨b, 0, none⟩)) := by (obtain ⟨g4, q1, q2, q3⟩ := hto; exact cell_of (q3.blk (HV.out.below HB4.out).blk HV.out.apart) 0)); (have HTO := Lib.hid hto); clear hto))
    all_goals
      go_wp2
      go_ret2
      refine ⟨rfl, ?_⟩
      obtain ⟨g4, q1, q2, q3⟩ := HTO.out
      have hbb := HB4.out
      refine ⟨g4, q1, fun u hu => ?_, (Upd.of_below (F := g.foot b) hbb).trans q3 (fun u hu => .inl hu)⟩
      rcases q2 u hu with r | r
      · exact .inl r
      · exact .inr (Nat.le_trans hbb.size r)

theorem _root_.Go.Proofs.YtichcdoijieddaaGreat.Bm.Bm.base {W : World} {B B' b n : Nat} {l : List Nat} {A : Option Addr} {c : Nat} (h : Bm W B' b n l A c) (hB : B ≤ B') : Bm W B b n l A c := ⟨h.box, own_base h.row hB, Nat.le_trans hB h.lo, h.apart, h.len, h.lt, h.le⟩

def BmIs (x n B : Nat) (e : Ending) (w' : World) : Prop := (x / 2 ^ n = 0 → ∃ b A' c', e = .returned (.tuple #[.pointer (some ⟨b, 0, none⟩), .int .i64 0]) ∧ Bm w' B b n [x] A' c') ∧ (x / 2 ^ n ≠ 0 → e = .returned (.tuple #[.pointer none, .int .i64 2]))

theorem bm_get {w : World} {v b n m s : Nat} {d : Dev} {g : Lay} (h : VolIs w v b n m s d g) (h1 : 1 ≤ n) (h2 : n ≤ 63) (k : Nat) (hk : (k : Int) = bmAt n m) (hk9 : k ≤ 1000000000) (x : Nat) (hx : d.load k = (x : Int)) (hx9 : x < 18446744073709551616) :
    Calls Tryz.prog 20 #[.pointer (some ⟨v, 0, none⟩)] w fun e w' => BmIs x n w.heap.size e w' ∧ Below w.heap.size w w' := by
  obtain ⟨c0, c1, c2, c3⟩ := h.cells
  have HBM : Hid (∀ W, Calls Tryz.prog 65 #[.agg #[.int .i64 n, .int .i64 m, .int .i64 s]] W fun e w' => e = .returned (.tuple #[.int .i64 k, .int .i64 1]) ∧ Below W.heap.size W w') := fun W => by
    have := bmap_ n m s h.ok W
    rw [← hk, show ((n : Int) + 63) / 64 = 1 from by omega] at this
    exact this
  have HV := Lib.hid h
  have HLN : Hid (∀ {W : World}, Below w.heap.size w W → Calls Tryz.prog 61 #[.agg #[.pointer (some ⟨b, 0, none⟩)], .int .i64 k, .int .i64 1] W fun e w' => ∃ v, e = .returned v ∧ w'.ownsRow W.heap.size 60 1 v 1 (ivs .u64 (ints [x])) ∧ Below W.heap.size W w') := fun {W} hb => by
    have := line_ (h.dev.below hb) k 1 hk9 (by decide)
    rw [show lds d k 1 = ints [x] from by simp [lds, ints]; exact hx] at this
    exact this
  have HOF : Hid (∀ {W : World} {A : Option Addr} {c : Nat}, Rk .u64 W A (ints [x]) → Calls Tryz.prog 67 #[.int .i64 n, .slice A 1 c] W fun e w' => ∃ r0 r1, e = .returned (.tuple #[r0, r1]) ∧ BmIs x n W.heap.size (.returned (.tuple #[r0, r1])) w' ∧ Below W.heap.size W w') := fun {W A c} hr => by
    refine (of_one hr hx9 c n h1 h2).mono ?_
    rintro e w' ⟨q1, q2, q3⟩
    by_cases hz : x / 2 ^ n = 0
    · obtain ⟨b', A', c', rfl, hm⟩ := q1 hz
      exact ⟨_, _, rfl, ⟨fun _ => ⟨b', A', c', rfl, hm⟩, fun h => absurd hz h⟩, q3⟩
    · obtain rfl := q2 hz
      exact ⟨_, _, rfl, ⟨fun h => absurd h hz, fun _ => rfl⟩, q3⟩
  clear h hk hk9 hx hx9
  go_enter Tryz.func20, Tryz.ntmps20
  go_wp2_with (go_at_call 65; refine (HBM.out _).mono ?_; rintro e w3 ⟨rfl, hb3⟩; (have HB3 := Lib.hid hb3); clear hb3)
  have HS3 : Hid (w3.drew.cell? ⟨v, 0, none⟩ = some (.pointer (some ⟨b, 0, none⟩)) ∧ w3.drew.cell? ⟨v, 1, none⟩ = some (.int .i64 n) ∧ w3.drew.cell? ⟨v, 2, none⟩ = some (.int .i64 m) ∧ w3.drew.cell? ⟨v, 3, none⟩ = some (.int .i64 s) ∧ Sz v w3.drew) := by
    obtain ⟨n0, n1, n2, n3⟩ := (HV.out.below HB3.out).cells
    exact ⟨n0, n1, n2, n3, ⟨lt_of (HV.out.below HB3.out).blk⟩⟩
  go_region_held3 (fun w' => w'.cell? ⟨v, 0, none⟩ = some (.pointer (some ⟨b, 0, none⟩)) ∧ w'.cell? ⟨v, 1, none⟩ = some (.int .i64 n) ∧ w'.cell? ⟨v, 2, none⟩ = some (.int .i64 m) ∧ w'.cell? ⟨v, 3, none⟩ = some (.int .i64 s) ∧ Sz v w')
    (first | assumption | exact HS3.out | exact vk_keep ‹_› ‹_›)
    (first | (go_at_call 61; refine (HLN.out (bl_drew HB3.out)).mono ?_; rintro e w4 ⟨v4, rfl, hown, hb4⟩; (obtain ⟨A4, c4, rfl⟩ := own_slice hown); (have HB4 := Lib.hid (bl_then (w1 := w3.drew) (bl_drew HB3.out) hb4)); (have HR4 := Lib.hid (own_rk (k := .u64) hown).1); clear hown) |
      (go_at_call 67; refine (HOF.out HR4.out).mono ?_; rintro e w5 ⟨r0, r1, rfl, hbm, hb5⟩; (have HB5 := Lib.hid (bl_then HB4.out hb5)); (have HM5 := Lib.hid hbm); clear hbm))
  all_goals
    go_wp2
    go_ret2
    refine ⟨?_, HB5.out⟩
    refine ⟨fun hz => ?_, fun hz => HM5.out.2 hz⟩
    obtain ⟨b', A', c', e1, hm⟩ := HM5.out.1 hz
    exact ⟨b', A', c', e1, hm.base HB4.out.size⟩

end Go.Proofs.YtichcdoijieddaaGreat.Vo
end

/- volume.SetRecord, Record, ClearRecord, Sync. -/
section
set_option linter.unusedVariables false
set_option linter.unusedSimpArgs false
set_option maxHeartbeats 2000000
set_option maxRecDepth 100000
namespace Go.Proofs.YtichcdoijieddaaGreat.Vo
open Go Go.RowKit
open Go.Proofs.YtichcdoijieddaaGreat.Ob Go.Proofs.YtichcdoijieddaaGreat.Ba Go.Proofs.YtichcdoijieddaaGreat.Oc Go.Proofs.YtichcdoijieddaaGreat.Pk Go.Proofs.YtichcdoijieddaaGreat.Dv Go.Proofs.YtichcdoijieddaaGreat.Su Go.Proofs.YtichcdoijieddaaGreat.Mp Go.Proofs.YtichcdoijieddaaGreat.Ge Go.Proofs.YtichcdoijieddaaGreat.Lo Go.Proofs.YtichcdoijieddaaGreat.Ko Go.Proofs.YtichcdoijieddaaGreat.Rj

theorem grec_ (n m s : Int) (h : geoOk n m s = true) (w : World) : Calls Tryz.prog 71 #[.agg #[.int .i64 n, .int .i64 m, .int .i64 s]] w fun e w' => e = .returned (.int .i64 8) ∧ Below w.heap.size w w' := by
  have hu := Tryz.underlying83
  have HP := Lib.hid (place_ n m s 8 0 1 h)
  have e8 : Hid (plc 8 0 1 = 8) := by show _ = _; decide
  rw [e8.out] at HP
  clear h
  go_enter Tryz.func71, Tryz.ntmps71
  go_wp2_with fail
  refine (HP.out _).mono ?_
  rintro e w1 ⟨rfl, hb⟩
  have HB := Lib.hid (bl_then (bl_alloc (Below.refl _ _) _) hb)
  clear hb
  go_wp2_with fail
  go_ret
  exact ⟨rfl, HB.out⟩

theorem setrec_no {w : World} {v b n m s : Nat} {d : Dev} {g : Lay} (h : VolIs w v b n m s d g) (x y z t : Int) (hn : ¬ rOk x y z t) :
    Calls Tryz.prog 28 #[.pointer (some ⟨v, 0, none⟩), .agg #[.int .i64 x, .int .i64 y, .int .i64 z, .int .i64 t]] w fun e w' => e = .returned (.int .i64 1) ∧ Below w.heap.size w w' := by
  have hu := Tryz.underlying50
  have HE := Lib.hid (encode_no x y z t hn)
  clear h hn
  go_enter Tryz.func28, Tryz.ntmps28
  go_wp2_with fail
  refine (HE.out _).mono ?_
  rintro e w1 ⟨rfl, hb⟩
  have HB := Lib.hid (bl_then (bl_alloc (Below.refl _ _) _) hb)
  clear hb
  go_wp2_with fail
  go_ret
  exact ⟨rfl, HB.out⟩

theorem to_behind {w w1 w2 : World} {b : Nat} {g : Lay} {d' : Dev} (hbb : Below w.heap.size w w1) (h : DevTo w1 w2 b g d') : DevTo w w2 b g d' := by
  obtain ⟨g4, q1, q2, q3⟩ := h
  refine ⟨g4, q1, fun u hu => ?_, (Upd.of_below (F := g.foot b) hbb).trans q3 (fun u hu => .inl hu)⟩
  rcases q2 u hu with r | r
  · exact .inl r
  · exact .inr (Nat.le_trans hbb.size r)

theorem setrec_yes {w : World} {v b n m s : Nat} {d : Dev} {g : Lay} (h : VolIs w v b n m s d g) (hst : d.steps ≤ 1000000000) (x y z t : Nat) (hn : rOk x y z t)
    (R : Dev × Option Nat) (hR : putGo true (ints (line (pv (f16s [1, x, y, z])) t)) 8 ⟨d, 0, []⟩ = R) :
    Calls Tryz.prog 28 #[.pointer (some ⟨v, 0, none⟩), .agg #[.int .i64 x, .int .i64 y, .int .i64 z, .int .i64 t]] w fun e w' => e = .returned (.int .i64 (ecode R)) ∧ DevTo w w' b g R.1 := by
  have hu := Tryz.underlying50
  have HE := Lib.hid (encode_yes x y z t hn)
  have HV := Lib.hid h
  have HG := Lib.hid (grec_ n m s h.ok)
  have h8 : (line (pv (f16s [1, x, y, z])) t).length = 8 := rfl
  obtain ⟨L6, hL6⟩ : ∃ L6, L6 = line (pv (f16s [1, x, y, z])) t := ⟨_, rfl⟩
  rw [← hL6] at HE h8 hR
  have HPT : Hid (∀ {W : World} {A : Option Addr} {c : Nat}, Below w.heap.size w W → Rk .u64 W A (ints L6) → (∀ p, A = some p → w.heap.size ≤ p.block) → Calls Tryz.prog 58 #[.agg #[.pointer (some ⟨b, 0, none⟩)], .int .i64 8, .slice A 8 c, .bool true] W fun e w' => PutIs W b g R e w') := fun {W A c} hw hr hA => by
    have := put_all (HV.out.below hw).dev hr (fun q hq hm => by have := hA q hq; have := HV.out.dev.lt _ hm; omega) 8 c (by decide) (by rw [ints_length, h8]; decide) hst R hR
    rw [ints_length, h8] at this
    exact this
  clear h hn hst hR hL6 h8
  go_enter Tryz.func28, Tryz.ntmps28
  go_wp2_with fail
  refine (HE.out _).mono ?_
  rintro e w1 ⟨v1, rfl, hown, hb⟩
  obtain ⟨A1, c1, rfl⟩ := own_slice hown
  have hbb := bl_then (bl_alloc (Below.refl w.heap.size w) _) hb
  have hlo : w.heap.size ≤ w1.heap.size := hbb.size
  have HB1 := Lib.hid hbb
  have HR1 := Lib.hid (own_rk (k := .u64) hown).1
  have HA1 : Hid (∀ p, A1 = some p → w.heap.size ≤ p.block) := fun q hq => by
    have := own_lo hown _ (show (Value.slice A1 8 c1).ownBlock = some q.block by rw [hq]; rfl)
    simp at this
    omega
  have HS1 : Hid (w1.drew.cell? ⟨v, 0, none⟩ = some (.pointer (some ⟨b, 0, none⟩)) ∧ w1.drew.cell? ⟨v, 1, none⟩ = some (.int .i64 n) ∧ w1.drew.cell? ⟨v, 2, none⟩ = some (.int .i64 m) ∧ w1.drew.cell? ⟨v, 3, none⟩ = some (.int .i64 s) ∧ Sz v w1.drew) := by
    obtain ⟨n0, n1, n2, n3⟩ := (HV.out.below hbb).cells
    exact ⟨n0, n1, n2, n3, ⟨lt_of (HV.out.below hbb).blk⟩⟩
  clear hown hb hbb hlo
  go_wp2_with fail
  go_region_held3 (fun w' => w'.cell? ⟨v, 0, none⟩ = some (.pointer (some ⟨b, 0, none⟩)) ∧ w'.cell? ⟨v, 1, none⟩ = some (.int .i64 n) ∧ w'.cell? ⟨v, 2, none⟩ = some (.int .i64 m) ∧ w'.cell? ⟨v, 3, none⟩ = some (.int .i64 s) ∧ Sz v w')
    (first | assumption | exact HS1.out | exact vk_keep ‹_› ‹_› | exact HS3.out)
    (first | (go_at_call 71; refine (HG.out _).mono ?_; rintro e w2 ⟨rfl, hb2⟩; (have HB2 := Lib.hid (bl_then HB1.out (bl_then (w1 := w1.drew) (bl_drew (Below.refl _ _)) hb2))); (have HR2 := Lib.hid (HR1.out.below (bl_then (w1 := w1.drew) (bl_drew (Below.refl _ _)) hb2)))) |
      (go_at_call 58; refine (HPT.out HB2.out HR2.out HA1.out).mono ?_; rintro e w3 ⟨rfl, hto⟩; (have HS3 : Hid (w3.cell? ⟨v, 0, none⟩ = some (.pointer (some ⟨b, 0, none⟩)) ∧ w3.cell? ⟨v, 1, none⟩ = some (.int .i64 n) ∧ w3.cell? ⟨v, 2, none⟩ = some (.int .i64 m) ∧ w3.cell? ⟨v, 3, none⟩ = some (.int .i64 s) ∧ Sz v w3) := by (obtain ⟨g4, q1, q2, q3⟩ := hto; (have hx := q3.blk (HV.out.below HB2.out).blk HV.out.apart); exact ⟨cell_of hx 0, cell_of hx 1, cell_of hx 2, cell_of hx 3, ⟨lt_of hx⟩⟩)); (have HTO := Lib.hid hto); clear hto))
  all_goals
    go_wp2
    go_ret
    exact ⟨rfl, to_behind HB2.out HTO.out⟩

theorem vk_set {W : World} {v b n m s : Nat} (h : W.cell? ⟨v, 0, none⟩ = some (.pointer (some ⟨b, 0, none⟩)) ∧ W.cell? ⟨v, 1, none⟩ = some (.int .i64 n) ∧ W.cell? ⟨v, 2, none⟩ = some (.int .i64 m) ∧ W.cell? ⟨v, 3, none⟩ = some (.int .i64 s) ∧ Sz v W) {q : Nat} (hq : v ≠ q) (o : Nat) (u : Value) : (W.setCell ⟨q, o, none⟩ u).cell? ⟨v, 0, none⟩ = some (.pointer (some ⟨b, 0, none⟩)) ∧ (W.setCell ⟨q, o, none⟩ u).cell? ⟨v, 1, none⟩ = some (.int .i64 n) ∧ (W.setCell ⟨q, o, none⟩ u).cell? ⟨v, 2, none⟩ = some (.int .i64 m) ∧ (W.setCell ⟨q, o, none⟩ u).cell? ⟨v, 3, none⟩ = some (.int .i64 s) ∧ Sz v (W.setCell ⟨q, o, none⟩ u) := by
  obtain ⟨h0, h1, h2, h3, ⟨h4⟩⟩ := h
  have hk : ∀ i, (W.setCell ⟨q, o, none⟩ u).cell? ⟨v, i, none⟩ = W.cell? ⟨v, i, none⟩ := fun i => cell_blk (Below.heap_setCell W _ u v (show v ≠ q from hq)) i
  exact ⟨(hk 0).trans h0, (hk 1).trans h1, (hk 2).trans h2, (hk 3).trans h3, ⟨by simpa using h4⟩⟩

theorem record_get {w : World} {v b n m s : Nat} {d : Dev} {g : Lay} (h : VolIs w v b n m s d g) (ws : List Nat) (hw : lds d 8 8 = ints ws) (hws : ∀ x ∈ ws, x < 18446744073709551616) :
    Calls Tryz.prog 30 #[.pointer (some ⟨v, 0, none⟩)] w fun e w' => D9 ws e ∧ Below w.heap.size w w' := by
  have hu := Tryz.underlying50
  have hl8 : ws.length = 8 := by rw [← ints_length, ← hw, lds_length]
  have HV := Lib.hid h
  have HG := Lib.hid (grec_ n m s h.ok)
  have HLN : Hid (∀ {W : World}, Below w.heap.size w W → Calls Tryz.prog 61 #[.agg #[.pointer (some ⟨b, 0, none⟩)], .int .i64 8, .int .i64 8] W fun e w' => ∃ v, e = .returned v ∧ w'.ownsRow W.heap.size 60 1 v 8 (ivs .u64 (ints ws)) ∧ Below W.heap.size W w') := fun {W} hb => by
    have := line_ (h.dev.below hb) 8 8 (by decide) (by decide)
    rw [hw] at this
    exact this
  have HDE : Hid (∀ {W : World} {A : Option Addr} {c : Nat}, Rk .u64 W A (ints ws) → Calls Tryz.prog 72 #[.slice A 8 c] W fun e w' => ∃ q0 q1 q2 q3 qe, e = .returned (.tuple #[.agg #[.int .i64 q0, .int .i64 q1, .int .i64 q2, .int .i64 q3], .int .i64 qe]) ∧ D9 ws (.returned (.tuple #[.agg #[.int .i64 q0, .int .i64 q1, .int .i64 q2, .int .i64 q3], .int .i64 qe])) ∧ Below W.heap.size W w') := fun {W A c} hr => by
    refine (decode_ (w := W) (A := A) hr c hl8 hws).mono ?_
    rintro e w' ⟨he, hb⟩
    exact ⟨_, _, _, _, _, he, rfl, hb⟩
  have hvlt := lt_of h.blk
  have hvn : v ≠ w.heap.size := Nat.ne_of_lt hvlt
  have h2 := h.below (bl_alloc (Below.refl _ _) (.cells #[.int .i64 0, .int .i64 0, .int .i64 0, .int .i64 0] 50))
  have HS0 : Hid ((w.alloc (.cells #[.int .i64 0, .int .i64 0, .int .i64 0, .int .i64 0] 50)).drew.cell? ⟨v, 0, none⟩ = some (.pointer (some ⟨b, 0, none⟩)) ∧ (w.alloc (.cells #[.int .i64 0, .int .i64 0, .int .i64 0, .int .i64 0] 50)).drew.cell? ⟨v, 1, none⟩ = some (.int .i64 n) ∧ (w.alloc (.cells #[.int .i64 0, .int .i64 0, .int .i64 0, .int .i64 0] 50)).drew.cell? ⟨v, 2, none⟩ = some (.int .i64 m) ∧ (w.alloc (.cells #[.int .i64 0, .int .i64 0, .int .i64 0, .int .i64 0] 50)).drew.cell? ⟨v, 3, none⟩ = some (.int .i64 s) ∧ Sz v (w.alloc (.cells #[.int .i64 0, .int .i64 0, .int .i64 0, .int .i64 0] 50)).drew) := by
    obtain ⟨n0, n1, n2, n3⟩ := h2.cells
    exact ⟨n0, n1, n2, n3, ⟨lt_of h2.blk⟩⟩
  have HQ0 := Lib.hid (alloc_new w (.cells #[.int .i64 0, .int .i64 0, .int .i64 0, .int .i64 0] 50))
  clear h h2 hw hws hl8
  go_enter Tryz.func30, Tryz.ntmps30
  go_wp2_with fail
  go_region_held3 (fun w' => w'.cell? ⟨v, 0, none⟩ = some (.pointer (some ⟨b, 0, none⟩)) ∧ w'.cell? ⟨v, 1, none⟩ = some (.int .i64 n) ∧ w'.cell? ⟨v, 2, none⟩ = some (.int .i64 m) ∧ w'.cell? ⟨v, 3, none⟩ = some (.int .i64 s) ∧ Sz v w')
    (first | assumption | exact HS0.out | exact vk_keep ‹_› ‹_› | exact vk_set ‹_› hvn _ _ | exact vk_set (vk_set ‹_› hvn _ _) hvn _ _ | exact vk_set (vk_set (vk_set ‹_› hvn _ _) hvn _ _) hvn _ _ | exact vk_set (vk_set (vk_set (vk_set ‹_› hvn _ _) hvn _ _) hvn _ _) hvn _ _)
    (first | (go_at_call 71; refine (HG.out _).mono ?_; rintro e w2 ⟨rfl, hb2⟩; (have HB2 := Lib.hid (bl_then (bl_drew (bl_alloc (Below.refl w.heap.size w) (.cells #[.int .i64 0, .int .i64 0, .int .i64 0, .int .i64 0] 50))) hb2)); (have HQ2 := Lib.hid (blk_bl (W := (w.alloc (.cells #[.int .i64 0, .int .i64 0, .int .i64 0, .int .i64 0] 50)).drew) HQ0.out hb2))) |
      (go_at_call 61; refine (HLN.out HB2.out).mono ?_; rintro e w3 ⟨v3, rfl, hown, hb3⟩; (obtain ⟨A3, c3, rfl⟩ := own_slice hown); (have HB3 := Lib.hid (bl_then HB2.out hb3)); (have HQ3 := Lib.hid (blk_bl HQ2.out hb3)); (have HR3 := Lib.hid (own_rk (k := .u64) hown).1); clear hown) |
      (go_at_call 72; refine (HDE.out HR3.out).mono ?_; rintro e w4 ⟨q0, q1, q2, q3, qe, rfl, hd9, hb4⟩; (have HB4 := Lib.hid (bl_then HB3.out hb4)); (have HQ4 := Lib.hid (blk_bl HQ3.out hb4)); (have HD4 := Lib.hid hd9); (have l0 := cell_of HQ4.out 0); (have l1 := cell_of HQ4.out 1); (have l2 := cell_of HQ4.out 2); (have l3 := cell_of HQ4.out 3); (have f0 := free_of HQ4.out 0); (have f1 := free_of HQ4.out 1); (have f2 := free_of HQ4.out 2); (have f3 := free_of HQ4.out 3); clear hd9))
  all_goals
    go_wp2
    exact bodyPost_ret (res_ct (u := 3) rfl _ _ w.heap.size 50 #[.int .i64 q0, .int .i64 q1, .int .i64 q2, .int .i64 q3] (0, 0) _ rfl (put4 HQ4.out _ _ _ _) hu rfl (by kernel_rfl)) rfl ⟨HD4.out, bl_put4 HB4.out (Nat.le_refl _) _ _ _ _⟩

theorem sync_ {w : World} {v b n m s : Nat} {d : Dev} {g : Lay} (h : VolIs w v b n m s d g) (hlim : d.steps < 1099511627776) (hf : d.fuse = none) :
    Calls Tryz.prog 31 #[.pointer (some ⟨v, 0, none⟩)] w fun e w' => e = .returned (.int .i64 0) ∧ DevTo w w' b g d.fenced := by
  obtain ⟨c0, c1, c2, c3⟩ := h.cells
  have hfe := Pm.fence_any h.dev hlim
  have hd : d.down = false := by unfold Dev.down; rw [hf]; rfl
  rw [hd] at hfe
  have HF := Lib.hid hfe
  clear h hfe hd hf
  go_enter Tryz.func31, Tryz.ntmps31
  go_wp2_with fail
  refine HF.out.mono ?_
  rintro e w1 ⟨rfl, hto⟩
  have HTO := Lib.hid hto
  clear hto
  go_wp2_with fail
  go_ret
  exact ⟨rfl, HTO.out⟩

end Go.Proofs.YtichcdoijieddaaGreat.Vo
end

/- volume.ClearRecord. -/
section
set_option linter.unusedVariables false
set_option linter.unusedSimpArgs false
set_option maxHeartbeats 20000000
set_option maxRecDepth 100000
namespace Go.Proofs.YtichcdoijieddaaGreat.Vo
open Go Go.RowKit
open Go.Proofs.YtichcdoijieddaaGreat.Ob Go.Proofs.YtichcdoijieddaaGreat.Ba Go.Proofs.YtichcdoijieddaaGreat.Oc Go.Proofs.YtichcdoijieddaaGreat.Pk Go.Proofs.YtichcdoijieddaaGreat.Dv Go.Proofs.YtichcdoijieddaaGreat.Su Go.Proofs.YtichcdoijieddaaGreat.Mp Go.Proofs.YtichcdoijieddaaGreat.Ge Go.Proofs.YtichcdoijieddaaGreat.Lo Go.Proofs.YtichcdoijieddaaGreat.Ko Go.Proofs.YtichcdoijieddaaGreat.Rj

theorem zeros_rk {W : World} {q T : Nat} {fr : Nat × Nat} (h : W.heap[q]? = some (.cells (Array.replicate 8 (.int .u64 0)) T fr)) : Rk .u64 W (some ⟨q, 0, none⟩) (ints (List.replicate 8 0)) := by
  refine blk_rk h fun i x hx => ?_
  match i with
  | 0 | 1 | 2 | 3 | 4 | 5 | 6 | 7 => simpa [ints] using hx
  | i + 8 => simp [ints] at hx

theorem clearrec_ {w : World} {v b n m s : Nat} {d : Dev} {g : Lay} (h : VolIs w v b n m s d g) (hst : d.steps ≤ 1000000000)
    (R : Dev × Option Nat) (hR : putGo false (ints (List.replicate 8 0)) 8 ⟨d, 0, []⟩ = R) :
    Calls Tryz.prog 33 #[.pointer (some ⟨v, 0, none⟩)] w fun e w' => PutIs w b g R e w' := by
  have HV := Lib.hid h
  have HG := Lib.hid (grec_ n m s h.ok)
  obtain ⟨L8, hL8⟩ : ∃ L8, L8 = List.replicate 8 (0 : Nat) := ⟨_, rfl⟩
  have h8 : L8.length = 8 := by rw [hL8]; rfl
  have HZR : Hid (∀ {W : World} {q T : Nat} {fr : Nat × Nat}, W.heap[q]? = some (.cells (Array.replicate 8 (.int .u64 0)) T fr) → Rk .u64 W (some ⟨q, 0, none⟩) (ints L8)) := by rw [hL8]; exact fun h => zeros_rk h
  rw [← hL8] at hR
  have HPT : Hid (∀ {W : World} {A : Option Addr} {c : Nat}, Below w.heap.size w W → Rk .u64 W A (ints L8) → (∀ p, A = some p → w.heap.size ≤ p.block) → Calls Tryz.prog 58 #[.agg #[.pointer (some ⟨b, 0, none⟩)], .int .i64 8, .slice A 8 c, .bool false] W fun e w' => PutIs W b g R e w') := fun {W A c} hw hr hA => by
    have := put_diff (HV.out.below hw).dev hr (fun q hq hm => by have := hA q hq; have := HV.out.dev.lt _ hm; omega) 8 c (by decide) (by rw [ints_length, h8]; decide) hst R hR
    rw [ints_length, h8] at this
    exact this
  have HS1 : Hid (w.drew.cell? ⟨v, 0, none⟩ = some (.pointer (some ⟨b, 0, none⟩)) ∧ w.drew.cell? ⟨v, 1, none⟩ = some (.int .i64 n) ∧ w.drew.cell? ⟨v, 2, none⟩ = some (.int .i64 m) ∧ w.drew.cell? ⟨v, 3, none⟩ = some (.int .i64 s) ∧ Sz v w.drew) := by
    obtain ⟨n0, n1, n2, n3⟩ := h.cells
    exact ⟨n0, n1, n2, n3, ⟨lt_of h.blk⟩⟩
  have hmk : ∀ W : World, (Instr.makeSlice 22 (.int .i64 8) (.int .i64 8)).run Tryz.prog W = .ok (.slice (some ⟨W.heap.size, 0, none⟩) 8 8) (W.alloc (.cells (Array.replicate 8 (.int .u64 0)) 60)) := fun W => by
    obtain ⟨i, hi, hzi, hsz, hby⟩ := info_parts Pk.info_u64
    have hr := run_make (P := Tryz.prog) W 22 60 i (.int .u64 0) Tryz.underlying22 hi hzi .i64 .i64 8 8 (by decide) (by decide) (by rw [hby]; decide) (by decide)
    rw [show (Value.int IntKind.u64 0).cells = #[Value.int IntKind.u64 0] from rfl, hsz, Nat.mul_one, Wl.made_one] at hr
    exact hr
  clear h hst hR hL8 h8
  go_enter Tryz.func33, Tryz.ntmps33
  go_wp2_with fail
  go_region_held3 (fun w' => w'.cell? ⟨v, 0, none⟩ = some (.pointer (some ⟨b, 0, none⟩)) ∧ w'.cell? ⟨v, 1, none⟩ = some (.int .i64 n) ∧ w'.cell? ⟨v, 2, none⟩ = some (.int .i64 m) ∧ w'.cell? ⟨v, 3, none⟩ = some (.int .i64 s) ∧ Sz v w')
    (first | assumption | exact HS1.out | exact vk_keep ‹_› ‹_› | exact vk_keep ‹_› (bl_alloc (Below.refl _ _) _) | exact HS3.out)
    (first | (go_at_call 71; refine (HG.out _).mono ?_; rintro e w2 ⟨rfl, hb2⟩; (have HB2 : Hid (Below w.heap.size w w2) := by first | exact bl_then (w1 := w.drew) (bl_drew (Below.refl _ _)) hb2 | exact bl_then (w1 := w.drew.alloc (.cells (Array.replicate 8 (.int .u64 0)) 60)) (bl_alloc (bl_drew (Below.refl _ _)) _) hb2 | exact bl_then (w1 := (w.alloc (.cells (Array.replicate 8 (.int .u64 0)) 60)).drew) (bl_drew (bl_alloc (Below.refl _ _) _)) hb2)) |
      (go_at_call 58; (first | ((with_reducible refine (HPT.out (bl_alloc HB2.out (.cells (Array.replicate 8 (.int .u64 0)) 60)) ?r1 ?r2).mono ?_); (case r1 => exact HZR.out (alloc_new w2 _)); (case r2 => exact fun p hp => by cases hp; exact HB2.out.size)) | ((with_reducible refine (HPT.out HB2.out ?r1 ?r2).mono ?_); (case r1 => exact HZR.out (T := 60) (fr := (0, 0)) (blk_bl (W := (w.alloc (.cells (Array.replicate 8 (.int .u64 0)) 60)).drew) (show _ = _ from alloc_new w (.cells (Array.replicate 8 (.int .u64 0)) 60)) hb2)); (case r2 => exact fun p hp => by cases hp; exact Nat.le_refl _))); rintro e w3 ⟨rfl, hto⟩; (have HTW : Hid (DevTo w w3 b g R.1) := by first | exact to_behind HB2.out hto | exact to_behind (bl_alloc HB2.out _) hto); (have HS3 : Hid (w3.cell? ⟨v, 0, none⟩ = some (.pointer (some ⟨b, 0, none⟩)) ∧ w3.cell? ⟨v, 1, none⟩ = some (.int .i64 n) ∧ w3.cell? ⟨v, 2, none⟩ = some (.int .i64 m) ∧ w3.cell? ⟨v, 3, none⟩ = some (.int .i64 s) ∧ Sz v w3) := by (obtain ⟨g4, q1, q2, q3⟩ := HTW.out; (have hx := q3.blk HV.out.blk HV.out.apart); exact ⟨cell_of hx 0, cell_of hx 1, cell_of hx 2, cell_of hx 3, ⟨lt_of hx⟩⟩)); clear hto))
  all_goals
    go_wp2
    go_ret2
    exact ⟨rfl, HTW.out⟩

end Go.Proofs.YtichcdoijieddaaGreat.Vo
end
