/- Parts of the proof, one behind the other: Rj, Rk, R9, Rn, Ro. -/
import Derived.Test.YtgnagbbdnlmgeaaGreatL06
import Derived.Deep.QuietTactic
import Derived.BigQuiet
import Derived.Test.YtgnagbbdnlmgeaaGreatL07
set_option linter.unusedVariables false
set_option linter.unusedSimpArgs false
set_option linter.unusedSectionVars false
section
set_option maxHeartbeats 2000000
set_option maxRecDepth 100000
namespace Go.Proofs.YtgnagbbdnlmgeaaGreat.Rj
open Go Go.RowKit
open Ob Ba Oc Pk Su Cc Cr
def fvs (l : List Nat) : List Value := l.flatMap fun (v : Nat) => [Value.int .i64 16, Value.int .u64 (v : Int)]
theorem fvs_at : ∀ (l : List Nat) (i : Nat) v, l[i]? = some v → (fvs l)[i * 2]? = some (.int .i64 16) ∧ (fvs l)[i * 2 + 1]? = some (.int .u64 v)
  | [], i, v, h => by simp at h
  | a :: l, 0, v, h => by simp at h; subst h; simp [fvs]
  | a :: l, i + 1, v, h => by
    rw [List.getElem?_cons_succ] at h
    obtain ⟨h1, h2⟩ := fvs_at l i v h
    have e : fvs (a :: l) = [Value.int .i64 16, Value.int .u64 a] ++ fvs l := rfl
    rw [e]
    rw [List.getElem?_append_right (by simp; omega), List.getElem?_append_right (by simp; omega)]
    rw [show (i + 1) * 2 - ([Value.int .i64 16, Value.int .u64 (a : Int)]).length = i * 2 from by simp; omega, show (i + 1) * 2 + 1 - ([Value.int .i64 16, Value.int .u64 (a : Int)]).length = i * 2 + 1 from by simp; omega]
    exact ⟨h1, h2⟩
def f16s (l : List Nat) : List (Nat × Nat) := l.map fun v => (16, v)
theorem own_fs {W : World} {B T n c : Nat} {A : Option Addr} {l : List Nat} (h : W.ownsRow B T 2 (.slice A n c) n (fvs l)) (ho : ∀ v ∈ l, v < 65536) : FsAt W A (f16s l) := by
  intro i p hp
  simp only [f16s, List.getElem?_map, Option.map_eq_some_iff] at hp
  obtain ⟨v, hv, rfl⟩ := hp
  obtain ⟨k1, k2⟩ := fvs_at l i v hv
  refine ⟨f16 (ho v (List.mem_of_getElem? hv)), ?_⟩
  obtain ⟨h1, ⟨h2, h3⟩ | ⟨g, cap, cur, hvv, hg, hb, hn, hm, hs, ht⟩⟩ := h
  · subst h3; rw [List.getElem?_eq_none (by omega)] at k1; cases k1
  · simp only [Value.slice.injEq, true_and] at hvv
    obtain ⟨rfl, rfl⟩ := hvv
    refine ⟨g, 0, rfl, lt_of hb, ?_, ?_⟩
    · rw [cell_of hb, Nat.zero_add]
      rw [← ht, List.getElem?_take] at k1
      split at k1
      · simpa using k1
      · cases k1
    · rw [cell_of hb, Nat.zero_add]
      rw [← ht, List.getElem?_take] at k2
      split at k2
      · simpa using k2
      · cases k2
theorem two_at (w : World) (u v : Value) (T : TypeId) : ∀ (j : Nat) x, [u, v][j]? = some x → (w.alloc (.cells #[u, v] T)).cell? ((⟨w.heap.size, 0, none⟩ : Addr).add j) = some x := by
  intro j x hj
  match j, hj with
  | 0, hj => simp at hj; subst hj; simp [Addr.add]
  | 1, hj => simp at hj; subst hj; simp [Addr.add]
theorem fields_ {w : World} {A : Option Addr} {l : List Nat} (h : Rk .i64 w A (ints l)) (hl : ∀ v ∈ l, v < 65536) (c : Nat) (hn : l.length ≤ 4) :
    Calls Tryz.prog 169 #[.slice A l.length c] w fun e w' => e = .returned (.int .u64 (pv (f16s l) : Nat)) ∧ Below w.heap.size w w' := by
  have hu := Tryz.underlying215
  have H := Lib.hid h
  have HL := Lib.hid hl
  obtain ⟨n, hnn⟩ : ∃ n, n = l.length := ⟨_, rfl⟩
  rw [← hnn]
  rw [← hnn] at hn
  have HN := Lib.hid hnn
  clear h hl hnn
  obtain ⟨i0, hinf, hz0, hz1, hz2⟩ := info_parts (show (Tryz.prog.info? 215).map (fun i => (i.zero, i.size, i.bytes)) = some (some (.agg #[.int .i64 0, .int .u64 0]), 2, 16) by kernel_rfl)
  go_enter Tryz.func169, Tryz.ntmps169
  go_wp2_with fail
  go_loopw [10, 3] (fun c10 c3 wr => ∃ i : Nat, i ≤ n ∧ c10 = .int .i64 i ∧ Hid (Below w.heap.size w wr ∧ wr.ownsRow w.heap.size 215 2 c3 i (fvs (l.take i)))) (fun c10 _ _ => n - (intOf c10).toNat)
  case atStart => exact ⟨0, Nat.zero_le _, rfl, Below.refl _ _, own_nil0 _ _ _ _⟩
  case round =>
    obtain ⟨i, hi, rfl, HR⟩ := hrel
    by_cases hlt : i < n
    · obtain ⟨x, hx⟩ := some_at (l := l) (i := i) (by rw [← HN.out]; exact hlt)
      obtain ⟨a, rfl, -, ha⟩ := (H.out.below HR.out.1) i x (ints_get hx)
      have hx16 : x < 65536 := HL.out x (List.mem_of_getElem? hx)
      have HX := Lib.hid hx
      have HOW := Lib.hid (fun o => own_kp (W' := wr.alloc o) HR.out.2 (fun k _ hk => Below.heap_alloc _ _ k hk))
      clear hx
      go_wp2_with (at_builtin; refine wpList_append_own _ rfl (.tmp 14) (.tmp 18) 216 rfl w.heap.size 215 i0 (.agg #[.int .i64 0, .int .u64 0]) 2 16 Tryz.underlying216 hinf hz0 hz1 hz2 rfl (by decide) _ i _ rfl (HOW.out _) ⟨wr.heap.size, 0, none⟩ 1 1 [.int .i64 16, .int .u64 x] rfl rfl (two_at _ _ _ _) (by intro u hu; simp at hu; rcases hu with rfl | rfl <;> rfl) (by unfold maxLen; omega) (by omega) (by have h1 := HR.out.1.size; simp; omega) ?_; intro v' w7 hown' hgrow _; (have HO := Lib.hid hown'); (have HG := Lib.hid hgrow); clear hown' hgrow)
      have hx1 : Below w.heap.size w w7 := bl_grown (bl_alloc HR.out.1 _) HG.out (own_lo HR.out.2)
      have hx2 : w7.ownsRow w.heap.size 215 2 v' (i + 1) (fvs (l.take (i + 1))) := by
        rw [take_next HX.out]
        have e : fvs (l.take i ++ [x]) = fvs (l.take i) ++ [.int .i64 16, .int .u64 x] := by rw [fvs, List.flatMap_append]; rfl
        rw [e]
        exact HO.out
      have HZ := Lib.hid (And.intro hx1 hx2)
      clear hx1 hx2
      go_roundw
      case rel => exact ⟨i + 1, by omega, by go_num, HZ.out⟩
      case measure => simp [intOf]; omega
    · obtain rfl : i = n := by omega
      have h2 := HR.out.2
      rw [List.take_of_length_le (by rw [← HN.out]; omega)] at h2
      obtain ⟨A3, c3, rfl⟩ := own_slice h2
      have hpk := pack_ (own_fs h2 HL.out) c3 (by
        have : ∀ l : List Nat, wid (f16s l) = 16 * l.length := by
          intro l
          induction l with
          | nil => rfl
          | cons a l ih => simp only [wid, f16s, List.map_cons, List.sum_cons, List.length_cons] at ih ⊢; omega
        rw [this, ← HN.out]; omega) (by simp only [f16s, List.length_map]; rw [← HN.out]; omega)
      rw [show (f16s l).length = i from by simp only [f16s, List.length_map]; exact HN.out.symm] at hpk
      have HPK := Lib.hid hpk
      clear h2 hpk
      generalize wr = wA at *
      go_wp2_with fail
      refine HPK.out.mono ?_
      rintro e w5 ⟨rfl, hb5⟩
      have HB5 := Lib.hid hb5
      clear hb5
      go_wp2_with fail
      go_ret
      exact ⟨rfl, bl_then HR.out.1 HB5.out⟩
end Go.Proofs.YtgnagbbdnlmgeaaGreat.Rj
end
section
set_option maxHeartbeats 2000000
set_option maxRecDepth 100000
namespace Go.Proofs.YtgnagbbdnlmgeaaGreat.Rj
open Go Go.RowKit
open Ob Ba Oc Pk Su Cc Cr
def bOk (b : Int) : Prop := 0 ≤ b ∧ b < 65534
instance (b : Int) : Decidable (bOk b) := inferInstanceAs (Decidable (_ ∧ _))
theorem block_ (b : Int) (w : World) : Calls Tryz.prog 188 #[.int .i64 b] w fun e w' => e = .returned (.bool (decide (bOk b))) ∧ Below w.heap.size w w' := by
  obtain ⟨r, hr⟩ : ∃ r, r = decide (bOk b) := ⟨_, rfl⟩
  rw [← hr]
  have HR := Lib.hid hr
  clear hr
  have fin : ∀ (W : World) (v : Bool), v = r → Below w.heap.size w W → (Ending.returned (.bool v) = .returned (.bool r) ∧ Below w.heap.size w W) := fun W v h hb => ⟨by rw [h], hb⟩
  go_enter Tryz.func188, Tryz.ntmps188
  by_cases h1 : 0 ≤ b
  · by_cases h2 : b < 65534
    · have hv : true = r := by rw [HR.out]; exact (decide_eq_true ⟨h1, h2⟩).symm
      have HV := Lib.hid hv
      clear hv
      go_wp2
      go_ret
      exact fin _ _ HV.out (Below.refl _ _)
    · have hv : false = r := by rw [HR.out]; exact (decide_eq_false (fun h => h2 h.2)).symm
      have HV := Lib.hid hv
      clear hv
      go_wp2
      go_ret
      exact fin _ _ HV.out (Below.refl _ _)
  · have hv : false = r := by rw [HR.out]; exact (decide_eq_false (fun h => h1 h.1)).symm
    have HV := Lib.hid hv
    clear hv
    go_wp2
    go_ret
    exact fin _ _ HV.out (Below.refl _ _)
def rOk (s f t n : Int) : Prop := bOk s ∧ bOk f ∧ bOk t ∧ 1 ≤ n ∧ n ≤ 65534
instance (s f t n : Int) : Decidable (rOk s f t n) := inferInstanceAs (Decidable (_ ∧ _))
theorem may_ (s f t n : Int) (w : World) : Calls Tryz.prog 168 #[.agg #[.int .i64 s, .int .i64 f, .int .i64 t, .int .i64 n]] w fun e w' => e = .returned (.bool (decide (rOk s f t n))) ∧ Below w.heap.size w w' := by
  have hu := Tryz.underlying70
  obtain ⟨r, hr⟩ : ∃ r, r = decide (rOk s f t n) := ⟨_, rfl⟩
  obtain ⟨b0, hb0⟩ : ∃ r, r = decide (bOk s) := ⟨_, rfl⟩
  obtain ⟨b1, hb1⟩ : ∃ r, r = decide (bOk f) := ⟨_, rfl⟩
  obtain ⟨b2, hb2⟩ : ∃ r, r = decide (bOk t) := ⟨_, rfl⟩
  have hall : decide (rOk s f t n) = (b0 && (b1 && (b2 && (decide (1 ≤ n) && decide (n ≤ 65534))))) := by
    rw [hb0, hb1, hb2]
    by_cases h1 : bOk s <;> by_cases h2 : bOk f <;> by_cases h3 : bOk t <;> by_cases h4 : 1 ≤ n <;> by_cases h5 : n ≤ 65534 <;> simp only [rOk, h1, h2, h3, h4, h5, and_true, and_false, true_and, false_and, decide_true, decide_false, Bool.and_true, Bool.and_false, Bool.true_and, Bool.false_and]
  rw [← hr]
  have HR := Lib.hid (hr.trans hall)
  have H0 := Lib.hid hb0
  have H1 := Lib.hid hb1
  have H2 := Lib.hid hb2
  clear hr hall hb0 hb1 hb2
  go_enter Tryz.func168, Tryz.ntmps168
  go_wp2_with fail
  refine (block_ _ _).mono ?_
  rw [← H0.out]
  rintro e w1 ⟨rfl, hb1⟩
  have hq := blk_bl (alloc_new w (.cells #[.int .i64 s, .int .i64 f, .int .i64 t, .int .i64 n] 70)) hb1
  have k1 := cell_of hq 1
  have k2 := cell_of hq 2
  have k3 := cell_of hq 3
  have HQ := Lib.hid hq
  have HB1 := Lib.hid (bl_then (bl_alloc (Below.refl _ _) _) hb1)
  clear hq hb1
  have fin : ∀ (W : World) (v : Bool), v = r → Below w.heap.size w W → (Ending.returned (.bool v) = .returned (.bool r) ∧ Below w.heap.size w W) := fun W v h hb => ⟨by rw [h], hb⟩
  cases b0
  · go_wp2_with fail
    go_ret
    exact fin _ _ (by rw [HR.out]; rfl) HB1.out
  go_wp2_with fail
  refine (block_ _ _).mono ?_
  rw [← H1.out]
  rintro e w2 ⟨rfl, hb2⟩
  have hq2 := blk_bl HQ.out hb2
  clear k1 k2 k3
  have k2 := cell_of hq2 2
  have k3 := cell_of hq2 3
  have HQ2 := Lib.hid hq2
  have HB2 := Lib.hid (bl_then HB1.out hb2)
  clear hq2 hb2
  cases b1
  · go_wp2_with fail
    go_ret
    exact fin _ _ (by rw [HR.out]; rfl) HB2.out
  go_wp2_with fail
  refine (block_ _ _).mono ?_
  rw [← H2.out]
  rintro e w3 ⟨rfl, hb3⟩
  have hq3 := blk_bl HQ2.out hb3
  clear k2 k3
  have k3 := cell_of hq3 3
  have HB3 := Lib.hid (bl_then HB2.out hb3)
  clear hq3 hb3
  cases b2
  · go_wp2_with fail
    go_ret
    exact fin _ _ (by rw [HR.out]; rfl) HB3.out
  by_cases h1 : 1 ≤ n
  · by_cases h2 : n ≤ 65534
    · have HV : Hid (true = r) := by show _ = _; rw [HR.out]; simp [h1, h2]
      go_wp2_with fail
      go_ret
      exact fin _ _ HV.out HB3.out
    · have HV : Hid (decide (n ≤ 65534) = r) := by show _ = _; rw [HR.out]; simp [h1]
      go_wp2_with fail
      go_ret
      exact fin _ _ HV.out HB3.out
  · have HV : Hid (false = r) := by show _ = _; rw [HR.out]; simp [h1]
    go_wp2_with fail
    go_ret
    exact fin _ _ HV.out HB3.out
theorem encode_no (s f t n : Int) (h : ¬ rOk s f t n) (w : World) : Calls Tryz.prog 130 #[.agg #[.int .i64 s, .int .i64 f, .int .i64 t, .int .i64 n]] w fun e w' => e = .returned (.tuple #[.slice none 0 0, .int .i64 1]) ∧ Below w.heap.size w w' := by
  have hu := Tryz.underlying70
  have HM : Hid (∀ W, Calls Tryz.prog 168 #[.agg #[.int .i64 s, .int .i64 f, .int .i64 t, .int .i64 n]] W fun e w' => e = .returned (.bool false) ∧ Below W.heap.size W w') := by
    intro W
    have := may_ s f t n W
    rw [decide_eq_false h] at this
    exact this
  clear h
  go_enter Tryz.func130, Tryz.ntmps130
  go_wp2_with fail
  refine (HM.out _).mono ?_
  rintro e w1 ⟨rfl, hb⟩
  have HB := Lib.hid (bl_then (bl_alloc (Below.refl _ _) _) hb)
  clear hb
  go_wp2_with fail
  go_ret2
  exact ⟨rfl, HB.out⟩
structure Cx (w : World) (b : Nat) (W : World) : Prop where
  below : Below w.heap.size w W
  lo : w.heap.size < b
  row : ∃ cs, W.heap[b]? = some (.cells cs 94 (0, 0)) ∧ ∀ i, 2 ≤ i → i < 8 → cs[i]? = some (Value.int .u64 0)
theorem cx_set {w W : World} {b : Nat} (h : Cx w b W) (o : Nat) (ho : o < 2) (v : Value) : Cx w b (W.setCell ⟨b, o, none⟩ v) := by
  obtain ⟨h1, h2, cs, h3, h4⟩ := h
  exact ⟨bl_set h1 (by omega) v, h2, _, set_same h3 o v, fun i hi h8 => by rw [Array.getElem?_setIfInBounds_ne (by omega)]; exact h4 i hi h8⟩
theorem cx_below {w W W' : World} {b : Nat} (h : Cx w b W) (hb : Below W.heap.size W W') : Cx w b W' := by
  obtain ⟨h1, h2, cs, h3, h4⟩ := h
  exact ⟨bl_then h1 hb, h2, cs, blk_bl h3 hb, h4⟩
theorem cx_drew {w W : World} {b : Nat} (h : Cx w b W) : Cx w b W.drew := ⟨bl_drew h.below, h.lo, h.row⟩
theorem cx_alloc {w W : World} {b : Nat} (h : Cx w b W) (o : Obj) : Cx w b (W.alloc o) := cx_below h (bl_alloc (Below.refl _ _) o)
theorem cj_of {w W : World} {b : Nat} {s f t n : Int} {T : TypeId} {fr : Nat × Nat} (h : W.heap[w.heap.size]? = some (.cells #[.int .i64 s, .int .i64 f, .int .i64 t, .int .i64 n] T fr)) (hc : Cx w b W) :
    W.cell? ⟨w.heap.size, 0, none⟩ = some (.int .i64 s) ∧ W.cell? ⟨w.heap.size, 1, none⟩ = some (.int .i64 f) ∧ W.cell? ⟨w.heap.size, 2, none⟩ = some (.int .i64 t) ∧ W.cell? ⟨w.heap.size, 3, none⟩ = some (.int .i64 n) ∧ Cx w b W :=
  ⟨by rw [cell_of h]; rfl, by rw [cell_of h]; rfl, by rw [cell_of h]; rfl, by rw [cell_of h]; rfl, hc⟩
theorem cj_drew {w W : World} {b : Nat} {s f t n : Int} (h : W.cell? ⟨w.heap.size, 0, none⟩ = some (.int .i64 s) ∧ W.cell? ⟨w.heap.size, 1, none⟩ = some (.int .i64 f) ∧ W.cell? ⟨w.heap.size, 2, none⟩ = some (.int .i64 t) ∧ W.cell? ⟨w.heap.size, 3, none⟩ = some (.int .i64 n) ∧ Cx w b W) : W.drew.cell? ⟨w.heap.size, 0, none⟩ = some (.int .i64 s) ∧ W.drew.cell? ⟨w.heap.size, 1, none⟩ = some (.int .i64 f) ∧ W.drew.cell? ⟨w.heap.size, 2, none⟩ = some (.int .i64 t) ∧ W.drew.cell? ⟨w.heap.size, 3, none⟩ = some (.int .i64 n) ∧ Cx w b W.drew := ⟨h.1, h.2.1, h.2.2.1, h.2.2.2.1, cx_drew h.2.2.2.2⟩
theorem cj_set {w W : World} {b : Nat} {s f t n : Int} (h : W.cell? ⟨w.heap.size, 0, none⟩ = some (.int .i64 s) ∧ W.cell? ⟨w.heap.size, 1, none⟩ = some (.int .i64 f) ∧ W.cell? ⟨w.heap.size, 2, none⟩ = some (.int .i64 t) ∧ W.cell? ⟨w.heap.size, 3, none⟩ = some (.int .i64 n) ∧ Cx w b W) (o : Nat) (ho : o < 2) (v : Value) :
    (W.setCell ⟨b, o, none⟩ v).cell? ⟨w.heap.size, 0, none⟩ = some (.int .i64 s) ∧ (W.setCell ⟨b, o, none⟩ v).cell? ⟨w.heap.size, 1, none⟩ = some (.int .i64 f) ∧ (W.setCell ⟨b, o, none⟩ v).cell? ⟨w.heap.size, 2, none⟩ = some (.int .i64 t) ∧ (W.setCell ⟨b, o, none⟩ v).cell? ⟨w.heap.size, 3, none⟩ = some (.int .i64 n) ∧ Cx w b (W.setCell ⟨b, o, none⟩ v) := by
  have hc := cx_set h.2.2.2.2 o ho v
  have hlo := h.2.2.2.2.lo
  have hk : ∀ i, (W.setCell ⟨b, o, none⟩ v).cell? ⟨w.heap.size, i, none⟩ = W.cell? ⟨w.heap.size, i, none⟩ := fun i => cell_blk (Below.heap_setCell W _ v w.heap.size (show w.heap.size ≠ b by omega)) i
  exact ⟨by rw [hk]; exact h.1, by rw [hk]; exact h.2.1, by rw [hk]; exact h.2.2.1, by rw [hk]; exact h.2.2.2.1, hc⟩
theorem four_at (s f t : Nat) : ∀ (i : Nat) x, (ints [1, s, f, t])[i]? = some x → (#[Value.int .i64 1, .int .i64 s, .int .i64 f, .int .i64 t] : Array Value)[i]? = some (.int .i64 x) := by
  intro i x h
  match i, h with
  | 0, h => simp [ints] at h; subst h; rfl
  | 1, h => simp [ints] at h; subst h; rfl
  | 2, h => simp [ints] at h; subst h; rfl
  | 3, h => simp [ints] at h; subst h; rfl
  | i + 4, h => simp [ints] at h
theorem encode_yes (s f t n : Nat) (h : rOk s f t n) (w : World) :
    Calls Tryz.prog 130 #[.agg #[.int .i64 s, .int .i64 f, .int .i64 t, .int .i64 n]] w fun e w' => ∃ v, e = .returned (.tuple #[v, .int .i64 0]) ∧ w'.ownsRow w.heap.size 94 1 v 8 (ivs .u64 (ints (line (pv (f16s [1, s, f, t])) n))) ∧ Below w.heap.size w w' := by
  have hu := Tryz.underlying70
  have HM : Hid (∀ W, Calls Tryz.prog 168 #[.agg #[.int .i64 s, .int .i64 f, .int .i64 t, .int .i64 n]] W fun e w' => e = .returned (.bool true) ∧ Below W.heap.size W w') := by
    intro W
    have := may_ s f t n W
    rw [decide_eq_true h] at this
    exact this
  obtain ⟨⟨a0, a1⟩, ⟨a2, a3⟩, ⟨a4, a5⟩, a6, a7⟩ := h
  have HF : Hid (∀ v ∈ [1, s, f, t], v < 65536) := by
    intro v hv
    simp only [List.mem_cons, List.not_mem_nil, or_false] at hv
    rcases hv with rfl | rfl | rfl | rfl <;> omega
  have hz9 : n < 18446744073709551616 := by omega
  have HPL : Hid (pv (f16s [1, s, f, t]) < 18446744073709551616) := by
    have := pv_lt (f16s [1, s, f, t]) (by
      intro p hp
      simp only [f16s, List.mem_map] at hp
      obtain ⟨v, hv, rfl⟩ := hp
      exact f16 (HF.out v hv))
    rw [show wid (f16s [1, s, f, t]) = 64 from rfl] at this
    exact this
  clear a0 a1 a2 a3 a4 a5 a6
  go_enter Tryz.func130, Tryz.ntmps130
  go_wp2_with fail
  refine (HM.out _).mono ?_
  rintro e w1 ⟨rfl, hb⟩
  have hq := blk_bl (alloc_new w (.cells #[.int .i64 s, .int .i64 f, .int .i64 t, .int .i64 n] 70)) hb
  have hlt := lt_of hq
  have HQ := Lib.hid hq
  have HB := Lib.hid (bl_then (bl_alloc (Below.refl _ _) _) hb)
  clear hb hq
  go_wp2_with (at_make; refine Go.Proofs.YtgnagbbdnlmgeaaGreat.Wl.wpl_make rfl _ 22 94 rfl (.int .u64 0) 8 Tryz.underlying22 info_u64 rfl 8 .i64 _ rfl rfl (by decide) (by decide) ?_)
  obtain ⟨w2, hw2⟩ : ∃ w2, w2 = w1.alloc (.cells (Array.replicate 8 (.int .u64 0)) 94) := ⟨_, rfl⟩
  rw [← hw2]
  have hq2 : w2.heap[w.heap.size]? = some (.cells #[.int .i64 s, .int .i64 f, .int .i64 t, .int .i64 n] 70 (0, 0)) := by rw [hw2]; exact alloc_old HQ.out _
  have hl2 : w2.heap[w1.heap.size]? = some (.cells (Array.replicate 8 (.int .u64 0)) 94 (0, 0)) := by rw [hw2]; exact alloc_new _ _
  have hs2 : w2.heap.size = w1.heap.size + 1 := by rw [hw2]; simp
  have HB2 : Hid (Below w.heap.size w w2) := by rw [hw2]; exact bl_alloc HB.out _
  generalize w1.heap.size = b1 at *
  clear hw2
  have k0 := cell_of hq2 0
  have k1 := cell_of hq2 1
  have k2 := cell_of hq2 2
  have k3 := cell_of hq2 3
  have l0 := cell_of hl2 0
  have l1 := cell_of hl2 1
  have f0 := free_of hl2 0
  have f1 := free_of hl2 1
  have HQ2 : Hid (∀ o : Obj, (w2.alloc o).drew.heap[w.heap.size]? = some (.cells #[.int .i64 s, .int .i64 f, .int .i64 t, .int .i64 n] 70 (0, 0))) := fun o => alloc_old hq2 o
  have HL2 : Hid (∀ o : Obj, (w2.alloc o).drew.heap[b1]? = some (.cells (Array.replicate 8 (.int .u64 0)) 94 (0, 0))) := fun o => alloc_old hl2 o
  have hcx : Cx w b1 w2 := ⟨HB2.out, hlt, _, hl2, fun i h2 h8 => by rw [Array.getElem?_replicate]; simp [h8]⟩
  have HST := Lib.hid (cj_of hq2 hcx)
  have HCX := Lib.hid hcx
  have HN2 : Hid (∀ o : Obj, (w2.alloc o).heap[b1 + 1]? = some o) := fun o => by
    have := alloc_new w2 o
    rw [hs2] at this
    exact this
  have HFD : Hid (∀ W : World, W.heap[b1 + 1]? = some (.cells #[.int .i64 1, .int .i64 s, .int .i64 f, .int .i64 t] 3 (0, 0)) → Calls Tryz.prog 169 #[.slice (some ⟨b1 + 1, 0, none⟩) 4 4] W fun e w' => e = .returned (.int .u64 (pv (f16s [1, s, f, t]) : Nat)) ∧ Below W.heap.size W w') := fun W hW => fields_ (l := [1, s, f, t]) (blk_rk hW (four_at s f t)) HF.out 4 (by simp)
  have hwn : IntKind.u64.wrap (n : Int) = (n : Int) := wu64 _ (by omega) (by omega)
  clear hq2 hl2 hcx k0 k1 k2 k3 l0 l1 f0 f1
  go_region_held3 (fun w' => w'.cell? ⟨w.heap.size, 0, none⟩ = some (.int .i64 s) ∧ w'.cell? ⟨w.heap.size, 1, none⟩ = some (.int .i64 f) ∧ w'.cell? ⟨w.heap.size, 2, none⟩ = some (.int .i64 t) ∧ w'.cell? ⟨w.heap.size, 3, none⟩ = some (.int .i64 n) ∧ Cx w b1 w')
    (first | assumption | exact cj_drew HST.out | exact cj_of (HQ2.out _) (cx_drew (cx_alloc HCX.out _)) | exact cj_of Q3.out CX3.out | exact cj_drew (cj_of Q3.out CX3.out) | exact cj_set (cj_of Q3.out CX3.out) 0 (by decide) _ | exact cj_drew (cj_set (cj_of Q3.out CX3.out) 0 (by decide) _) | exact cj_set (cj_set (cj_of Q3.out CX3.out) 0 (by decide) _) 1 (by decide) _ | exact cj_drew (cj_set (cj_set (cj_of Q3.out CX3.out) 0 (by decide) _) 1 (by decide) _))
    ((go_at_call 169; refine (HFD.out _ ?hR).mono ?_; (case hR => exact HN2.out _); rintro e w3 ⟨rfl, hb3⟩; (have Q3 := Lib.hid (blk_bl (HQ2.out _) hb3)); (have CX3 := Lib.hid (cx_below (cx_drew (cx_alloc HCX.out _)) hb3)); (have L3 := Lib.hid (blk_bl (HL2.out _) hb3)); (have l0 := cell_of L3.out 0); (have l1 := cell_of L3.out 1); (have f0 := free_of L3.out 0); (have f1 := free_of L3.out 1); clear hb3))
  obtain ⟨x, hx⟩ : ∃ x, x = pv (f16s [1, s, f, t]) := ⟨_, rfl⟩
  rw [← hx]
  have hx9 : x < 18446744073709551616 := by rw [hx]; exact HPL.out
  have HX := Lib.hid hx
  clear hx
  have hL4 := set_same (set_same L3.out 0 (.int .u64 x)) 1 (.int .u64 n)
  have hr4 := fill_line hL4
  have hr5 := words32_ hr4 (head7_lt (a := x) (b := n) hx9 hz9) 8 (by simp [head7])
  rw [show (head7 x n).length = 7 from rfl] at hr5
  have HR4 := Lib.hid hr5
  have HL4 := Lib.hid hL4
  have HBW := Lib.hid (bl_set (o := 1) (bl_set (o := 0) CX3.out.below (Nat.le_of_lt CX3.out.lo) (.int .u64 x)) (Nat.le_of_lt CX3.out.lo) (.int .u64 n))
  clear hL4 hr4 hr5 l0 l1 f0 f1
  go_wp2_with fail
  refine HR4.out.mono ?_
  rw [sum7_int]
  rintro e w5 ⟨rfl, hb5⟩
  have hL5 := (hb5.block _ (lt_of HL4.out)).trans HL4.out
  have l7 : w5.cell? ⟨b1, 7, none⟩ = some (.int .u64 0) := cell_of hL5 7
  have f7 := free_of hL5 7
  have hs7 := sum7_lt x n
  have HL5 := Lib.hid hL5
  have HB5 := Lib.hid hb5
  clear hL5 hb5
  go_wp2_with fail
  go_ret2
  have hfin := set_same HL5.out 7 (.int .u64 (sum7 x n : Nat))
  rw [← HX.out]
  exact ⟨_, rfl, own_new (q := b1) hfin (Nat.le_of_lt hlt) rfl (by unfold maxLen; omega), bl_set (o := 7) (bl_then HBW.out HB5.out) (Nat.le_of_lt hlt) _⟩
end Go.Proofs.YtgnagbbdnlmgeaaGreat.Rj
end
section
set_option maxHeartbeats 2000000
set_option maxRecDepth 100000
namespace Go.Proofs.YtgnagbbdnlmgeaaGreat.R9
open Go Go.RowKit
open Ob Ba Oc Pk Su Cc Cr Ge Rj
theorem rmay_yes (s f t n : Int) (h : rOk s f t n) (w : World) : Calls Tryz.prog 144 #[.agg #[.int .i64 s, .int .i64 f, .int .i64 t, .int .i64 n]] w fun e w' => e = .returned (.bool true) ∧ Below w.heap.size w w' := by
  have hu := Tryz.underlying74
  obtain ⟨⟨a0, a1⟩, ⟨a2, a3⟩, ⟨a4, a5⟩, a6, a7⟩ := h
  have b1 : s ≤ 65533 := by omega
  have b2 : f ≤ 65533 := by omega
  have b3 : t ≤ 65533 := by omega
  have b4 : 0 < n := by omega
  have b5 : n < 65535 := by omega
  clear a1 a3 a5 a6 a7
  go_enter Tryz.func144, Tryz.ntmps144
  go_wp2
  go_ret
  exact ⟨rfl, bl_alloc (Below.refl _ _) _⟩
theorem rmay_no (s f t n : Int) (h : ¬ rOk s f t n) (w : World) : Calls Tryz.prog 144 #[.agg #[.int .i64 s, .int .i64 f, .int .i64 t, .int .i64 n]] w fun e w' => e = .returned (.bool false) ∧ Below w.heap.size w w' := by
  have hu := Tryz.underlying74
  have hc : s < 0 ∨ (0 ≤ s ∧ 65533 < s) ∨ (0 ≤ s ∧ s ≤ 65533 ∧ f < 0) ∨ (0 ≤ s ∧ s ≤ 65533 ∧ 0 ≤ f ∧ 65533 < f) ∨ (0 ≤ s ∧ s ≤ 65533 ∧ 0 ≤ f ∧ f ≤ 65533 ∧ t < 0) ∨ (0 ≤ s ∧ s ≤ 65533 ∧ 0 ≤ f ∧ f ≤ 65533 ∧ 0 ≤ t ∧ 65533 < t) ∨
      (0 ≤ s ∧ s ≤ 65533 ∧ 0 ≤ f ∧ f ≤ 65533 ∧ 0 ≤ t ∧ t ≤ 65533 ∧ n ≤ 0) ∨ (0 ≤ s ∧ s ≤ 65533 ∧ 0 ≤ f ∧ f ≤ 65533 ∧ 0 ≤ t ∧ t ≤ 65533 ∧ 0 < n ∧ 65535 ≤ n) := by
    unfold rOk bOk at h
    omega
  clear h
  rcases hc with c1 | ⟨c1, c2⟩ | ⟨c1, c2, c3⟩ | ⟨c1, c2, c3, c4⟩ | ⟨c1, c2, c3, c4, c5⟩ | ⟨c1, c2, c3, c4, c5, c6⟩ | ⟨c1, c2, c3, c4, c5, c6, c7⟩ | ⟨c1, c2, c3, c4, c5, c6, c7, c8⟩
  all_goals
    (try have e8 : decide (n < 65535) = false := decide_eq_false (by omega))
    go_enter Tryz.func144, Tryz.ntmps144
    go_wp2
    go_ret
    exact ⟨rfl, bl_alloc (Below.refl _ _) _⟩
theorem renc_ (x y z t : Nat) (h : rOk x y z t) (w : World) :
    Calls Tryz.prog 145 #[.agg #[.int .i64 x, .int .i64 y, .int .i64 z, .int .i64 t]] w fun e w' => ∃ v, e = .returned v ∧ w'.ownsRow w.heap.size 94 1 v 8 (ivs .u64 (ints (line (pv (f16s [1, x, y, z])) t))) ∧ Below w.heap.size w w' := by
  have hu := Tryz.underlying74
  obtain ⟨⟨a0, a1⟩, ⟨a2, a3⟩, ⟨a4, a5⟩, a6, a7⟩ := h
  have hx9 : x < 65536 := by omega
  have hy9 : y < 65536 := by omega
  have hz9 : z < 65536 := by omega
  have ht9 : t < 18446744073709551616 := by omega
  obtain ⟨q, hq⟩ : ∃ q, q = 1 + 65536 * x + 4294967296 * y + 281474976710656 * z := ⟨_, rfl⟩
  have hqp : pv (f16s [1, x, y, z]) = q := by simp [pv, f16s, hq]; omega
  have hq9 : q < 18446744073709551616 := by omega
  have hqi : 1 + 65536 * (x : Int) + 4294967296 * (y : Int) + 281474976710656 * (z : Int) = (q : Int) := by omega
  rw [hqp]
  obtain ⟨i0, hinf, hz0, hz1, hz2⟩ := info_parts info_u64
  clear hq hqp a0 a1 a2 a3 a4 a5 a6
  go_enter Tryz.func145, Tryz.ntmps145
  go_wp2_with fail
  have hrb := rbytes_ (rhead (w := w.alloc (.cells #[.int .i64 x, .int .i64 y, .int .i64 z, .int .i64 t] 74)) q t) (head7_lt hq9 ht9) 7 (by simp [head7])
  rw [show (head7 q t).length = 7 from rfl, World.size_alloc] at hrb
  have HSM : Hid (∀ w, Calls Tryz.prog 161 #[.string (txt (octs (head7 q t)))] w fun e w' => e = .returned (.int .u32 (sum7 q t : Nat)) ∧ w = w') := fun w => rsum32_ (octs_lt _) (by rw [octs_length]; simp [head7]) w
  have hrow : ((w.alloc (.cells #[.int .i64 x, .int .i64 y, .int .i64 z, .int .i64 t] 74)).alloc (.cells #[.int .u64 q, .int .u64 t, .int .u64 0, .int .u64 0, .int .u64 0, .int .u64 0, .int .u64 0] 94)).ownsRow w.heap.size 94 1 (.slice (some ⟨w.heap.size + 1, 0, none⟩) 7 7) 7 (ivs .u64 (ints (head7 q t))) :=
    own_new (k := .u64) (l := ints (head7 q t)) (by have := alloc_new (w.alloc (.cells #[.int .i64 x, .int .i64 y, .int .i64 z, .int .i64 t] 74)) (.cells #[.int .u64 q, .int .u64 t, .int .u64 0, .int .u64 0, .int .u64 0, .int .u64 0, .int .u64 0] 94); rw [World.size_alloc] at this; exact this) (Nat.le_succ _) rfl (by unfold maxLen; omega)
  have HROW := Lib.hid hrow
  have hs9 := sum7_lt q t
  have HBA := Lib.hid (bl_alloc (bl_alloc (Below.refl w.heap.size w) (.cells #[.int .i64 x, .int .i64 y, .int .i64 z, .int .i64 t] 74)) (.cells #[.int .u64 q, .int .u64 t, .int .u64 0, .int .u64 0, .int .u64 0, .int .u64 0, .int .u64 0] 94))
  clear hrow
  generalize txt (octs (head7 q t)) = S at *
  have HSE : Hid (line q t = head7 q t ++ [sum7 q t]) := rfl
  generalize sum7 q t = u at *
  refine hrb.mono ?_
  clear hrb
  rintro e w3 ⟨rfl, hb3⟩
  have hb3' := bl_then HBA.out (show Below ((w.alloc (.cells #[.int .i64 x, .int .i64 y, .int .i64 z, .int .i64 t] 74)).alloc (.cells #[.int .u64 q, .int .u64 t, .int .u64 0, .int .u64 0, .int .u64 0, .int .u64 0, .int .u64 0] 94)).heap.size ((w.alloc (.cells #[.int .i64 x, .int .i64 y, .int .i64 z, .int .i64 t] 74)).alloc (.cells #[.int .u64 q, .int .u64 t, .int .u64 0, .int .u64 0, .int .u64 0, .int .u64 0, .int .u64 0] 94)) w3 from hb3)
  have hrow3 := own_bl HROW.out hb3
  have HB3 := Lib.hid hb3'
  have HOW := Lib.hid (fun o => own_kp (W' := w3.alloc o) hrow3 (fun k _ hk => Below.heap_alloc _ _ k hk))
  have HR3 := Lib.hid hrow3
  clear hb3 hb3' hrow3
  go_wp2_with (first | (go_at_call 161; refine (HSM.out _).mono ?_; rintro e w4 ⟨rfl, rfl⟩) |
    (at_builtin; refine wpList_append_own _ rfl (.tmp 25) (.tmp 30) 22 rfl w.heap.size 94 i0 (.int .u64 0) 1 8 Tryz.underlying22 hinf hz0 hz1 hz2 rfl (by decide) _ 7 _ rfl (HOW.out _) ⟨w3.heap.size, 0, none⟩ 1 1 [.int .u64 u] rfl rfl (one_at _ _ _) (by intro u hu; simp at hu; subst hu; rfl) (by unfold maxLen; omega) (by omega) (by have h1 := HB3.out.size; simp; omega) ?_; intro v' w7 hown' hgrow _; (have HO := Lib.hid hown'); (have HG := Lib.hid hgrow); clear hown' hgrow))
  go_ret
  refine ⟨_, rfl, ?_, bl_grown (bl_alloc HB3.out _) HG.out (own_lo HR3.out)⟩
  rw [HSE.out, ints_append, ivs_append]
  exact HO.out
end Go.Proofs.YtgnagbbdnlmgeaaGreat.R9
end
section
set_option maxHeartbeats 2000000
set_option maxRecDepth 100000
namespace Go.Proofs.YtgnagbbdnlmgeaaGreat.Rj
open Go Go.RowKit
open Ob Ba Oc Pk Su Cc Cr
def mxl (l : List Nat) : Nat := l.foldl max 0
theorem mxl_snoc (l : List Nat) (x : Nat) : mxl (l ++ [x]) = max (mxl l) x := by simp [mxl]
theorem max_ {w : World} {A : Option Addr} {l : List Nat} (h : Rk .u64 w A (ints l)) (hl : ∀ x ∈ l, x < 18446744073709551616) (c : Nat) (h1 : 1 ≤ l.length) (hn : l.length ≤ 1000000) :
    Calls Tryz.prog 143 #[.slice A l.length c] w fun e w' => e = .returned (.int .u64 (mxl l : Nat)) ∧ w' = w := by
  have H := Lib.hid h
  have HL := Lib.hid hl
  obtain ⟨x0, hx0⟩ := some_at (l := l) (i := 0) (by omega)
  obtain ⟨a, rfl, -, ha0⟩ := h 0 x0 (ints_get hx0)
  have ha0 : w.cell? a = some (.int .u64 x0) := ha0
  have hx9 := hl x0 (List.mem_of_getElem? hx0)
  have HX0 : Hid (x0 = mxl (l.take 1)) := by
    show _ = _
    rw [show l.take 1 = [] ++ [x0] from by rw [take_next (i := 0) hx0]; rfl, mxl_snoc]
    simp [mxl]
  obtain ⟨n, hnn⟩ : ∃ n, n = l.length := ⟨_, rfl⟩
  rw [← hnn]
  rw [← hnn] at hn h1
  have HN := Lib.hid hnn
  clear h hl hnn hx0
  go_enter Tryz.func143, Tryz.ntmps143
  go_wp2_with fail
  go_loop [4, 3] (fun c4 c3 => ∃ i x : Nat, 1 ≤ i ∧ i ≤ n ∧ c4 = .int .i64 i ∧ c3 = .int .u64 x ∧ x < 18446744073709551616 ∧ Hid (x = mxl (l.take i))) (fun c4 _ => n - (intOf c4).toNat)
  case atStart => exact ⟨1, x0, Nat.le_refl _, h1, rfl, rfl, hx9, HX0⟩
  case round =>
    obtain ⟨i, x, hi1, hi, rfl, rfl, hx64, HX⟩ := hrel
    by_cases hlt : i < n
    · obtain ⟨y, hy⟩ := some_at (l := l) (i := i) (by rw [← HN.out]; exact hlt)
      have hcy := H.out.at_ (ints_get hy)
      have hy9 := HL.out y (List.mem_of_getElem? hy)
      have HY : Hid (mxl (l.take (i + 1)) = max x y) := by show _ = _; rw [take_next hy, mxl_snoc, HX.out]
      clear hy
      by_cases hxy : x < y
      · go_wp2_with fail
        go_round
        case rel => exact ⟨i + 1, y, by omega, by omega, by go_num, rfl, hy9, by show _ = _; rw [HY.out]; omega⟩
        case measure => simp [intOf]; omega
      · go_wp2_with fail
        go_round
        case rel => exact ⟨i + 1, x, by omega, by omega, by go_num, rfl, hx64, by show _ = _; rw [HY.out]; omega⟩
        case measure => simp [intOf]; omega
    · obtain rfl : i = n := by omega
      go_wp2_with fail
      go_ret
      have h2 := HX.out
      rw [List.take_of_length_le (by rw [← HN.out]; omega)] at h2
      subst h2
      exact ⟨rfl, rfl⟩
end Go.Proofs.YtgnagbbdnlmgeaaGreat.Rj
end
section
set_option maxHeartbeats 2000000
set_option maxRecDepth 100000
namespace Go.Proofs.YtgnagbbdnlmgeaaGreat.Rj
open Go Go.RowKit
open Ob Ba Oc Pk Su Cc Cr
def ok9 (l : List Nat) : Bool := decide (rOk (l.getD 0 0 / 65536 % 65536 : Nat) (l.getD 0 0 / 4294967296 % 65536 : Nat) (l.getD 0 0 / 281474976710656 : Nat) (min (l.getD 1 0) 65535 : Nat)) &&
  decide (line (pv (f16s [1, l.getD 0 0 / 65536 % 65536, l.getD 0 0 / 4294967296 % 65536, l.getD 0 0 / 281474976710656])) (min (l.getD 1 0) 65535) = l)
def st9 (l : List Nat) : Int := if mxl l = 0 then 0 else if ok9 l then 1 else 2
def r9 (l : List Nat) : Int × Int × Int × Int := if mxl l ≠ 0 ∧ ok9 l = true then (((l.getD 0 0 / 65536 % 65536 : Nat) : Int), ((l.getD 0 0 / 4294967296 % 65536 : Nat) : Int), ((l.getD 0 0 / 281474976710656 : Nat) : Int), ((min (l.getD 1 0) 65535 : Nat) : Int)) else (0, 0, 0, 0)
def D9 (l : List Nat) (e : Ending) : Prop := e = .returned (.tuple #[.agg #[.int .i64 (r9 l).1, .int .i64 (r9 l).2.1, .int .i64 (r9 l).2.2.1, .int .i64 (r9 l).2.2.2], .int .i64 (st9 l)])
theorem d9_zero {l : List Nat} (h : mxl l = 0) : D9 l (.returned (.tuple #[.agg #[.int .i64 0, .int .i64 0, .int .i64 0, .int .i64 0], .int .i64 0])) := by unfold D9 r9 st9; rw [if_pos h, if_neg (fun h2 => h2.1 h)]
theorem d9_no {l : List Nat} (h : mxl l ≠ 0) (h2 : ok9 l = false) : D9 l (.returned (.tuple #[.agg #[.int .i64 0, .int .i64 0, .int .i64 0, .int .i64 0], .int .i64 2])) := by unfold D9 r9 st9; rw [if_neg h, if_neg (by rw [h2]; simp), h2, if_neg (by simp)]
theorem d9_yes {l : List Nat} {a b c n : Nat} (h : mxl l ≠ 0) (h2 : ok9 l = true) (ha : a = l.getD 0 0 / 65536 % 65536) (hb : b = l.getD 0 0 / 4294967296 % 65536) (hc : c = l.getD 0 0 / 281474976710656) (hn : n = min (l.getD 1 0) 65535) : D9 l (.returned (.tuple #[.agg #[.int .i64 a, .int .i64 b, .int .i64 c, .int .i64 n], .int .i64 1])) := by
  unfold D9 r9 st9
  rw [if_neg h, if_pos ⟨h, h2⟩, h2, if_pos rfl, ha, hb, hc, hn]
theorem spl4 (x : Nat) (hx : x < 18446744073709551616) : spl x [16, 16, 16, 16] = [x % 65536, x / 65536 % 65536, x / 4294967296 % 65536, x / 281474976710656] := by
  simp only [spl]
  simp
  omega
theorem four_rk (w : World) (q T : Nat) (fr : Nat × Nat) (h : w.heap[q]? = some (.cells #[.int .i64 16, .int .i64 16, .int .i64 16, .int .i64 16] T fr)) : Rk .i64 w (some ⟨q, 0, none⟩) (ints [16, 16, 16, 16]) := by
  refine blk_rk h fun i x hx => ?_
  match i with
  | 0 => simpa [ints] using hx
  | 1 => simpa [ints] using hx
  | 2 => simpa [ints] using hx
  | 3 => simpa [ints] using hx
  | i + 4 => simp [ints] at hx
theorem put4 {W : World} {k T : Nat} {x0 x1 x2 x3 : Value} (h : W.heap[k]? = some (.cells #[x0, x1, x2, x3] T (0, 0))) (y0 y1 y2 y3 : Value) :
    ((((W.setCell ⟨k, 0, none⟩ y0).setCell ⟨k, 1, none⟩ y1).setCell ⟨k, 2, none⟩ y2).setCell ⟨k, 3, none⟩ y3).heap[k]? = some (.cells #[y0, y1, y2, y3] T (0, 0)) := by
  rw [set_same (set_same (set_same (set_same h 0 y0) 1 y1) 2 y2) 3 y3]; rfl
theorem bl_put4 {w W : World} {k : Nat} (h : Below w.heap.size w W) (hk : w.heap.size ≤ k) (y0 y1 y2 y3 : Value) : Below w.heap.size w ((((W.setCell ⟨k, 0, none⟩ y0).setCell ⟨k, 1, none⟩ y1).setCell ⟨k, 2, none⟩ y2).setCell ⟨k, 3, none⟩ y3) := bl_set (bl_set (bl_set (bl_set h hk _) hk _) hk _) hk _
theorem dec_zero {w : World} {A : Option Addr} {l : List Nat} (h : Rk .u64 w A (ints l)) (c : Nat) (hl : l.length = 8) (hlt : ∀ x ∈ l, x < 18446744073709551616) (hz : mxl l = 0) :
    Calls Tryz.prog 91 #[.slice A 8 c] w fun e w' => D9 l e ∧ Below w.heap.size w w' := by
  have hu := Tryz.underlying70
  have hmx := max_ (h.below (bl_alloc (Below.refl _ _) (.cells #[.int .i64 0, .int .i64 0, .int .i64 0, .int .i64 0] 70))) hlt c (by omega) (by omega)
  rw [hl, hz] at hmx
  have HMX := Lib.hid hmx
  have HZ := Lib.hid hz
  have hq1 := Lib.hid (alloc_new w (.cells #[.int .i64 0, .int .i64 0, .int .i64 0, .int .i64 0] 70))
  have l0 := cell_of hq1.out 0
  have l1 := cell_of hq1.out 1
  have l2 := cell_of hq1.out 2
  have l3 := cell_of hq1.out 3
  have f0 := free_of hq1.out 0
  have f1 := free_of hq1.out 1
  have f2 := free_of hq1.out 2
  have f3 := free_of hq1.out 3
  clear h hlt hl hz hmx
  go_enter Tryz.func91, Tryz.ntmps91
  go_wp2_with fail
  refine HMX.out.mono ?_
  rintro e w1 ⟨rfl, rfl⟩
  go_wp2_with fail
  exact bodyPost_ret (res_ct (u := 3) rfl _ _ w.heap.size 70 #[.int .i64 0, .int .i64 0, .int .i64 0, .int .i64 0] (0, 0) _ rfl hq1.out hu rfl (by kernel_rfl)) rfl ⟨d9_zero HZ.out, bl_alloc (Below.refl _ _) _⟩
theorem dec_rest {w : World} {A : Option Addr} {l : List Nat} (h : Rk .u64 w A (ints l)) (c : Nat) (hl : l.length = 8) (hlt : ∀ x ∈ l, x < 18446744073709551616) (hz : mxl l ≠ 0) :
    Calls Tryz.prog 91 #[.slice A 8 c] w fun e w' => D9 l e ∧ Below w.heap.size w w' := by
  have hu := Tryz.underlying70
  have hmx := max_ (h.below (bl_alloc (Below.refl _ _) (.cells #[.int .i64 0, .int .i64 0, .int .i64 0, .int .i64 0] 70))) hlt c (by omega) (by omega)
  obtain ⟨M, hM⟩ : ∃ M, M = mxl l := ⟨_, rfl⟩
  rw [hl, ← hM] at hmx
  have hM0 : (((M : Nat) : Int) == 0) = false := beq_eq_false_iff_ne.2 (by omega)
  have HMX := Lib.hid hmx
  have HZ := Lib.hid hz
  obtain ⟨x, hx0⟩ := some_at (l := l) (i := 0) (by omega)
  obtain ⟨y, hy1⟩ := some_at (l := l) (i := 1) (by omega)
  have hxe : l.getD 0 0 = x := by rw [List.getD_eq_getElem?_getD, hx0]; rfl
  have hye : l.getD 1 0 = y := by rw [List.getD_eq_getElem?_getD, hy1]; rfl
  have hx64 := hlt x (List.mem_of_getElem? hx0)
  have hy64 := hlt y (List.mem_of_getElem? hy1)
  obtain ⟨a0, ha0⟩ : ∃ a0, a0 = x % 65536 := ⟨_, rfl⟩
  obtain ⟨a, ha1⟩ : ∃ a, a = x / 65536 % 65536 := ⟨_, rfl⟩
  obtain ⟨b, hb1⟩ : ∃ b, b = x / 4294967296 % 65536 := ⟨_, rfl⟩
  obtain ⟨d, hd1⟩ : ∃ d, d = x / 281474976710656 := ⟨_, rfl⟩
  obtain ⟨n, hn1⟩ : ∃ n, n = min y 65535 := ⟨_, rfl⟩
  have ha9 : a < 65536 := by omega
  have hb9 : b < 65536 := by omega
  have hd9 : d < 65536 := by omega
  have hn9 : n < 65536 := by omega
  have HF : Hid (a = l.getD 0 0 / 65536 % 65536 ∧ b = l.getD 0 0 / 4294967296 % 65536 ∧ d = l.getD 0 0 / 281474976710656 ∧ n = min (l.getD 1 0) 65535) := ⟨by rw [hxe]; exact ha1, by rw [hxe]; exact hb1, by rw [hxe]; exact hd1, by rw [hye]; exact hn1⟩
  have HOK : Hid (ok9 l = (decide (rOk a b d n) && decide (line (pv (f16s [1, a, b, d])) n = l))) := by
    show _ = _
    unfold ok9
    rw [hxe, hye, ← ha1, ← hb1, ← hd1, ← hn1]
  have H := Lib.hid h
  obtain ⟨ad, rfl, had0, hax⟩ := h 0 x (ints_get hx0)
  obtain ⟨_, e2, -, hby⟩ := h 1 y (ints_get hy1)
  cases e2
  have hax : w.cell? ad = some (.int .u64 x) := hax
  have hby : w.cell? ⟨ad.block, ad.off + 1, none⟩ = some (.int .u64 y) := hby
  have HL := Lib.hid hl
  have hal : ((w.alloc (.cells #[.int .i64 0, .int .i64 0, .int .i64 0, .int .i64 0] 70)).alloc (.cells #[.int .i64 16, .int .i64 16, .int .i64 16, .int .i64 16] 3)).heap[w.heap.size + 1]? = some (.cells #[.int .i64 16, .int .i64 16, .int .i64 16, .int .i64 16] 3 (0, 0)) := by
    have := alloc_new (w.alloc (.cells #[.int .i64 0, .int .i64 0, .int .i64 0, .int .i64 0] 70)) (.cells #[.int .i64 16, .int .i64 16, .int .i64 16, .int .i64 16] 3)
    rw [World.size_alloc] at this
    exact this
  have hsp := split_ (four_rk _ _ _ _ hal) x hx64 4 (by simp) (by decide) (by decide)
  have hne : x / 2 ^ ([16, 16, 16, 16] : List Nat).sum = 0 := by simp; omega
  rw [decide_eq_true hne, spl4 x hx64, ← ha0, ← ha1, ← hb1, ← hd1, show ([16, 16, 16, 16] : List Nat).length = 4 from rfl] at hsp
  have HS := Lib.hid (And.intro hsp hne)
  have HO := Lib.hid (alloc_old (alloc_new w (.cells #[.int .i64 0, .int .i64 0, .int .i64 0, .int .i64 0] 70)) (.cells #[.int .i64 16, .int .i64 16, .int .i64 16, .int .i64 16] 3))
  have hnc : (y ≤ 65535 ∧ n = y) ∨ (65535 < y ∧ n = 65535) := by omega
  clear hsp hal hne h hl hlt hx0 hy1 hxe hye ha1 hb1 hd1 hn1 hM hz hmx ha0
  go_enter Tryz.func91, Tryz.ntmps91
  go_wp2_with fail
  refine HMX.out.mono ?_
  rintro e w1 ⟨rfl, rfl⟩
  go_wp2_with fail
  refine (show Calls _ _ #[.int .u64 x, .slice (some ⟨w.heap.size + 1, 0, none⟩) 4 4] _ _ from HS.out.1).mono ?_
  rintro e w1 ⟨v, rfl, hown, hb1⟩
  replace hown := hown HS.out.2
  obtain ⟨A1, c1, rfl⟩ := own_slice hown
  obtain ⟨g1, rfl, hc0, hf0⟩ := own_at (i := 1) (x := (a : Nat)) hown rfl
  obtain ⟨g2, e2, hc1, hf1⟩ := own_at (i := 2) (x := (b : Nat)) hown rfl
  cases e2
  obtain ⟨g3, e3, hc2, hf2⟩ := own_at (i := 3) (x := (d : Nat)) hown rfl
  cases e3
  obtain ⟨hc, hf⟩ := bcell (bl_then (bl_alloc (bl_alloc (Below.refl _ _) _) _) hb1)
  have hq1 : Hid (w1.heap[w.heap.size]? = some (.cells #[.int .i64 0, .int .i64 0, .int .i64 0, .int .i64 0] 70 (0, 0))) := blk_bl HO.out hb1
  have HQ1 : Hid (Below w.heap.size w w1) := bl_then (bl_alloc (bl_alloc (Below.refl _ _) _) _) hb1
  have hy1 : w1.cell? ⟨ad.block, ad.off + 1, none⟩ = some (.int .u64 y) := by rw [hc _ _ had0]; exact hby
  have hg : g1 < w1.heap.size := by
    have := hc0
    unfold World.cell? at this
    cases hq : w1.heap[g1]? with
    | none => simp [hq] at this
    | some o => exact lt_of hq
  have had : ad.block < w1.heap.size := Nat.lt_of_lt_of_le had0 HQ1.out.size
  have hz1 : w.heap.size < w1.heap.size := lt_of hq1.out
  clear hown hb1 hf0 hf1 hf2 hax hby hc hf
  go_wp2_with fail
  have HND : Hid (((w1.alloc (.cells #[.int .i64 a, .int .i64 b, .int .i64 d, .int .i64 n] 70)).drew).heap[w1.heap.size]? = some (.cells #[.int .i64 a, .int .i64 b, .int .i64 d, .int .i64 n] 70 (0, 0))) := alloc_new w1 _
  rcases hnc with ⟨hny, rfl⟩ | ⟨hny, rfl⟩
  · go_region
    by_cases hgeo : rOk a b d n
    · have hen := encode_yes a b d n hgeo
      have hn8 : (line (pv (f16s [1, a, b, d])) n).length = 8 := rfl
      have HG : Hid (rOk a b d n) := hgeo
      obtain ⟨L6, hL6⟩ : ∃ L6, L6 = line (pv (f16s [1, a, b, d])) n := ⟨_, rfl⟩
      rw [← hL6] at hen hn8 HOK
      have HEN := Lib.hid hen
      clear hgeo hen hL6
      go_wp2_with fail
      refine (HEN.out _).mono ?_
      rintro e w2 ⟨v2, rfl, hown2, hb2⟩
      have hb2' : Below w1.heap.size w1 w2 := bl_then (bl_drew (bl_alloc (Below.refl _ _) _)) hb2
      obtain ⟨A2, c2, rfl⟩ := own_slice hown2
      have hrk2 := (own_rk (k := .u64) hown2).1
      have hlr : Rk .u64 w2 (some ad) (ints l) := H.out.below (bl_then HQ1.out hb2')
      have heq := Go.Proofs.YtgnagbbdnlmgeaaGreat.Pm.equal_any (rk_rd hrk2) (rk_rd hlr) c2 c (by rw [ints_length, hn8]; decide) (by rw [ints_length, HL.out]; decide)
      rw [ints_length, ints_length, hn8, HL.out] at heq
      have HE := Lib.hid heq
      have hgb := blk_bl (W := (w1.alloc (.cells #[.int .i64 a, .int .i64 b, .int .i64 d, .int .i64 n] 70)).drew) HND.out hb2
      have m0 := cell_of hgb 0
      have m1 := cell_of hgb 1
      have m2 := cell_of hgb 2
      have m3 := cell_of hgb 3
      have hq2 := Lib.hid (blk_bl hq1.out hb2')
      have HQ2 := Lib.hid (bl_then HQ1.out hb2')
      have hgl := lt_of hgb
      have l0 := cell_of hq2.out 0
      have l1 := cell_of hq2.out 1
      have l2 := cell_of hq2.out 2
      have l3 := cell_of hq2.out 3
      have f0 := free_of hq2.out 0
      have f1 := free_of hq2.out 1
      have f2 := free_of hq2.out 2
      have f3 := free_of hq2.out 3
      clear hown2 hb2 hb2' hrk2 hlr heq hgb hn8
      go_wp2_with fail
      refine HE.out.mono ?_
      rintro e w3 ⟨rfl, n3, rfl⟩
      by_cases hle : ints L6 = ints l
      · have hle' : L6 = l := ints_inj.1 hle
        rw [decide_eq_true hle]
        have HLE : Hid (ok9 l = true) := by show _ = _; rw [HOK.out, decide_eq_true HG.out, decide_eq_true hle']; rfl
        clear hle hle'
        go_wp2_with fail
        exact bodyPost_ret (res_ct (u := 3) rfl _ _ w.heap.size 70 #[.int .i64 a, .int .i64 b, .int .i64 d, .int .i64 n] (0, 0) _ rfl (put4 hq2.out _ _ _ _) hu rfl (by kernel_rfl)) rfl ⟨d9_yes HZ.out HLE.out HF.out.1 HF.out.2.1 HF.out.2.2.1 HF.out.2.2.2, bl_put4 (bl_drewN HQ2.out _) (Nat.le_refl _) _ _ _ _⟩
      · rw [decide_eq_false hle]
        have HLE : Hid (ok9 l = false) := by show _ = _; rw [HOK.out, decide_eq_false (p := L6 = l) (fun h => hle (by rw [h]))]; simp
        clear hle
        go_wp2_with fail
        exact bodyPost_ret (res_ct (u := 3) rfl _ _ w.heap.size 70 #[.int .i64 0, .int .i64 0, .int .i64 0, .int .i64 0] (0, 0) _ rfl (put4 hq2.out _ _ _ _) hu rfl (by kernel_rfl)) rfl ⟨d9_no HZ.out HLE.out, bl_put4 (bl_drewN HQ2.out _) (Nat.le_refl _) _ _ _ _⟩
    · have HLE : Hid (ok9 l = false) := by show _ = _; rw [HOK.out, decide_eq_false hgeo]; rfl
      have HEN := Lib.hid (encode_no a b d n hgeo)
      clear hgeo
      go_wp2_with fail
      refine (HEN.out _).mono ?_
      rintro e w2 ⟨rfl, hb2⟩
      have hb2' : Below w1.heap.size w1 w2 := bl_then (bl_drew (bl_alloc (Below.refl _ _) _)) hb2
      have hq2 := Lib.hid (blk_bl hq1.out hb2')
      have HQ2 := Lib.hid (bl_then HQ1.out hb2')
      have l0 := cell_of hq2.out 0
      have l1 := cell_of hq2.out 1
      have l2 := cell_of hq2.out 2
      have l3 := cell_of hq2.out 3
      have f0 := free_of hq2.out 0
      have f1 := free_of hq2.out 1
      have f2 := free_of hq2.out 2
      have f3 := free_of hq2.out 3
      clear hb2 hb2'
      go_wp2_with fail
      exact bodyPost_ret (res_ct (u := 3) rfl _ _ w.heap.size 70 #[.int .i64 0, .int .i64 0, .int .i64 0, .int .i64 0] (0, 0) _ rfl (put4 hq2.out _ _ _ _) hu rfl (by kernel_rfl)) rfl ⟨d9_no HZ.out HLE.out, bl_put4 HQ2.out (Nat.le_refl _) _ _ _ _⟩
  · have hgeo : ¬ rOk a b d ((65535 : Nat) : Int) := fun h => by have := h.2.2.2.2; omega
    have hgeo2 : ¬ rOk a b d (65535 : Int) := fun h => by have := h.2.2.2.2; omega
    have HLE : Hid (ok9 l = false) := by show _ = _; rw [HOK.out, decide_eq_false hgeo]; rfl
    have HEN := Lib.hid (encode_no a b d 65535 hgeo2)
    clear hgeo hgeo2 hn9 HND HF HOK
    go_region
    go_wp2_with fail
    refine (HEN.out _).mono ?_
    rintro e w2 ⟨rfl, hb2⟩
    have hb2' : Below w1.heap.size w1 w2 := bl_then (bl_drew (bl_alloc (Below.refl _ _) _)) hb2
    have hq2 := Lib.hid (blk_bl hq1.out hb2')
    have HQ2 := Lib.hid (bl_then HQ1.out hb2')
    have l0 := cell_of hq2.out 0
    have l1 := cell_of hq2.out 1
    have l2 := cell_of hq2.out 2
    have l3 := cell_of hq2.out 3
    have f0 := free_of hq2.out 0
    have f1 := free_of hq2.out 1
    have f2 := free_of hq2.out 2
    have f3 := free_of hq2.out 3
    clear hb2 hb2'
    go_wp2_with fail
    exact bodyPost_ret (res_ct (u := 3) rfl _ _ w.heap.size 70 #[.int .i64 0, .int .i64 0, .int .i64 0, .int .i64 0] (0, 0) _ rfl (put4 hq2.out _ _ _ _) hu rfl (by kernel_rfl)) rfl ⟨d9_no HZ.out HLE.out, bl_put4 HQ2.out (Nat.le_refl _) _ _ _ _⟩
theorem decode_ {w : World} {A : Option Addr} {l : List Nat} (h : Rk .u64 w A (ints l)) (c : Nat) (hl : l.length = 8) (hlt : ∀ x ∈ l, x < 18446744073709551616) :
    Calls Tryz.prog 91 #[.slice A 8 c] w fun e w' => D9 l e ∧ Below w.heap.size w w' := by
  by_cases hz : mxl l = 0
  · exact dec_zero h c hl hlt hz
  · exact dec_rest h c hl hlt hz
end Go.Proofs.YtgnagbbdnlmgeaaGreat.Rj
end
