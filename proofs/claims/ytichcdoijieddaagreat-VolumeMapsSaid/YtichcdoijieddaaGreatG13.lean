/- Parts of the proof, one behind the other: Lp, Lw, Rj, Rk, Lq, Lr, Ri, Ls, Vt, Az, Vg. -/
import Derived.Test.YtichcdoijieddaaGreatG12
import Derived.Test.YtichcdoijieddaaGreatG10
import Derived.Test.YtichcdoijieddaaGreatG04
import Derived.Deep.QuietTactic
import Derived.BigQuiet
import Derived.Test.YtichcdoijieddaaGreatG11
import Derived.Test.YtichcdoijieddaaGreatG01
import Derived.Lib.AppendZerosOnto
import Derived.Test.YtichcdoijieddaaGreatG03

/- The sixth chapter's example. -/
section
set_option linter.unusedVariables false
set_option linter.unusedSimpArgs false
set_option maxHeartbeats 2000000
set_option maxRecDepth 100000
namespace Go.Proofs.YtichcdoijieddaaGreat.Li
open Go Go.RowKit
open Go.Proofs.YtichcdoijieddaaGreat.Ob Go.Proofs.YtichcdoijieddaaGreat.Ba Go.Proofs.YtichcdoijieddaaGreat.Oc Go.Proofs.YtichcdoijieddaaGreat.Pk

theorem lives06 (w : World) : Calls Tryz.prog 47 #[] w fun e w' => e = .returned (.bool true) ∧ Below w.heap.size w w' := by
  have hen := In.encode_file 1 3 5 2 (by decide) ⟨.inl rfl, by decide, by decide, by decide, by decide, by decide, .inl rfl⟩ w
  have hl0 : (ints (Su.line (1 + 65536 * 3) 5))[0]? = some 196609 := by decide
  have HL := Lib.hid hl0
  generalize Su.line (1 + 65536 * 3) 5 = l at *
  have HE := Lib.hid hen
  clear hen hl0
  go_enter Tryz.func47, Tryz.ntmps47
  go_wp2_with (first | (go_at_call 57; refine (show Calls _ _ #[.agg #[.int .i64 1, .int .i64 2, .int .i64 5]] _ _ from HE.out).mono ?_; rintro e w1 ⟨v, rfl, hown, hb1⟩; (obtain ⟨A1, c1, rfl⟩ := own_slice hown); (obtain ⟨q1, rfl, -, -⟩ := own_at hown HL.out); (have HO := Lib.hid hown); (have HB1 := Lib.hid hb1); clear hb1 hown) |
    (go_at_call 93; refine (lives02 _).mono ?_; rintro e w3 ⟨rfl, hb3⟩; (have HB3 := Lib.hid hb3); clear hb3) |
    (go_at_call 94; refine (lives03 _).mono ?_; rintro e w4 ⟨rfl, hb4⟩; (have HB4 := Lib.hid (bl_then HB3.out hb4)); clear hb4; (obtain ⟨_, e5, hc5, -⟩ := own_at (own_bl HO.out HB4.out) HL.out); cases e5))
  go_ret
  exact ⟨rfl, bl_then HB1.out HB4.out⟩

end Go.Proofs.YtichcdoijieddaaGreat.Li
end

/- The seventh chapter's example. -/
section
set_option linter.unusedVariables false
set_option linter.unusedSimpArgs false
set_option maxHeartbeats 2000000
set_option maxRecDepth 100000
namespace Go.Proofs.YtichcdoijieddaaGreat.Li
open Go Go.RowKit
open Go.Proofs.YtichcdoijieddaaGreat.Ob Go.Proofs.YtichcdoijieddaaGreat.Ba Go.Proofs.YtichcdoijieddaaGreat.Oc

theorem lives07 (w : World) : Calls Tryz.prog 48 #[] w fun e w' => e = .returned (.bool true) ∧ Below w.heap.size w w' := by
  have HE := Lib.hid (Lo.encode_yes 1 2 3 (by decide) w)
  have hx : bits .and .u64 ((Lo.sEnc 1 2 3 : Nat) : Int) 281474976710655 = 12885032961 := by decide
  generalize Lo.sEnc 1 2 3 = x at *
  go_enter Tryz.func48, Tryz.ntmps48
  go_wp2_with (first | (go_at_call 96; refine HE.out.mono ?_; rintro e w1 ⟨rfl, hb1⟩; (have HB1 := Lib.hid hb1); clear hb1) |
    (go_at_call 93; refine (lives02 _).mono ?_; rintro e w2 ⟨rfl, hb2⟩; (have HB2 := Lib.hid hb2); clear hb2) |
    (go_at_call 94; refine (lives03 _).mono ?_; rintro e w3 ⟨rfl, hb3⟩; (have HB3 := Lib.hid hb3); clear hb3))
  go_ret
  exact ⟨rfl, bl_then (bl_then HB1.out HB2.out) HB3.out⟩

end Go.Proofs.YtichcdoijieddaaGreat.Li
end

/- package record: numbers of 16 bits each in a word. -/
section
set_option linter.unusedVariables false
set_option linter.unusedSimpArgs false
set_option maxHeartbeats 2000000
set_option maxRecDepth 100000
namespace Go.Proofs.YtichcdoijieddaaGreat.Rj
open Go Go.RowKit
open Go.Proofs.YtichcdoijieddaaGreat.Ob Go.Proofs.YtichcdoijieddaaGreat.Ba Go.Proofs.YtichcdoijieddaaGreat.Oc Go.Proofs.YtichcdoijieddaaGreat.Pk Go.Proofs.YtichcdoijieddaaGreat.Su Go.Proofs.YtichcdoijieddaaGreat.Cc Go.Proofs.YtichcdoijieddaaGreat.Cr

/-- fields' cells -/
def fvs (l : List Nat) : List Value := l.flatMap fun (v : Nat) => [Value.int .i64 16, Value.int .u64 (v : Int)]
theorem fvs_len (l : List Nat) : (fvs l).length = l.length * 2 := by
  induction l with
  | nil => rfl
  | cons a l ih => simp only [fvs, List.flatMap_cons, List.length_append, List.length_cons, List.length_nil] at ih ⊢; omega
theorem fvs_at : ∀ (l : List Nat) (i : Nat) v, l[i]? = some v → (fvs l)[i * 2]? = some (.int .i64 16) ∧ (fvs l)[i * 2 + 1]? = some (.int .u64 v)
  | [], i, v, h => by simp at h
  | a :: l, 0, v, h => by simp at h; subst h; simp [fvs]
  | a :: l, i + 1, v, h => by
    rw [List.getElem?_cons_succ] at h
    obtain ⟨h1, h2⟩ := fvs_at l i v h
    have e : fvs (a :: l) = [Value.int .i64 16, Value.int .u64 a] ++ fvs l := rfl
    rw [e]
    rw [List.getElem?_append_right (by simp; omega), List.getElem?_append_right (by simp; omega)]
    rw [show (i + 1) * 2 - ([Value.int .i64 16, Value.int .u64 (a : Int)]).length = i * 2 from by simp; omega, show (i + 1) * 2 + 1 - ([Value.int .i64 16, Value.int .u64 (a : Int)]).length = i * 2 + 1 from by simp; omega]
    exact ⟨h1, h2⟩

def f16s (l : List Nat) : List (Nat × Nat) := l.map fun v => (16, v)

theorem own_fs {W : World} {B T n c : Nat} {A : Option Addr} {l : List Nat} (h : W.ownsRow B T 2 (.slice A n c) n (fvs l)) (ho : ∀ v ∈ l, v < 65536) : FsAt W A (f16s l) := by
  intro i p hp
  simp only [f16s, List.getElem?_map, Option.map_eq_some_iff] at hp
  obtain ⟨v, hv, rfl⟩ := hp
  obtain ⟨k1, k2⟩ := fvs_at l i v hv
  refine ⟨f16 (ho v (List.mem_of_getElem? hv)), ?_⟩
  obtain ⟨h1, ⟨h2, h3⟩ | ⟨g, cap, cur, hvv, hg, hb, hn, hm, hs, ht⟩⟩ := h
  · subst h3; rw [List.getElem?_eq_none (by omega)] at k1; cases k1
  · simp only [Value.slice.injEq, true_and] at hvv
    obtain ⟨rfl, rfl⟩ := hvv
    refine ⟨g, 0, rfl, lt_of hb, ?_, ?_⟩
    · rw [cell_of hb, Nat.zero_add]
      rw [← ht, List.getElem?_take] at k1
      split at k1
      · simpa using k1
      · cases k1
    · rw [cell_of hb, Nat.zero_add]
      rw [← ht, List.getElem?_take] at k2
      split at k2
      · simpa using k2
      · cases k2

theorem two_at (w : World) (u v : Value) (T : TypeId) : ∀ (j : Nat) x, [u, v][j]? = some x → (w.alloc (.cells #[u, v] T)).cell? ((⟨w.heap.size, 0, none⟩ : Addr).add j) = some x := by
  intro j x hj
  match j, hj with
  | 0, hj => simp at hj; subst hj; simp [Addr.add]
  | 1, hj => simp at hj; subst hj; simp [Addr.add]

theorem fields_ {w : World} {A : Option Addr} {l : List Nat} (h : Rk .i64 w A (ints l)) (hl : ∀ v ∈ l, v < 65536) (c : Nat) (hn : l.length ≤ 4) :
    Calls Tryz.prog 109 #[.slice A l.length c] w fun e w' => e = .returned (.int .u64 (pv (f16s l) : Nat)) ∧ Below w.heap.size w w' := by
  have hu := Tryz.underlying163
  have H := Lib.hid h
  have HL := Lib.hid hl
  obtain ⟨n, hnn⟩ : ∃ n, n = l.length := ⟨_, rfl⟩
  rw [← hnn]
  rw [← hnn] at hn
  have HN := Lib.hid hnn
  clear h hl hnn
  obtain ⟨i0, hinf, hz0, hz1, hz2⟩ := info_parts (show (Tryz.prog.info? 163).map (fun i => (i.zero, i.size, i.bytes)) = some (some (.agg #[.int .i64 0, .int .u64 0]), 2, 16) by kernel_rfl)
  go_enter Tryz.func109, Tryz.ntmps109
  go_wp2_with fail
  go_loopw [10, 3] (fun c10 c3 wr => ∃ i : Nat, i ≤ n ∧ c10 = .int .i64 i ∧ Hid (Below w.heap.size w wr ∧ wr.ownsRow w.heap.size 163 2 c3 i (fvs (l.take i)))) (fun c10 _ _ => n - (intOf c10).toNat)
  case atStart => exact ⟨0, Nat.zero_le _, rfl, Below.refl _ _, own_nil0 _ _ _ _⟩
  case round =>
    obtain ⟨i, hi, rfl, HR⟩ := hrel
    by_cases hlt : i < n
    · obtain ⟨x, hx⟩ := some_at (l := l) (i := i) (by rw [← HN.out]; exact hlt)
      obtain ⟨a, rfl, -, ha⟩ := (H.out.below HR.out.1) i x (ints_get hx)
      have hx16 : x < 65536 := HL.out x (List.mem_of_getElem? hx)
      have HX := Lib.hid hx
      have HOW := Lib.hid (fun o => own_kp (W' := wr.alloc o) HR.out.2 (fun k _ hk => Below.heap_alloc _ _ k hk))
      clear hx
      go_wp2_with (at_builtin; refine wpList_append_own _ rfl (.tmp 14) (.tmp 18) 180 rfl w.heap.size 163 i0 (.agg #[.int .i64 0, .int .u64 0]) 2 16 Tryz.underlying180 hinf hz0 hz1 hz2 rfl (by decide) _ i _ rfl (HOW.out _) ⟨wr.heap.size, 0, none⟩ 1 1 [.int .i64 16, .int .u64 x] rfl rfl (two_at _ _ _ _) (by intro u hu; simp at hu; rcases hu with rfl | rfl <;> rfl) (by unfold maxLen; omega) (by omega) (by have h1 := HR.out.1.size; simp; omega) ?_; intro v' w7 hown' hgrow _; (have HO := Lib.hid hown'); (have HG := Lib.hid hgrow); clear hown' hgrow)
      have hx1 : Below w.heap.size w w7 := bl_grown (bl_alloc HR.out.1 _) HG.out (own_lo HR.out.2)
      have hx2 : w7.ownsRow w.heap.size 163 2 v' (i + 1) (fvs (l.take (i + 1))) := by
        rw [take_next HX.out]
        have e : fvs (l.take i ++ [x]) = fvs (l.take i) ++ [.int .i64 16, .int .u64 x] := by rw [fvs, List.flatMap_append]; rfl
        rw [e]
        exact HO.out
      have HZ := Lib.hid (And.intro hx1 hx2)
      clear hx1 hx2
      go_roundw
      case rel => exact ⟨i + 1, by omega, by go_num, HZ.out⟩
      case measure => simp [intOf]; omega
    · obtain rfl : i = n := by omega
      have h2 := HR.out.2
      rw [List.take_of_length_le (by rw [← HN.out]; omega)] at h2
      obtain ⟨A3, c3, rfl⟩ := own_slice h2
      have hpk := pack_ (own_fs h2 HL.out) c3 (by
        have : ∀ l : List Nat, wid (f16s l) = 16 * l.length := by
          intro l
          induction l with
          | nil => rfl
          | cons a l ih => simp only [wid, f16s, List.map_cons, List.sum_cons, List.length_cons] at ih ⊢; omega
        rw [this, ← HN.out]; omega) (by simp only [f16s, List.length_map]; rw [← HN.out]; omega)
      rw [show (f16s l).length = i from by simp only [f16s, List.length_map]; exact HN.out.symm] at hpk
      have HPK := Lib.hid hpk
      clear h2 hpk
      generalize wr = wA at *
      go_wp2_with fail
      refine HPK.out.mono ?_
      rintro e w5 ⟨rfl, hb5⟩
      have HB5 := Lib.hid hb5
      clear hb5
      go_wp2_with fail
      go_ret
      exact ⟨rfl, bl_then HR.out.1 HB5.out⟩

end Go.Proofs.YtichcdoijieddaaGreat.Rj
end

/- package record: what may be, and its line. -/
section
set_option linter.unusedVariables false
set_option linter.unusedSimpArgs false
set_option maxHeartbeats 2000000
set_option maxRecDepth 100000
namespace Go.Proofs.YtichcdoijieddaaGreat.Rj
open Go Go.RowKit
open Go.Proofs.YtichcdoijieddaaGreat.Ob Go.Proofs.YtichcdoijieddaaGreat.Ba Go.Proofs.YtichcdoijieddaaGreat.Oc Go.Proofs.YtichcdoijieddaaGreat.Pk Go.Proofs.YtichcdoijieddaaGreat.Su Go.Proofs.YtichcdoijieddaaGreat.Cc Go.Proofs.YtichcdoijieddaaGreat.Cr

def bOk (b : Int) : Prop := 0 ≤ b ∧ b < 65534
instance (b : Int) : Decidable (bOk b) := inferInstanceAs (Decidable (_ ∧ _))

theorem block_ (b : Int) (w : World) : Calls Tryz.prog 133 #[.int .i64 b] w fun e w' => e = .returned (.bool (decide (bOk b))) ∧ Below w.heap.size w w' := by
  obtain ⟨r, hr⟩ : ∃ r, r = decide (bOk b) := ⟨_, rfl⟩
  rw [← hr]
  have HR := Lib.hid hr
  clear hr
  have fin : ∀ (W : World) (v : Bool), v = r → Below w.heap.size w W → (Ending.returned (.bool v) = .returned (.bool r) ∧ Below w.heap.size w W) := fun W v h hb => ⟨by rw [h], hb⟩
  go_enter Tryz.func133, Tryz.ntmps133
  by_cases h1 : 0 ≤ b
  · by_cases h2 : b < 65534
    · have hv : true = r := by rw [HR.out]; exact (decide_eq_true ⟨h1, h2⟩).symm
      have HV := Lib.hid hv
      clear hv
      go_wp2
      go_ret
      exact fin _ _ HV.out (Below.refl _ _)
    · have hv : false = r := by rw [HR.out]; exact (decide_eq_false (fun h => h2 h.2)).symm
      have HV := Lib.hid hv
      clear hv
      go_wp2
      go_ret
      exact fin _ _ HV.out (Below.refl _ _)
  · have hv : false = r := by rw [HR.out]; exact (decide_eq_false (fun h => h1 h.1)).symm
    have HV := Lib.hid hv
    clear hv
    go_wp2
    go_ret
    exact fin _ _ HV.out (Below.refl _ _)

def rOk (s f t n : Int) : Prop := bOk s ∧ bOk f ∧ bOk t ∧ 1 ≤ n ∧ n ≤ 65534
instance (s f t n : Int) : Decidable (rOk s f t n) := inferInstanceAs (Decidable (_ ∧ _))

theorem may_ (s f t n : Int) (w : World) : Calls Tryz.prog 108 #[.agg #[.int .i64 s, .int .i64 f, .int .i64 t, .int .i64 n]] w fun e w' => e = .returned (.bool (decide (rOk s f t n))) ∧ Below w.heap.size w w' := by
  have hu := Tryz.underlying50
  obtain ⟨r, hr⟩ : ∃ r, r = decide (rOk s f t n) := ⟨_, rfl⟩
  obtain ⟨b0, hb0⟩ : ∃ r, r = decide (bOk s) := ⟨_, rfl⟩
  obtain ⟨b1, hb1⟩ : ∃ r, r = decide (bOk f) := ⟨_, rfl⟩
  obtain ⟨b2, hb2⟩ : ∃ r, r = decide (bOk t) := ⟨_, rfl⟩
  have hall : decide (rOk s f t n) = (b0 && (b1 && (b2 && (decide (1 ≤ n) && decide (n ≤ 65534))))) := by
    rw [hb0, hb1, hb2]
    by_cases h1 : bOk s <;> by_cases h2 : bOk f <;> by_cases h3 : bOk t <;> by_cases h4 : 1 ≤ n <;> by_cases h5 : n ≤ 65534 <;> simp only [rOk, h1, h2, h3, h4, h5, and_true, and_false, true_and, false_and, decide_true, decide_false, Bool.and_true, Bool.and_false, Bool.true_and, Bool.false_and]
  rw [← hr]
  have HR := Lib.hid (hr.trans hall)
  have H0 := Lib.hid hb0
  have H1 := Lib.hid hb1
  have H2 := Lib.hid hb2
  clear hr hall hb0 hb1 hb2
  go_enter Tryz.func108, Tryz.ntmps108
  go_wp2_with fail
  refine (block_ _ _).mono ?_
  rw [← H0.out]
  rintro e w1 ⟨rfl, hb1⟩
  have hq := blk_bl (alloc_new w (.cells #[.int .i64 s, .int .i64 f, .int .i64 t, .int .i64 n] 50)) hb1
  have k1 := cell_of hq 1
  have k2 := cell_of hq 2
  have k3 := cell_of hq 3
  have HQ := Lib.hid hq
  have HB1 := Lib.hid (bl_then (bl_alloc (Below.refl _ _) _) hb1)
  clear hq hb1
  have fin : ∀ (W : World) (v : Bool), v = r → Below w.heap.size w W → (Ending.returned (.bool v) = .returned (.bool r) ∧ Below w.heap.size w W) := fun W v h hb => ⟨by rw [h], hb⟩
  cases b0
  · go_wp2_with fail
    go_ret
    exact fin _ _ (by rw [HR.out]; rfl) HB1.out
  go_wp2_with fail
  refine (block_ _ _).mono ?_
  rw [← H1.out]
  rintro e w2 ⟨rfl, hb2⟩
  have hq2 := blk_bl HQ.out hb2
  clear k1 k2 k3
  have k2 := cell_of hq2 2
  have k3 := cell_of hq2 3
  have HQ2 := Lib.hid hq2
  have HB2 := Lib.hid (bl_then HB1.out hb2)
  clear hq2 hb2
  cases b1
  · go_wp2_with fail
    go_ret
    exact fin _ _ (by rw [HR.out]; rfl) HB2.out
  go_wp2_with fail
  refine (block_ _ _).mono ?_
  rw [← H2.out]
  rintro e w3 ⟨rfl, hb3⟩
  have hq3 := blk_bl HQ2.out hb3
  clear k2 k3
  have k3 := cell_of hq3 3
  have HB3 := Lib.hid (bl_then HB2.out hb3)
  clear hq3 hb3
  cases b2
  · go_wp2_with fail
    go_ret
    exact fin _ _ (by rw [HR.out]; rfl) HB3.out
  by_cases h1 : 1 ≤ n
  · by_cases h2 : n ≤ 65534
    · have HV : Hid (true = r) := by show _ = _; rw [HR.out]; simp [h1, h2]
      go_wp2_with fail
      go_ret
      exact fin _ _ HV.out HB3.out
    · have HV : Hid (decide (n ≤ 65534) = r) := by show _ = _; rw [HR.out]; simp [h1]
      go_wp2_with fail
      go_ret
      exact fin _ _ HV.out HB3.out
  · have HV : Hid (false = r) := by show _ = _; rw [HR.out]; simp [h1]
    go_wp2_with fail
    go_ret
    exact fin _ _ HV.out HB3.out

theorem encode_no (s f t n : Int) (h : ¬ rOk s f t n) (w : World) : Calls Tryz.prog 70 #[.agg #[.int .i64 s, .int .i64 f, .int .i64 t, .int .i64 n]] w fun e w' => e = .returned (.tuple #[.slice none 0 0, .int .i64 1]) ∧ Below w.heap.size w w' := by
  have hu := Tryz.underlying50
  have HM : Hid (∀ W, Calls Tryz.prog 108 #[.agg #[.int .i64 s, .int .i64 f, .int .i64 t, .int .i64 n]] W fun e w' => e = .returned (.bool false) ∧ Below W.heap.size W w') := by
    intro W
    have := may_ s f t n W
    rw [decide_eq_false h] at this
    exact this
  clear h
  go_enter Tryz.func70, Tryz.ntmps70
  go_wp2_with fail
  refine (HM.out _).mono ?_
  rintro e w1 ⟨rfl, hb⟩
  have HB := Lib.hid (bl_then (bl_alloc (Below.refl _ _) _) hb)
  clear hb
  go_wp2_with fail
  go_ret2
  exact ⟨rfl, HB.out⟩

/-- the record's box, its line (two words not said yet), all else as it was -/
structure Cx (w : World) (b : Nat) (W : World) : Prop where
  below : Below w.heap.size w W
  lo : w.heap.size < b
  row : ∃ cs, W.heap[b]? = some (.cells cs 60 (0, 0)) ∧ ∀ i, 2 ≤ i → i < 8 → cs[i]? = some (Value.int .u64 0)
theorem cx_set {w W : World} {b : Nat} (h : Cx w b W) (o : Nat) (ho : o < 2) (v : Value) : Cx w b (W.setCell ⟨b, o, none⟩ v) := by
  obtain ⟨h1, h2, cs, h3, h4⟩ := h
  exact ⟨bl_set h1 (by omega) v, h2, _, set_same h3 o v, fun i hi h8 => by rw [Array.getElem?_setIfInBounds_ne (by omega)]; exact h4 i hi h8⟩
theorem cx_below {w W W' : World} {b : Nat} (h : Cx w b W) (hb : Below W.heap.size W W') : Cx w b W' := by
  obtain ⟨h1, h2, cs, h3, h4⟩ := h
  exact ⟨bl_then h1 hb, h2, cs, blk_bl h3 hb, h4⟩
theorem cx_drew {w W : World} {b : Nat} (h : Cx w b W) : Cx w b W.drew := ⟨bl_drew h.below, h.lo, h.row⟩
theorem cx_alloc {w W : World} {b : Nat} (h : Cx w b W) (o : Obj) : Cx w b (W.alloc o) := cx_below h (bl_alloc (Below.refl _ _) o)
theorem cj_of {w W : World} {b : Nat} {s f t n : Int} {T : TypeId} {fr : Nat × Nat} (h : W.heap[w.heap.size]? = some (.cells #[.int .i64 s, .int .i64 f, .int .i64 t, .int .i64 n] T fr)) (hc : Cx w b W) :
    W.cell? ⟨w.heap.size, 0, none⟩ = some (.int .i64 s) ∧ W.cell? ⟨w.heap.size, 1, none⟩ = some (.int .i64 f) ∧ W.cell? ⟨w.heap.size, 2, none⟩ = some (.int .i64 t) ∧ W.cell? ⟨w.heap.size, 3, none⟩ = some (.int .i64 n) ∧ Cx w b W :=
  ⟨by rw [cell_of h]; rfl, by rw [cell_of h]; rfl, by rw [cell_of h]; rfl, by rw [cell_of h]; rfl, hc⟩
theorem cj_drew {w W : World} {b : Nat} {s f t n : Int} (h : W.cell? ⟨w.heap.size, 0, none⟩ = some (.int .i64 s) ∧ W.cell? ⟨w.heap.size, 1, none⟩ = some (.int .i64 f) ∧ W.cell? ⟨w.heap.size, 2, none⟩ = some (.int .i64 t) ∧ W.cell? ⟨w.heap.size, 3, none⟩ = some (.int .i64 n) ∧ Cx w b W) : W.drew.cell? ⟨w.heap.size, 0, none⟩ = some (.int .i64 s) ∧ W.drew.cell? ⟨w.heap.size, 1, none⟩ = some (.int .i64 f) ∧ W.drew.cell? ⟨w.heap.size, 2, none⟩ = some (.int .i64 t) ∧ W.drew.cell? ⟨w.heap.size, 3, none⟩ = some (.int .i64 n) ∧ Cx w b W.drew := ⟨h.1, h.2.1, h.2.2.1, h.2.2.2.1, cx_drew h.2.2.2.2⟩
theorem cj_set {w W : World} {b : Nat} {s f t n : Int} (h : W.cell? ⟨w.heap.size, 0, none⟩ = some (.int .i64 s) ∧ W.cell? ⟨w.heap.size, 1, none⟩ = some (.int .i64 f) ∧ W.cell? ⟨w.heap.size, 2, none⟩ = some (.int .i64 t) ∧ W.cell? ⟨w.heap.size, 3, none⟩ = some (.int .i64 n) ∧ Cx w b W) (o : Nat) (ho : o < 2) (v : Value) :
    (W.setCell ⟨b, o, none⟩ v).cell? ⟨w.heap.size, 0, none⟩ = some (.int .i64 s) ∧ (W.setCell ⟨b, o, none⟩ v).cell? ⟨w.heap.size, 1, none⟩ = some (.int .i64 f) ∧ (W.setCell ⟨b, o, none⟩ v).cell? ⟨w.heap.size, 2, none⟩ = some (.int .i64 t) ∧ (W.setCell ⟨b, o, none⟩ v).cell? ⟨w.heap.size, 3, none⟩ = some (.int .i64 n) ∧ Cx w b (W.setCell ⟨b, o, none⟩ v) := by
  have hc := cx_set h.2.2.2.2 o ho v
  have hlo := h.2.2.2.2.lo
  have hk : ∀ i, (W.setCell ⟨b, o, none⟩ v).cell? ⟨w.heap.size, i, none⟩ = W.cell? ⟨w.heap.size, i, none⟩ := fun i => cell_blk (Below.heap_setCell W _ v w.heap.size (show w.heap.size ≠ b by omega)) i
  exact ⟨by rw [hk]; exact h.1, by rw [hk]; exact h.2.1, by rw [hk]; exact h.2.2.1, by rw [hk]; exact h.2.2.2.1, hc⟩
theorem four_at (s f t : Nat) : ∀ (i : Nat) x, (ints [1, s, f, t])[i]? = some x → (#[Value.int .i64 1, .int .i64 s, .int .i64 f, .int .i64 t] : Array Value)[i]? = some (.int .i64 x) := by
  intro i x h
  match i, h with
  | 0, h => simp [ints] at h; subst h; rfl
  | 1, h => simp [ints] at h; subst h; rfl
  | 2, h => simp [ints] at h; subst h; rfl
  | 3, h => simp [ints] at h; subst h; rfl
  | i + 4, h => simp [ints] at h

theorem encode_yes (s f t n : Nat) (h : rOk s f t n) (w : World) :
    Calls Tryz.prog 70 #[.agg #[.int .i64 s, .int .i64 f, .int .i64 t, .int .i64 n]] w fun e w' => ∃ v, e = .returned (.tuple #[v, .int .i64 0]) ∧ w'.ownsRow w.heap.size 60 1 v 8 (ivs .u64 (ints (line (pv (f16s [1, s, f, t])) n))) ∧ Below w.heap.size w w' := by
  have hu := Tryz.underlying50
  have HM : Hid (∀ W, Calls Tryz.prog 108 #[.agg #[.int .i64 s, .int .i64 f, .int .i64 t, .int .i64 n]] W fun e w' => e = .returned (.bool true) ∧ Below W.heap.size W w') := by
    intro W
    have := may_ s f t n W
    rw [decide_eq_true h] at this
    exact this
  obtain ⟨⟨a0, a1⟩, ⟨a2, a3⟩, ⟨a4, a5⟩, a6, a7⟩ := h
  have HF : Hid (∀ v ∈ [1, s, f, t], v < 65536) := by
    intro v hv
    simp only [List.mem_cons, List.not_mem_nil, or_false] at hv
    rcases hv with rfl | rfl | rfl | rfl <;> omega
  have hz9 : n < 18446744073709551616 := by omega
  have HPL : Hid (pv (f16s [1, s, f, t]) < 18446744073709551616) := by
    have := pv_lt (f16s [1, s, f, t]) (by
      intro p hp
      simp only [f16s, List.mem_map] at hp
      obtain ⟨v, hv, rfl⟩ := hp
      exact f16 (HF.out v hv))
    rw [show wid (f16s [1, s, f, t]) = 64 from rfl] at this
    exact this
  clear a0 a1 a2 a3 a4 a5 a6
  go_enter Tryz.func70, Tryz.ntmps70
  go_wp2_with fail
  refine (HM.out _).mono ?_
  rintro e w1 ⟨rfl, hb⟩
  have hq := blk_bl (alloc_new w (.cells #[.int .i64 s, .int .i64 f, .int .i64 t, .int .i64 n] 50)) hb
  have hlt := lt_of hq
  have HQ := Lib.hid hq
  have HB := Lib.hid (bl_then (bl_alloc (Below.refl _ _) _) hb)
  clear hb hq
  go_wp2_with (at_make; refine Go.Proofs.YtichcdoijieddaaGreat.Wl.wpl_make rfl _ 22 60 rfl (.int .u64 0) 8 Tryz.underlying22 info_u64 rfl 8 .i64 _ rfl rfl (by decide) (by decide) ?_)
  obtain ⟨w2, hw2⟩ : ∃ w2, w2 = w1.alloc (.cells (Array.replicate 8 (.int .u64 0)) 60) := ⟨_, rfl⟩
  rw [← hw2]
  have hq2 : w2.heap[w.heap.size]? = some (.cells #[.int .i64 s, .int .i64 f, .int .i64 t, .int .i64 n] 50 (0, 0)) := by rw [hw2]; exact alloc_old HQ.out _
  have hl2 : w2.heap[w1.heap.size]? = some (.cells (Array.replicate 8 (.int .u64 0)) 60 (0, 0)) := by rw [hw2]; exact alloc_new _ _
  have hs2 : w2.heap.size = w1.heap.size + 1 := by rw [hw2]; simp
  have HB2 : Hid (Below w.heap.size w w2) := by rw [hw2]; exact bl_alloc HB.out _
  generalize w1.heap.size = b1 at *
  clear hw2
  have k0 := cell_of hq2 0
  have k1 := cell_of hq2 1
  have k2 := cell_of hq2 2
  have k3 := cell_of hq2 3
  have l0 := cell_of hl2 0
  have l1 := cell_of hl2 1
  have f0 := free_of hl2 0
  have f1 := free_of hl2 1
  have HQ2 : Hid (∀ o : Obj, (w2.alloc o).drew.heap[w.heap.size]? = some (.cells #[.int .i64 s, .int .i64 f, .int .i64 t, .int .i64 n] 50 (0, 0))) := fun o => alloc_old hq2 o
  have HL2 : Hid (∀ o : Obj, (w2.alloc o).drew.heap[b1]? = some (.cells (Array.replicate 8 (.int .u64 0)) 60 (0, 0))) := fun o => alloc_old hl2 o
  have hcx : Cx w b1 w2 := ⟨HB2.out, hlt, _, hl2, fun i h2 h8 => by rw [Array.getElem?_replicate]; simp [h8]⟩
  have HST := Lib.hid (cj_of hq2 hcx)
  have HCX := Lib.hid hcx
  have HN2 : Hid (∀ o : Obj, (w2.alloc o).heap[b1 + 1]? = some o) := fun o => by
    have := alloc_new w2 o
    rw [hs2] at this
    exact this
  have HFD : Hid (∀ W : World, W.heap[b1 + 1]? = some (.cells #[.int .i64 1, .int .i64 s, .int .i64 f, .int .i64 t] 3 (0, 0)) → Calls Tryz.prog 109 #[.slice (some ⟨b1 + 1, 0, none⟩) 4 4] W fun e w' => e = .returned (.int .u64 (pv (f16s [1, s, f, t]) : Nat)) ∧ Below W.heap.size W w') := fun W hW => fields_ (l := [1, s, f, t]) (blk_rk hW (four_at s f t)) HF.out 4 (by simp)
  have hwn : IntKind.u64.wrap (n : Int) = (n : Int) := wu64 _ (by omega) (by omega)
  clear hq2 hl2 hcx k0 k1 k2 k3 l0 l1 f0 f1
  go_region_held3 (fun w' => w'.cell? ⟨w.heap.size, 0, none⟩ = some (.int .i64 s) ∧ w'.cell? ⟨w.heap.size, 1, none⟩ = some (.int .i64 f) ∧ w'.cell? ⟨w.heap.size, 2, none⟩ = some (.int .i64 t) ∧ w'.cell? ⟨w.heap.size, 3, none⟩ = some (.int .i64 n) ∧ Cx w b1 w')
    (first | assumption | exact cj_drew HST.out | exact cj_of (HQ2.out _) (cx_drew (cx_alloc HCX.out _)) | exact cj_of Q3.out CX3.out | exact cj_drew (cj_of Q3.out CX3.out) | exact cj_set (cj_of Q3.out CX3.out) 0 (by decide) _ | exact cj_drew (cj_set (cj_of Q3.out CX3.out) 0 (by decide) _) | exact cj_set (cj_set (cj_of Q3.out CX3.out) 0 (by decide) _) 1 (by decide) _ | exact cj_drew (cj_set (cj_set (cj_of Q3.out CX3.out) 0 (by decide) _) 1 (by decide) _))
    ((go_at_call 109; refine (HFD.out _ ?hR).mono ?_; (case hR => exact HN2.out _); rintro e w3 ⟨rfl, hb3⟩; (have Q3 := Lib.hid (blk_bl (HQ2.out _) hb3)); (have CX3 := Lib.hid (cx_below (cx_drew (cx_alloc HCX.out _)) hb3)); (have L3 := Lib.hid (blk_bl (HL2.out _) hb3)); (have l0 := cell_of L3.out 0); (have l1 := cell_of L3.out 1); (have f0 := free_of L3.out 0); (have f1 := free_of L3.out 1); clear hb3))
  obtain ⟨x, hx⟩ : ∃ x, x = pv (f16s [1, s, f, t]) := ⟨_, rfl⟩
  rw [← hx]
  have hx9 : x < 18446744073709551616 := by rw [hx]; exact HPL.out
  have HX := Lib.hid hx
  clear hx
  have hL4 := set_same (set_same L3.out 0 (.int .u64 x)) 1 (.int .u64 n)
  have hr4 := fill_line hL4
  have hr5 := words32_ hr4 (head7_lt (a := x) (b := n) hx9 hz9) 8 (by simp [head7])
  rw [show (head7 x n).length = 7 from rfl] at hr5
  have HR4 := Lib.hid hr5
  have HL4 := Lib.hid hL4
  have HBW := Lib.hid (bl_set (o := 1) (bl_set (o := 0) CX3.out.below (Nat.le_of_lt CX3.out.lo) (.int .u64 x)) (Nat.le_of_lt CX3.out.lo) (.int .u64 n))
  clear hL4 hr4 hr5 l0 l1 f0 f1
  go_wp2_with fail
  refine HR4.out.mono ?_
  rw [sum7_int]
  rintro e w5 ⟨rfl, hb5⟩
  have hL5 := (hb5.block _ (lt_of HL4.out)).trans HL4.out
  have l7 : w5.cell? ⟨b1, 7, none⟩ = some (.int .u64 0) := cell_of hL5 7
  have f7 := free_of hL5 7
  have hs7 := sum7_lt x n
  have HL5 := Lib.hid hL5
  have HB5 := Lib.hid hb5
  clear hL5 hb5
  go_wp2_with fail
  go_ret2
  have hfin := set_same HL5.out 7 (.int .u64 (sum7 x n : Nat))
  rw [← HX.out]
  exact ⟨_, rfl, own_new (q := b1) hfin (Nat.le_of_lt hlt) rfl (by unfold maxLen; omega), bl_set (o := 7) (bl_then HBW.out HB5.out) (Nat.le_of_lt hlt) _⟩

end Go.Proofs.YtichcdoijieddaaGreat.Rj
end

/- The ninth chapter's example. -/
section
set_option linter.unusedVariables false
set_option linter.unusedSimpArgs false
set_option maxHeartbeats 2000000
set_option maxRecDepth 100000
namespace Go.Proofs.YtichcdoijieddaaGreat.Li
open Go Go.RowKit
open Go.Proofs.YtichcdoijieddaaGreat.Ob Go.Proofs.YtichcdoijieddaaGreat.Ba Go.Proofs.YtichcdoijieddaaGreat.Oc Go.Proofs.YtichcdoijieddaaGreat.Pk

theorem lives09 (w : World) : Calls Tryz.prog 49 #[] w fun e w' => e = .returned (.bool true) ∧ Below w.heap.size w w' := by
  have hen := Rj.encode_yes 2 3 4 5 ⟨⟨by decide, by decide⟩, ⟨by decide, by decide⟩, ⟨by decide, by decide⟩, by decide, by decide⟩ w
  have hpv : pv (Rj.f16s [1, 2, 3, 4]) = 1125912791875585 := by decide
  rw [hpv] at hen
  have hl0 : (ints (Su.line 1125912791875585 5))[0]? = some 1125912791875585 := rfl
  have HL := Lib.hid hl0
  generalize Su.line 1125912791875585 5 = l at *
  have HE := Lib.hid hen
  clear hen hl0 hpv
  go_enter Tryz.func49, Tryz.ntmps49
  go_wp2_with (first | (go_at_call 70; refine (show Calls _ _ #[.agg #[.int .i64 2, .int .i64 3, .int .i64 4, .int .i64 5]] _ _ from HE.out).mono ?_; rintro e w1 ⟨v, rfl, hown, hb1⟩; (obtain ⟨A1, c1, rfl⟩ := own_slice hown); (obtain ⟨q1, rfl, -, -⟩ := own_at hown HL.out); (have HO := Lib.hid hown); (have HB1 := Lib.hid hb1); clear hb1 hown) |
    (go_at_call 93; refine (lives02 _).mono ?_; rintro e w3 ⟨rfl, hb3⟩; (have HB3 := Lib.hid hb3); clear hb3) |
    (go_at_call 94; refine (lives03 _).mono ?_; rintro e w4 ⟨rfl, hb4⟩; (have HB4 := Lib.hid (bl_then HB3.out hb4)); clear hb4; (obtain ⟨_, e5, hc5, -⟩ := own_at (own_bl HO.out HB4.out) HL.out); cases e5))
  go_ret
  exact ⟨rfl, bl_then HB1.out HB4.out⟩

end Go.Proofs.YtichcdoijieddaaGreat.Li
end

/- The tenth chapter's example. -/
section
set_option linter.unusedVariables false
set_option linter.unusedSimpArgs false
set_option maxHeartbeats 2000000
set_option maxRecDepth 100000
namespace Go.Proofs.YtichcdoijieddaaGreat.Li
open Go Go.RowKit
open Go.Proofs.YtichcdoijieddaaGreat.Ob Go.Proofs.YtichcdoijieddaaGreat.Ba Go.Proofs.YtichcdoijieddaaGreat.Oc Go.Proofs.YtichcdoijieddaaGreat.Pk Go.Proofs.YtichcdoijieddaaGreat.Bm

theorem rk_rd {w : World} {A : Option Addr} {l : List Int} (h : Rk .u64 w A l) : Pm.Rd w A l := h

theorem next65 {r : Int} (h : NextIs 70 [1, 2] 1 true r) : r = 65 := by
  have key : ∀ k : Nat, k < 70 → 1 ≤ k → k < 65 → bget [1, 2] k ≠ true := by decide
  rcases h with ⟨_, h⟩ | ⟨j, rfl, h1, h2, h3, h4⟩
  · exact absurd (by decide : bget [1, 2] 65 = true) (h 65 (by decide) (by decide))
  · by_cases h5 : j < 65
    · exact absurd h3 (key j h2 (by omega) h5)
    · by_cases h6 : 65 < j
      · exact absurd (by decide : bget [1, 2] 65 = true) (h4 65 (by decide) h6)
      · omega
theorem next1 {r : Int} (h : NextIs 70 [1, 2] 0 false r) : r = 1 := by
  rcases h with ⟨_, h⟩ | ⟨j, rfl, h1, h2, h3, h4⟩
  · exact absurd (by decide : bget [1, 2] 1 = false) (h 1 (by decide) (by decide))
  · by_cases h5 : j < 1
    · obtain rfl : j = 0 := by omega
      revert h3; decide
    · by_cases h6 : 1 < j
      · exact absurd (by decide : bget [1, 2] 1 = false) (h4 1 (by decide) h6)
      · omega

theorem three_rk {W : World} {q T : Nat} {fr : Nat × Nat} {k : IntKind} {x y z : Int} (h : W.heap[q]? = some (.cells #[.int k x, .int k y, .int k z] T fr)) : Rk k W (some ⟨q, 0, none⟩) [x, y, z] := by
  refine blk_rk h ?_
  intro i u hu
  match i, hu with
  | 0, hu => simp at hu; subst hu; rfl
  | 1, hu => simp at hu; subst hu; rfl
  | 2, hu => simp at hu; subst hu; rfl
  | i + 3, hu => simp at hu
theorem two_rk {W : World} {q T : Nat} {fr : Nat × Nat} {k : IntKind} {x y : Int} (h : W.heap[q]? = some (.cells #[.int k x, .int k y] T fr)) : Rk k W (some ⟨q, 0, none⟩) [x, y] := by
  refine blk_rk h ?_
  intro i u hu
  match i, hu with
  | 0, hu => simp at hu; subst hu; rfl
  | 1, hu => simp at hu; subst hu; rfl
  | i + 2, hu => simp at hu

theorem lives10 (w : World) : Calls Tryz.prog 50 #[] w fun e w' => e = .returned (.bool true) ∧ Below w.heap.size w w' := by
  go_enter Tryz.func50, Tryz.ntmps50
  go_wp2_with fail
  refine (show Calls _ _ #[.int .i64 70] _ _ from new_ 70 (by decide) w).mono ?_
  rintro e w1 ⟨b, rfl, hm1, hb1⟩
  have HM1 := Lib.hid hm1
  have HB1 := Lib.hid hb1
  clear hm1 hb1
  go_wp2_with fail
  refine (lives03 w1).mono ?_
  rintro e w2 ⟨rfl, hb2⟩
  have HM2 := Lib.hid (HM1.out.keep hb2)
  have HB2 := Lib.hid (bl_then HB1.out hb2)
  have hlt2 : w1.heap.size ≤ w2.heap.size := hb2.size
  have hq1 : w.heap.size < w1.heap.size := by
    have := own_at (l := ints (List.replicate ((70 + 63) / 64) 0)) (i := 0) (x := 0) HM1.out.row (by simp [ints])
    obtain ⟨q, hq, hc, -⟩ := this
    cases hq
    by_cases h : w.heap.size < w1.heap.size
    · exact h
    · rw [show w1.cell? ⟨w.heap.size, 0, none⟩ = none from by simp [World.cell?, Array.getElem?_eq_none (Nat.le_of_not_lt h)]] at hc
      cases hc
  clear hb2
  go_wp2_with fail
  have hlt3 : w.heap.size < w2.heap.size := by omega
  have hput := put_ (xs := [0, 65, 70]) (HM2.out.keep (bl_alloc (Below.refl _ _) (.cells #[.int .i64 0, .int .i64 65, .int .i64 70] 3))) (three_rk (alloc_new w2 _)) (by intro a a' h1 h2; cases h1; cases h2; exact Nat.ne_of_lt hlt3) 3 (by decide)
  rw [show turnL 70 false (List.replicate ((70 + 63) / 64) 0) [0, 65, 70] = ([1, 2], 2) from by decide] at hput
  have HPU := Lib.hid hput
  clear hput
  refine (show Calls _ _ #[.pointer (some ⟨b, 0, none⟩), .slice (some ⟨w2.heap.size, 0, none⟩) 3 3] _ _ from HPU.out).mono ?_
  rintro e w3 ⟨rfl, hm3, ho3⟩
  have HM3 := Lib.hid hm3
  have HB3 := Lib.hid ((bl_alloc HB2.out (.cells #[.int .i64 0, .int .i64 65, .int .i64 70] 3)).trans (ho3.below (B := w.heap.size) (by intro a ha; cases ha; exact Nat.le_refl _)))
  clear hm3 ho3
  go_wp2_with fail
  refine (words_of HM3.out).mono ?_
  rintro e w4 ⟨v4, rfl, hown, hb4⟩
  obtain ⟨A4, c4, rfl⟩ := own_slice hown
  have HM4 := Lib.hid (HM3.out.keep hb4)
  have HB4 := Lib.hid (bl_then HB3.out hb4)
  have HO4 := Lib.hid (own_rk (k := .u64) hown).1
  clear hown hb4
  go_wp2_with fail
  have hsm := Pm.same_words (m := [1, 2]) (rk_rd (HO4.out.below (bl_alloc (Below.refl _ _) (.cells #[.int .u64 1, .int .u64 2] 60)))) (rk_rd (two_rk (alloc_new w4 _))) c4 2 (by decide) (by decide)
  rw [show decide (ints [1, 2] = [1, 2]) = true from by decide] at hsm
  have HSM := Lib.hid hsm
  clear hsm
  refine (show Calls _ _ #[.slice A4 2 c4, .slice (some ⟨w4.heap.size, 0, none⟩) 2 2] _ _ from HSM.out).mono ?_
  rintro e w5 ⟨rfl, n5, hw5⟩
  have hb5 : Below w4.heap.size w4 w5 := by rw [hw5]; exact bl_drewN (bl_alloc (Below.refl _ _) _) _
  have HM5 := Lib.hid (HM4.out.keep hb5)
  have HB5 := Lib.hid (bl_then HB4.out hb5)
  clear hb5 hw5
  go_wp2_with fail
  refine (next_ HM5.out 1 true).mono ?_
  rintro e w6 ⟨r, rfl, hr, rfl⟩
  obtain rfl := next65 hr
  clear hr
  go_wp2_with fail
  refine (next_ HM5.out 0 false).mono ?_
  rintro e w7 ⟨r, rfl, hr, rfl⟩
  obtain rfl := next1 hr
  clear hr
  go_wp2_with fail
  go_ret
  exact ⟨rfl, HB5.out⟩

end Go.Proofs.YtichcdoijieddaaGreat.Li
end

/- A slot's word gives the slot back. -/
section
set_option linter.unusedVariables false
set_option linter.unusedSimpArgs false
namespace Go.Proofs.YtichcdoijieddaaGreat.Lo
open Go Go.RowKit
open Go.Proofs.YtichcdoijieddaaGreat.Su

theorem sEnc_lt (s c n : Int) (h : sMay s c n = true) : sEnc s c n < 18446744073709551616 := by
  obtain ⟨h1, h2, h3, h4, h5, h6⟩ := of_decide_eq_true h
  unfold sEnc
  have := sSum_lt (word1 s.toNat c.toNat (nx n))
  have hk : nx n < 65536 := by unfold nx; split <;> omega
  have hw : word1 s.toNat c.toNat (nx n) < 281474976710656 := by unfold word1; omega
  omega
theorem sEnc_parts (s c n : Int) (h : sMay s c n = true) : pa (sEnc s c n) = s.toNat ∧ pb (sEnc s c n) = c.toNat ∧ pc (sEnc s c n) = nx n := by
  obtain ⟨h1, h2, h3, h4, h5, h6⟩ := of_decide_eq_true h
  unfold sEnc
  have hs := sSum_lt (word1 s.toNat c.toNat (nx n))
  generalize sSum (word1 s.toNat c.toNat (nx n)) = y at *
  have hk : nx n < 65536 := by unfold nx; split <;> omega
  generalize nx n = k at *
  unfold pa pb pc word1
  omega
theorem nxt_nx (n : Int) (h0 : -1 ≤ n) (h1 : n < 65534) : nxt (nx n) = n := by
  unfold nxt nx
  split <;> split <;> omega
theorem sdec_enc (s c n : Int) (h : sMay s c n = true) (e : Ending) (hd : SDec (sEnc s c n) (pa (sEnc s c n)) (pb (sEnc s c n)) (pc (sEnc s c n)) e) : e = .returned (.tuple #[.agg #[.int .i64 s, .int .i64 c, .int .i64 n], .int .i64 0]) := by
  obtain ⟨h1, h2, h3, h4, h5, h6⟩ := of_decide_eq_true h
  obtain ⟨q1, q2, q3⟩ := sEnc_parts s c n h
  rw [q1, q2, q3] at hd
  have hs : ((s.toNat : Nat) : Int) = s := by omega
  have hc : ((c.toNat : Nat) : Int) = c := by omega
  have hx := nxt_nx n h5 h6
  have h9 := hd.1
  rw [hx, hs, hc] at h9
  exact h9 ⟨h, rfl⟩

end Go.Proofs.YtichcdoijieddaaGreat.Lo
end

/- The fifteenth chapter's example. -/
section
set_option linter.unusedVariables false
set_option linter.unusedSimpArgs false
set_option maxHeartbeats 2000000
set_option maxRecDepth 100000
namespace Go.Proofs.YtichcdoijieddaaGreat.Li
open Go Go.RowKit
open Go.Proofs.YtichcdoijieddaaGreat.Ob Go.Proofs.YtichcdoijieddaaGreat.Ba Go.Proofs.YtichcdoijieddaaGreat.Ko Go.Proofs.YtichcdoijieddaaGreat.Ge Go.Proofs.YtichcdoijieddaaGreat.Oc Go.Proofs.YtichcdoijieddaaGreat.Pk Go.Proofs.YtichcdoijieddaaGreat.Su Go.Proofs.YtichcdoijieddaaGreat.Rf Go.Proofs.YtichcdoijieddaaGreat.Dv Go.Proofs.YtichcdoijieddaaGreat.Vo Go.Proofs.YtichcdoijieddaaGreat.Ra Go.Proofs.YtichcdoijieddaaGreat.Lo

theorem opn_any {W : World} {b : Nat} {g : Lay} (r0 r1 r2 : Nat) (l : List Int) (n m s T : Nat) (hn : n = gB r0) (hm : m = gB r1) (hs : s = gS r2) (hT : (T : Int) = tot n m s) (hD : DevIs W b (Pm.devOf (dws (ints (enc n m s)) l T)) g) :
    Calls Tryz.prog 51 #[.pointer (some ⟨b, 0, none⟩)] W fun e w' => ∃ v, e = .returned (.tuple #[.pointer (some ⟨v, 0, none⟩), .int .i64 0]) ∧ W.heap.size ≤ v ∧ VolIs w' v b n m s (Pm.devOf (dws (ints (enc n m s)) l T)) g ∧ Below W.heap.size W w' := by
  have hok : geoOk n m s = true := by rw [hn, hm, hs]; exact g_ok r0 r1 r2
  have htt := g_tot r0 r1 r2
  rw [← hn, ← hm, ← hs, ← hT] at htt
  have hn9 : n < 65536 := by have := gB_in r0; omega
  have hm9 : m < 65536 := by have := gB_in r1; omega
  have hs9 : s < 65536 := by have := gS_or r2; omega
  have hlen : (dws (ints (enc n m s)) l T).length = T := dws_length _ _ _ rfl (by omega)
  have htk : (dws (ints (enc n m s)) l T).take 8 = ints (enc n m s) := dws_take8 _ _ _ rfl
  exact open_ok hD n m s hok hn9 hm9 hs9 (by show ((dws (ints (enc n m s)) l T).length : Int) = _; rw [hlen, hT]) (by show 8 ≤ (dws (ints (enc n m s)) l T).length; rw [hlen]; omega) (fun i x hx => by
    refine devOf_load ?_
    have hi := (List.getElem?_eq_some_iff.1 hx).1
    have h8 : i < 8 := hi
    have h9 : ((dws (ints (enc n m s)) l T).take 8)[i]? = some (x : Int) := by rw [htk]; exact ints_get hx
    rw [List.getElem?_take, if_pos h8] at h9
    exact h9)

theorem lives15 (w : World) : Calls Tryz.prog 6 #[] w fun e w' => e = .returned (.bool true) ∧ Below w.heap.size w w' := by
  have hu := Tryz.underlying33
  have hdv := device_ 3 3 0 (by decide) (by decide) (by decide) (A := none) (l := []) 0 (w := w) (Rk.nil _ _ _) (by decide) 4 4 64 96 rfl rfl rfl (by decide)
  have HOP : Hid (∀ {W : World} {b : Nat} {g : Lay}, DevIs W b (Pm.devOf (dws (ints (enc (4 : Nat) (4 : Nat) (64 : Nat))) [] 96)) g → _) := fun {W} {b} {g} hD => opn_any 3 3 0 [] 4 4 64 96 rfl rfl rfl (by decide) hD
  have hlen : (dws (ints (enc (4 : Nat) (4 : Nat) (64 : Nat))) [] 96).length = 96 := dws_length _ _ _ rfl (by decide)
  have HV : Hid (∀ v, vcells (4 : Nat) (4 : Nat) (64 : Nat) v = #[.int .i64 4, .int .i64 4, .int .i64 64, .int .i64 16, .int .i64 48, .int .i64 56, .int .i64 64, .int .i64 96, v]) := fun _ => rfl
  generalize dws (ints (enc (4 : Nat) (4 : Nat) (64 : Nat))) [] 96 = L at *
  have HP1 := Lib.hid (put_one L 48 (sEnc 0 1 (-1) : Nat) (by omega))
  have HLN := Lib.hid hlen
  have HD := Lib.hid hdv
  clear hdv hlen
  go_enter Tryz.func6, Tryz.ntmps6
  go_wp2_with fail
  refine (show Calls _ _ #[.agg #[.int .u8 3, .int .u8 3, .int .u8 0, .slice none 0 0]] _ _ from HD.out).mono ?_
  rintro e w1 ⟨b, g, vw, rfl, hd1, hf1, ho1, ha1, hb1⟩
  obtain ⟨A8, c8, e8⟩ := own_slice ho1
  subst e8
  rw [HV.out]
  have HD1 := Lib.hid hd1
  have HF1 := Lib.hid hf1
  have HB1 := Lib.hid hb1
  clear hd1 hf1 hb1 ho1 ha1
  go_wp2_with fail
  have hb0 : Below w1.heap.size w1 (w1.alloc (.cells #[.int .i64 4, .int .i64 4, .int .i64 64, .int .i64 16, .int .i64 48, .int .i64 56, .int .i64 64, .int .i64 96, .slice A8 96 c8] 33)) := bl_alloc (Below.refl _ _) _
  have HB0 := Lib.hid hb0
  clear hb0
  refine (lives05 _).mono ?_
  rintro e w2 ⟨rfl, hb2⟩
  have HB2 := Lib.hid (bl_then HB0.out hb2)
  clear hb2
  go_wp2_with fail
  refine (lives06 _).mono ?_
  rintro e w3 ⟨rfl, hb3⟩
  have HB3 := Lib.hid (bl_then HB2.out hb3)
  clear hb3
  go_wp2_with fail
  refine (lives07 _).mono ?_
  rintro e w4 ⟨rfl, hb4⟩
  have HB4 := Lib.hid (bl_then HB3.out hb4)
  clear hb4
  go_wp2_with fail
  refine (lives09 _).mono ?_
  rintro e w5 ⟨rfl, hb5⟩
  have HB5 := Lib.hid (bl_then HB4.out hb5)
  clear hb5
  go_wp2_with fail
  refine (lives10 _).mono ?_
  rintro e w6 ⟨rfl, hb6⟩
  have HB6 := Lib.hid (bl_then HB5.out hb6)
  clear hb6
  go_wp2_with fail
  refine (HOP.out (HD1.out.below HB6.out)).mono ?_
  rintro e w7 ⟨v, rfl, hlo, hvol, hb7⟩
  have HV7 := Lib.hid hvol
  have HB7 := Lib.hid (bl_then HB6.out hb7)
  clear hlo hvol hb7
  go_wp2_with fail
  refine (setslot_yes HV7.out (show (0 : Nat) ≤ 1000000000 from Nat.zero_le _) 0 0 1 (-1) (by decide) (by decide) 48 (by decide) _ HP1.out).mono ?_
  rintro e w8 ⟨rfl, hto⟩
  have hto2 := HV7.out.to hto (by rfl)
  obtain ⟨g8, hv8, hf8, hu8⟩ := hto2
  have HV8 := Lib.hid hv8
  have HB8 : Hid (Below w.heap.size w w8) := (bl_then HB1.out HB7.out).trans (hu8.belowB (bl_then HB1.out HB7.out).size HF1.out)
  clear hto hv8 hf8 hu8
  rw [show ecode (one L 48 (sEnc 0 1 (-1) : Nat), some 1) = 0 from rfl]
  go_wp2_with fail
  refine (Pm.steps_any HV8.out.dev).mono ?_
  rintro e w9 ⟨rfl, rfl⟩
  rw [show (one L 48 (sEnc 0 1 (-1) : Nat)).steps = 2 from rfl]
  go_wp2_with fail
  refine (stores_any HV8.out.dev).mono ?_
  rintro e w9 ⟨rfl, rfl⟩
  rw [show (one L 48 (sEnc 0 1 (-1) : Nat)).stores = 1 from rfl]
  go_wp2_with fail
  go_ret
  exact ⟨rfl, HB8.out⟩

end Go.Proofs.YtichcdoijieddaaGreat.Li
end

/- A device's words, and that its row is there. -/
section
set_option linter.unusedVariables false
set_option linter.unusedSimpArgs false
set_option maxHeartbeats 2000000
set_option maxRecDepth 100000
namespace Go.Proofs.YtichcdoijieddaaGreat.Vs
open Go Go.RowKit
open Go.Proofs.YtichcdoijieddaaGreat.Ob Go.Proofs.YtichcdoijieddaaGreat.Ba Go.Proofs.YtichcdoijieddaaGreat.Ko Go.Proofs.YtichcdoijieddaaGreat.Ge Go.Proofs.YtichcdoijieddaaGreat.Oc Go.Proofs.YtichcdoijieddaaGreat.Pk Go.Proofs.YtichcdoijieddaaGreat.Su Go.Proofs.YtichcdoijieddaaGreat.Rf Go.Proofs.YtichcdoijieddaaGreat.Dv Go.Proofs.YtichcdoijieddaaGreat.Vo Go.Proofs.YtichcdoijieddaaGreat.Ra Go.Proofs.YtichcdoijieddaaGreat.Lo Go.Proofs.YtichcdoijieddaaGreat.Li

theorem las_some {w : World} {b : Nat} {d : Dev} {g : Lay} (h : DevIs w b d g) (hl : 1 ≤ d.las.length) : g.A = none → g.c = 0 := by
  intro hA
  obtain ⟨x, hx⟩ := some_at (l := d.las) (i := 0) (by omega)
  obtain ⟨q, off, cs, e, -⟩ := h.las.at_ (i := 0) (v := .int .u64 x) (by rw [u64s, List.getElem?_map, hx]; rfl)
  rw [hA] at e
  cases e

theorem words_devOf (L : List Int) : Pm.wordsOf (Pm.devOf L) = L := by
  rw [Pm.wordsOf_eq]
  show (List.range L.length).map _ = L
  apply List.ext_getElem?
  intro i
  by_cases hi : i < L.length
  · obtain ⟨x, hx⟩ := some_at hi
    rw [List.getElem?_map, List.getElem?_range hi, hx]
    show some ((Pm.devOf L).load (i : Int)) = some _
    rw [devOf_load hx]
  · rw [List.getElem?_eq_none (by simp; omega), List.getElem?_eq_none (by omega)]

end Go.Proofs.YtichcdoijieddaaGreat.Vs
end

/- append(own, make([]T, k)...) to a row of one's own, of one-cell elements. No program is named. -/
section
set_option linter.unusedVariables false
set_option linter.unusedSimpArgs false
namespace Go.Proofs.YtichcdoijieddaaGreat.Az
open Go Go.RowKit
open Go.Proofs.YtichcdoijieddaaGreat.Ob Go.Proofs.YtichcdoijieddaaGreat.Ba

theorem zeroCells_one (z : Value) (k : Nat) : Builtin.zeroCells #[z] k = (List.replicate k z).toArray := by
  unfold Builtin.zeroCells
  apply Array.ext
  · simp
  · intro i h1 h2
    simp [Nat.mod_one]

theorem run_append_own_zeros {P : Program} (w : World) (base : Nat) (t tn ty e : TypeId) (i : TypeInfo) (z : Value) (bytes : Nat) (kq kn : IntKind) (ht : P.underlying t = some (.slice e)) (htn : P.underlying tn = some (.int kn)) (hi : P.info? e = some i) (hz : i.zero = some z)
    (hsize : i.size = 1) (hby : i.bytes = bytes) (hzs : z.cells = #[z]) (h1 : z.oneCell' = true)
    (v : Value) (n : Nat) (xs : List Value) (hown : w.ownsRow base e 1 v n xs) (k : Nat)
    (h63 : n + k ≤ maxLen) (hbytes : (n + k) * bytes ≤ 140737488355328) (hbase : base ≤ w.heap.size) :
    ∃ v' w', (Builtin.append_ #[t, tn] ty #[v, .int kq k]).run P w = .ok v' w' ∧ w'.ownsRow base e 1 v' (n + k) (xs ++ List.replicate k z) ∧ w.grownBy w' v.ownBlock := by
  subst hby
  have hsmall : n + k ≤ 9223372036854775807 := by simp only [maxLen] at h63; omega
  have hkb : k * i.bytes ≤ 281474976710656 := by
    have : k * i.bytes ≤ (n + k) * i.bytes := Nat.mul_le_mul_right _ (by omega)
    omega
  have hzl : ∀ m, Builtin.zeroCells z.cells m = (List.replicate m z).toArray := fun m => by rw [hzs]; exact zeroCells_one z m
  have hlen : (xs ++ List.replicate k z).length = (n + k) * 1 := by rw [List.length_append, hown.1, List.length_replicate]; omega
  have hw : IntKind.i64.wrap (k : Int) = k := by rw [IntKind.wrap_i64]; omega
  have hneg : ¬ ((k : Int) < 0) := by omega
  have h48i : ¬ (281474976710656 < (k : Int) * (i.bytes : Int)) := by
    rw [← Int.natCast_mul]
    omega
  have grown : ∀ (old : Nat), old < n + k → ∀ (row : Option Nat),
      (w.drew.alloc (.cells (xs.toArray ++ Builtin.zeroCells z.cells k ++ Builtin.zeroCells z.cells (grownCap w (n + k) old e - (n + k))) e)).ownsRow base e 1
        (.slice (some ⟨w.heap.size, 0, none⟩) (n + k) (grownCap w (n + k) old e)) (n + k) (xs ++ List.replicate k z) ∧
      w.grownBy (w.drew.alloc (.cells (xs.toArray ++ Builtin.zeroCells z.cells k ++ Builtin.zeroCells z.cells (grownCap w (n + k) old e - (n + k))) e)) row := by
    intro old ho row
    have hge := grownCap_ge w (n + k) old e
    have hcm : grownCap w (n + k) old e ≤ maxLen := grownCap_le_maxLen w (n + k) old e h63
    refine ⟨⟨hlen, .inr ⟨w.heap.size, _, _, rfl, hbase, heap_alloc_new w.drew _, hge, hcm, ?_, ?_⟩⟩, ⟨rfl, rfl, rfl, by simp, fun q hq _ => Below.heap_alloc w.drew _ q hq⟩⟩
    · have := hown.1
      simp only [Array.size_append, List.size_toArray, hzl, List.length_replicate]
      omega
    · simp only [Array.toList_append, hzl, List.append_assoc]
      rw [← List.append_assoc, ← hlen]
      exact List.take_left
  rcases hown.2 with ⟨rfl, rfl⟩ | ⟨g, cap, cur, rfl, hbg, hg, hnc, hcm, hcs, htake⟩
  · have hx : xs = [] := List.eq_nil_of_length_eq_zero (by simpa using hown.1)
    subst hx
    by_cases hk : k = 0
    · subst hk
      refine ⟨.slice none 0 0, w, ?_, World.ownsRow_nil w base e 1, ⟨rfl, rfl, rfl, Nat.le_refl _, fun _ _ _ => rfl⟩⟩
      simp [Builtin.append_, run_underlying ht, run_underlying htn, sizeOf, typeInfo, zeroValue, hi, hz, asInt, asIntOf, hsize, IntKind.wrap_i64]
    · have hr := Lib.run_append_nil_zeros (P := P) w t tn ty e i z kq kn ht htn hi hz k (by omega) (by omega) (by omega) hkb
      have hgr := grown 0 (by omega) (Value.ownBlock (.slice none 0 0))
      simp only [Nat.zero_add, List.nil_append, Array.empty_append] at hgr ⊢
      exact ⟨_, _, hr, hgr.1, hgr.2⟩
  · by_cases hroom : n + k ≤ cap
    · have hst := run_storeCells_at P g n e (List.replicate k z) 0 cur w hg (by rw [List.length_replicate]; omega) (by intro u hu; rw [(List.mem_replicate.1 hu).2]; exact h1)
      simp only [Nat.add_zero] at hst
      have hr : (Builtin.append_ #[t, tn] ty #[.slice (some ⟨g, 0, none⟩) n cap, .int kq k]).run P w =
          .ok (.slice (some ⟨g, 0, none⟩) (n + k) cap) (w.setRow g (cur.toList.take n ++ List.replicate k z ++ cur.toList.drop (n + k)).toArray) := by
        by_cases hk : k = 0
        · subst hk
          simp only [List.replicate_zero, List.length_nil, Nat.add_zero] at hst
          simp [Builtin.append_, run_underlying ht, run_underlying htn, sizeOf, typeInfo, zeroValue, hi, hz, asInt, asIntOf, hw, hneg, hroom, hsize, Addr.add_lit, IntKind.wrap_i64, show n ≤ cap from by omega]
          rw [hst]
          simp [Result.andThen]
        · have hz0 : (Builtin.zeroCells z.cells k).toList = List.replicate k z := by rw [hzl]
          rw [List.length_replicate] at hst
          simp [Builtin.append_, run_underlying ht, run_underlying htn, sizeOf, typeInfo, zeroValue, hi, hz, asInt, asIntOf, hw, hneg, h48i, hroom, hsize, hk, Addr.add_lit, hz0, hst]
      refine ⟨_, _, hr, ⟨hlen, .inr ⟨g, cap, _, rfl, hbg, setRow_heap w g cur _ e _ hg, hroom, hcm, ?_, ?_⟩⟩, ⟨rfl, rfl, rfl, by simp, fun k _ hk => setRow_other w g k _ (fun e => hk (by simp [Value.ownBlock, e]))⟩⟩
      · simp only [List.size_toArray, List.length_append, List.length_take, List.length_drop, Array.length_toList, List.length_replicate]
        omega
      · rw [← hlen, ← htake, Nat.mul_one]
        exact List.take_left
    · have holds : ∀ j u, xs[j]? = some u → w.cell? ((⟨g, 0, none⟩ : Addr).add j) = some u := hown.cells (g := g) rfl
      have hf := run_firstCells_some (P := P) w.drew 1 n ⟨g, 0, none⟩ n cap xs hown.1 holds
      have hr := Lib.run_append_grow_zeros (P := P) w t tn ty e i z kq kn ht htn hi hz (some ⟨g, 0, none⟩) n cap xs (by rw [hsize]; exact hf) k (by omega) (by omega) (by omega) (by omega) hkb (growslice_fits (by omega) hbytes)
      have hgr := grown cap (by omega) (Value.ownBlock (.slice (some ⟨g, 0, none⟩) n cap))
      exact ⟨_, _, hr, hgr.1, hgr.2⟩

theorem wpList_append_zeros {P : Program} {w : World} {ops : Array Oper} {rest : List Oper} {o : Oper} {a : Act} {Q : Exit → Act → World → Prop} (hgd : o.guard = none) (s x : Operand) (t tn : TypeId)
    (ho : o.op = .call { callee := .builtin .append, args := #[s, x], argTypes := #[t, tn] })
    (base : Nat) (e : TypeId) (i : TypeInfo) (z : Value) (bytes : Nat) (kq kn : IntKind) (ht : P.underlying t = some (.slice e)) (htn : P.underlying tn = some (.int kn)) (hi : P.info? e = some i) (hz : i.zero = some z)
    (hsize : i.size = 1) (hby : i.bytes = bytes) (hzs : z.cells = #[z]) (h1 : z.oneCell' = true)
    (v : Value) (n : Nat) (xs : List Value) (hs : a.eval s = v) (hown : w.ownsRow base e 1 v n xs) (k : Nat) (hx : a.eval x = .int kq k)
    (h63 : n + k ≤ maxLen) (hbytes : (n + k) * bytes ≤ 140737488355328) (hbase : base ≤ w.heap.size)
    (h : ∀ v' w', w'.ownsRow base e 1 v' (n + k) (xs ++ List.replicate k z) → w.grownBy w' v.ownBlock → wpList P ops Q rest (a.put o.dst v') w') : wpList P ops Q (o :: rest) a w := by
  obtain ⟨v', w', hr, h2, h3⟩ := run_append_own_zeros (P := P) w base t tn o.type e i z bytes kq kn ht htn hi hz hsize hby hzs h1 v n xs hown k h63 hbytes hbase
  exact Lib.wpList_append_run w hgd s x t tn ho v (.int kq k) hs hx v' w' hr (h v' w' h2 h3)

end Go.Proofs.YtichcdoijieddaaGreat.Az
end

/- What stands behind an opened volume in the laws: kept, still, written. -/
section
set_option linter.unusedVariables false
set_option linter.unusedSimpArgs false
set_option maxHeartbeats 2000000
set_option maxRecDepth 100000
namespace Go.Proofs.YtichcdoijieddaaGreat.Vs
open Go Go.RowKit
open Go.Proofs.YtichcdoijieddaaGreat.Ob Go.Proofs.YtichcdoijieddaaGreat.Ba Go.Proofs.YtichcdoijieddaaGreat.Ko Go.Proofs.YtichcdoijieddaaGreat.Ge Go.Proofs.YtichcdoijieddaaGreat.Oc Go.Proofs.YtichcdoijieddaaGreat.Pk Go.Proofs.YtichcdoijieddaaGreat.Su Go.Proofs.YtichcdoijieddaaGreat.Rf Go.Proofs.YtichcdoijieddaaGreat.Dv Go.Proofs.YtichcdoijieddaaGreat.Vo Go.Proofs.YtichcdoijieddaaGreat.Ra Go.Proofs.YtichcdoijieddaaGreat.Lo Go.Proofs.YtichcdoijieddaaGreat.Li Go.Proofs.YtichcdoijieddaaGreat.Cc

/-- the document's volume at block q, its words beside it -/
structure Sv (w W : World) (q : Nat) (n m s p3 p4 p5 : Int) (A8 : Option Addr) (T c8 : Nat) (L : List Int) : Prop where
  vol : W.heap[q]? = some (.cells #[.int .i64 n, .int .i64 m, .int .i64 s, .int .i64 16, .int .i64 (16 + 8 * m), .int .i64 p3, .int .i64 p4, .int .i64 p5, .slice A8 T c8] 33 (0, 0))
  row : Rk .u64 W A8 L
  below : Below w.heap.size w W
  lo : w.heap.size ≤ q
theorem Sv.keep {w W W' : World} {q : Nat} {n m s p3 p4 p5 : Int} {A8 : Option Addr} {T c8 : Nat} {L : List Int} (h : Sv w W q n m s p3 p4 p5 A8 T c8 L) (hb : Below W.heap.size W W') : Sv w W' q n m s p3 p4 p5 A8 T c8 L :=
  ⟨blk_bl h.vol hb, h.row.below hb, bl_then h.below hb, h.lo⟩
theorem Sv.to {w W W' : World} {q : Nat} {n m s p3 p4 p5 : Int} {A8 : Option Addr} {T c8 : Nat} {L : List Int} {F : List Nat} (h : Sv w W q n m s p3 p4 p5 A8 T c8 L) (hu : Upd F W W') (hF : ∀ k ∈ F, w.heap.size ≤ k ∧ k ≠ q) (hA : ∀ a, A8 = some a → a.block ∉ F) (hL : 1 ≤ L.length) : Sv w W' q n m s p3 p4 p5 A8 T c8 L := by
  refine ⟨hu.blk h.vol (fun hm => (hF _ hm).2 rfl), ?_, h.below.trans (hu.belowB h.below.size (fun k hk => (hF k hk).1)), h.lo⟩
  refine h.row.keep (fun a ha => ?_) hu.size
  obtain ⟨u, hu9⟩ := some_at (l := L) (i := 0) (by omega)
  obtain ⟨a', ha', hlt, -⟩ := h.row 0 u hu9
  rw [ha] at ha'
  cases ha'
  exact hu.block _ hlt (hA a ha)
theorem Sv.grown {w W W' : World} {q : Nat} {n m s p3 p4 p5 : Int} {A8 : Option Addr} {T c8 : Nat} {L : List Int} {row : Option Nat} (h : Sv w W q n m s p3 p4 p5 A8 T c8 L) (hg : W.grownBy W' row) (hr : ∀ k, row = some k → w.heap.size ≤ k ∧ k ≠ q ∧ ∀ a, A8 = some a → a.block ≠ k) (hL : 1 ≤ L.length) : Sv w W' q n m s p3 p4 p5 A8 T c8 L := by
  refine h.to (F := row.toList) ⟨hg.os, hg.tape, hg.output, hg.size, fun k hk hn => hg.block k hk (fun e => hn (by rw [← e]; simp))⟩ ?_ ?_ hL
  · intro k hk
    have := hr k (by simpa using hk)
    exact ⟨this.1, this.2.1⟩
  · intro a ha hm
    exact (hr _ (by simpa using hm)).2.2 a ha rfl

theorem Sv.still {w W : World} {q : Nat} {n m s p3 p4 p5 : Int} {A8 : Option Addr} {T c8 : Nat} {L : List Int} (h : Sv w W q n m s p3 p4 p5 A8 T c8 L) {v b n' m' s' : Nat} {g : Lay} (hv : VolIs W v b n' m' s' (Pm.devOf L) g) (hL : L.length = T) (h1 : 1 ≤ T) :
    Calls Tryz.prog 11 #[.pointer (some ⟨v, 0, none⟩), .agg #[.int .i64 n, .int .i64 m, .int .i64 s, .int .i64 16, .int .i64 (16 + 8 * m), .int .i64 p3, .int .i64 p4, .int .i64 p5, .slice A8 T c8]] W fun e w' => e = .returned (.bool true) ∧ Below W.heap.size W w' := by
  have hr : Rk .u64 W A8 (Pm.wordsOf (Pm.devOf L)) := by rw [words_devOf]; exact h.row
  have := still_yes hv (las_some hv.dev (by show 1 ≤ L.length; omega)) rfl (c := c8) hr n m s 16 (16 + 8 * m) p3 p4 p5
  rw [show (Pm.devOf L).las.length = T from hL] at this
  exact this

theorem _root_.Go.Proofs.YtichcdoijieddaaGreat.Vo.VolIs.grown {w w' : World} {v b n m s : Nat} {d : Dev} {g : Lay} {row : Option Nat} (h : VolIs w v b n m s d g) (hg : w.grownBy w' row) (hr : ∀ k, row = some k → k ≠ v ∧ k ∉ g.foot b) : VolIs w' v b n m s d g :=
  h.keep (hg.block v (lt_of h.blk) (fun e => (hr v e.symm).1 rfl)) (fun k hk => hg.block k (h.dev.lt k hk) (fun e => (hr k e.symm).2 hk))

/-- behind a write -/
theorem Sv.wrote {w W : World} {q : Nat} {n m s p3 p4 p5 : Int} {A8 : Option Addr} {T c8 : Nat} {L : List Int} (h : Sv w W q n m s p3 p4 p5 A8 T c8 L) {v b n' m' s' : Nat} {g : Lay} {d : Dev} (hv : VolIs W v b n' m' s' d g) (hL : L.length = T) (h1 : 1 ≤ T) {xs : List Int} (k : Nat)
    (hp : Wp.Pt (Pm.devOf L) d (wput L k xs) xs.length (nline k xs.length)) (hk : k + xs.length ≤ T) {B : Option Addr} {c2 : Nat} (hx : Rk .u64 W B xs) :
    Calls Tryz.prog 13 #[.pointer (some ⟨v, 0, none⟩), .agg #[.int .i64 n, .int .i64 m, .int .i64 s, .int .i64 16, .int .i64 (16 + 8 * m), .int .i64 p3, .int .i64 p4, .int .i64 p5, .slice A8 T c8], .int .i64 k, .slice B xs.length c2] W fun e w' => e = .returned (.bool true) ∧ Below W.heap.size W w' := by
  have hwr := wrote_yes hv (las_some hv.dev (by rw [hp.las]; show 1 ≤ L.length; omega)) (c := c8) (c2 := c2) h.row hx k (by omega) (by omega) hp.words (by rw [hp.stores]; show 0 + _ = _; omega) (by rw [hp.steps]; show 0 + _ + _ = _; omega) n m s 16 (16 + 8 * m) p3 p4 p5
  rw [hL] at hwr
  exact hwr

theorem conv_rk {W : World} {D : Option Addr} {l : List Nat} (h : Rk .u8 W D (ints l)) (c : Nat) :
    (convert 95 9 (.slice D l.length c)).run Tryz.prog W = .ok (.string (txt l)) W := by
  cases D with
  | none =>
    have hl : l = [] := by
      cases l with
      | nil => rfl
      | cons x r =>
        obtain ⟨a, e, -⟩ := h 0 x (by simp [ints])
        cases e
    subst hl
    exact run_convert_bytes_nil W 95 5 Tryz.underlying95 Tryz.underlying5 0 c 9 Tryz.underlying9
  | some a =>
    have hl : (loadCells a l.length).run Tryz.prog W = .ok ((ints l).map (Value.int .u8)).toArray W := by
      have := run_loadCells_list (P := Tryz.prog) W a ((ints l).map (Value.int .u8)) (fun j v hj => by
        simp only [List.getElem?_map, Option.map_eq_some_iff] at hj
        obtain ⟨z, hz, rfl⟩ := hj
        exact h.at_ hz)
      rw [List.length_map, ints_length] at this
      exact this
    rw [run_convert_bytes_string W 95 9 5 (some a) l.length c Tryz.underlying95 Tryz.underlying5 Tryz.underlying9, run_bytesToString W a l.length c (ints l) hl, foldl_push_bytes]
    simp [txt, strOfNums, ByteArray.empty, ByteArray.emptyWithCapacity]
    rfl

theorem run_append_arg (w : World) (base : Nat) (ty : TypeId) (n : Nat) (xs : List Value) (hown : w.ownsRow base 5 1 (.slice (some ⟨base, 0, none⟩) n n) n xs) {D : Option Addr} {data : List Nat} (hD : Rk .u8 w D (ints data)) (c : Nat) (hn : n + data.length ≤ 1000000) (hbase : base ≤ w.heap.size) :
    ∃ v' w', (Builtin.append_ #[95, 95] ty #[.slice (some ⟨base, 0, none⟩) n n, .slice D data.length c]).run Tryz.prog w = .ok v' w' ∧ w'.ownsRow base 5 1 v' (n + data.length) (xs ++ ivs .u8 (ints data)) ∧ w.grownBy w' (some base) := by
  obtain ⟨i0, hinf, hz0, hz1, hz2⟩ := info_parts (show (Tryz.prog.info? 5).map (fun i => (i.zero, i.size, i.bytes)) = some (some (.int .u8 0), 1, 1) by kernel_rfl)
  cases D with
  | none =>
    have hl : data = [] := by
      cases data with
      | nil => rfl
      | cons x r =>
        obtain ⟨a, e, -⟩ := hD 0 x (by simp [ints])
        cases e
    subst hl
    obtain ⟨h1, ⟨h2, _⟩ | ⟨g, cap, cur, hv, hg, hb, hnc, hm, hs, ht⟩⟩ := hown
    · cases h2
    · simp only [Value.slice.injEq, Option.some.injEq, Addr.mk.injEq, and_true, true_and] at hv
      obtain ⟨rfl, rfl⟩ := hv
      have hst : (storeCells ⟨base, n, none⟩ []).run Tryz.prog w = .ok () w := rfl
      refine ⟨_, w, ?_, ⟨by simpa [ivs, ints] using h1, .inr ⟨base, n, cur, rfl, hg, hb, hnc, hm, hs, by simpa [ivs, ints] using ht⟩⟩, ⟨rfl, rfl, rfl, Nat.le_refl _, fun _ _ _ => rfl⟩⟩
      simp [Builtin.append_, run_underlying Tryz.underlying95, sizeOf, typeInfo, hinf, Builtin.lenOf, Builtin.firstCells, hz1, Addr.add_lit, hst, Result.andThen]
  | some a =>
    obtain ⟨v', w', h1, h2, h3, -⟩ := run_append_own (P := Tryz.prog) w base 95 ty 5 i0 (.int .u8 0) 1 1 Tryz.underlying95 hinf hz0 hz1 hz2 rfl (by decide) _ n xs hown a data.length c (ivs .u8 (ints data)) (by rw [ivs_length, ints_length]; omega)
      (fun j u hj => by
        simp only [ivs, List.getElem?_map, Option.map_eq_some_iff] at hj
        obtain ⟨z, hz, rfl⟩ := hj
        exact hD.at_ hz) (ivs_oneCell _ _) (by unfold maxLen; omega) (by omega) hbase
    exact ⟨v', w', h1, h2, h3⟩

end Go.Proofs.YtichcdoijieddaaGreat.Vs
end
