/- Parts of the proof, one behind the other: Ce, Ps, Su, Sv, In, Io, By, Qb. -/
import Derived.Test.YtgnagbbdnlmgeaaGreatL01
import Derived.Test.YtgnagbbdnlmgeaaGreatL05
import Derived.Test.YtgnagbbdnlmgeaaGreatL02
import Derived.Test.YtgnagbbdnlmgeaaGreatL03
import Derived.Lib.SlBytesConst
import Derived.Deep.QuietTactic
import Derived.BigQuiet
import Derived.Deep.RegionHeld3
import Derived.Laws.BytesArg
set_option linter.unusedVariables false
set_option linter.unusedSimpArgs false
set_option linter.unusedSectionVars false
section
set_option maxHeartbeats 2000000
set_option maxRecDepth 100000
namespace Go.Proofs.YtgnagbbdnlmgeaaGreat.Cc
open Go Go.RowKit
open Ob Ba Cr C6 Oc
structure Part where
  A : Option Addr
  c : Nat
  l : List Nat
structure Part.Ok (k : World) (p : Part) : Prop where
  rd : Rk .u8 k p.A (ints p.l)
  lt : ∀ x ∈ p.l, x < 256
  len : p.l.length ≤ 9223372036854775807
def PsAt (w : World) (A : Option Addr) (ps : List Part) : Prop := ∀ (i : Nat) p, ps[i]? = some p → p.Ok w ∧ ∃ a, A = some a ∧ w.cell? (a.add i) = some (.slice p.A p.l.length p.c)
def allOf (ps : List Part) : List Nat := ps.flatMap (·.l)
theorem allOf_next {ps : List Part} {i : Nat} {p : Part} (h : ps[i]? = some p) : allOf (ps.take (i + 1)) = allOf (ps.take i) ++ p.l := by rw [take_next h]; simp [allOf]
theorem sumB_app (s : Nat) (a b : List Nat) : sumB s (a ++ b) = sumB (sumB s a) b := List.foldl_append ..
theorem sum6_app (s : Nat) (a b : List Nat) : sum6 s (a ++ b) = sum6 (sum6 s a) b := List.foldl_append ..
theorem sumB_one_ (s x : Nat) : sumB s [x] = stp s x := rfl
theorem sum6_one_ (s x : Nat) : sum6 s [x] = stp6 s x := rfl
theorem all_lt {w : World} {A : Option Addr} {ps : List Part} (h : PsAt w A ps) : ∀ x ∈ allOf ps, x < 256 := by
  intro x hx
  simp only [allOf, List.mem_flatMap] at hx
  obtain ⟨p, hp, hx⟩ := hx
  obtain ⟨i, hi, hpi⟩ := List.getElem_of_mem hp
  exact (h i p (by rw [List.getElem?_eq_getElem hi, hpi])).1.lt x hx
theorem sum32_ {w : World} {A : Option Addr} {ps : List Part} (h : PsAt w A ps) (c : Nat) (hn : ps.length ≤ 9223372036854775807) :
    Calls Tryz.prog 166 #[.slice A ps.length c] w fun e w' => e = .returned (.int .u32 (4294967295 - (sumB 4294967295 (allOf ps) : Nat) : Int)) ∧ w = w' := by
  have H := Lib.hid h
  have HLT := Lib.hid (all_lt h)
  obtain ⟨n, hnn⟩ : ∃ n, n = ps.length := ⟨_, rfl⟩
  rw [← hnn]
  rw [← hnn] at hn
  have HN := Lib.hid hnn
  clear h hnn
  go_enter Tryz.func166, Tryz.ntmps166
  go_wp2_with fail
  go_loop [10, 3] (fun c10 c3 => ∃ (i s : Nat), i ≤ n ∧ c10 = .int .i64 i ∧ c3 = .int .u32 s ∧ s < 4294967296 ∧ Hid (s = sumB 4294967295 (allOf (ps.take i)))) (fun c10 _ => n - (intOf c10).toNat)
  case atStart => exact ⟨0, 4294967295, Nat.zero_le _, rfl, rfl, by decide, rfl⟩
  case round =>
    obtain ⟨i, s, hi, rfl, rfl, hs, HR⟩ := hrel
    by_cases hlt : i < n
    · obtain ⟨p, hp⟩ := some_at (l := ps) (i := i) (by rw [← HN.out]; exact hlt)
      obtain ⟨hok, a, rfl, ha⟩ := H.out i p hp
      obtain ⟨o1, o2, o3⟩ := hok
      have HP := Lib.hid (And.intro hp (And.intro o1 o2))
      obtain ⟨m, hm⟩ : ∃ m, m = p.l.length := ⟨_, rfl⟩
      rw [← hm] at ha o3
      have HM := Lib.hid hm
      clear hp o1 o2 hm
      go_wp2_with fail
      go_loop [16, 3] (fun c16 c3 => ∃ (j s : Nat), j ≤ m ∧ c16 = .int .i64 j ∧ c3 = .int .u32 s ∧ s < 4294967296 ∧ Hid (s = sumB 4294967295 (allOf (ps.take i) ++ p.l.take j))) (fun c16 _ => m - (intOf c16).toNat)
      case atStart => exact ⟨0, s, Nat.zero_le _, rfl, rfl, hs, by show s = _; rw [HR.out]; simp⟩
      case round =>
        obtain ⟨j, t, hj, rfl, rfl, ht, HQ⟩ := hrel
        by_cases hl : j < m
        · obtain ⟨x, hx⟩ := some_at (l := p.l) (i := j) (by rw [← HM.out]; exact hl)
          obtain ⟨b, hb, -, hcx⟩ := HP.out.2.1 j x (ints_get hx)
          rw [hb] at ha
          have hx8 : x < 256 := HP.out.2.2 x (List.mem_of_getElem? hx)
          have HX : Hid (stp t x = sumB 4294967295 (allOf (ps.take i) ++ p.l.take (j + 1))) := by
            show stp t x = _
            rw [take_next hx, ← List.append_assoc, sumB_app, ← HQ.out]
            rfl
          have hlt2 : stp t x < 4294967296 := stp_lt t x ht hx8
          have HB := Lib.hid hb
          clear hx hb
          simp only [HB.out]
          go_wp2_with (go_at_call 187; refine (step32_ t x ht hx8 _).mono ?_; rintro e w5 ⟨rfl, rfl⟩)
          go_round
          case rel => exact ⟨j + 1, _, by omega, by go_num, rfl, hlt2, HX⟩
          case measure => simp [intOf]; omega
        · obtain rfl : j = m := by omega
          have HX : Hid (t = sumB 4294967295 (allOf (ps.take (i + 1)))) := by
            have := HQ.out
            rw [List.take_of_length_le (l := p.l) (by rw [← HM.out]; omega), ← allOf_next HP.out.1] at this
            exact this
          go_wp2_with fail
          go_round
          case rel => exact ⟨i + 1, t, by omega, by go_num, rfl, ht, HX⟩
          case measure => simp [intOf]; omega
    · obtain rfl : i = n := by omega
      have HE : Hid (s = sumB 4294967295 (allOf ps)) := by
        have := HR.out
        rw [List.take_of_length_le (l := ps) (by rw [← HN.out]; omega)] at this
        exact this
      have he : Go.bits .xor .u32 IntKind.u32.max (s : Int) = 4294967295 - (s : Int) := by
        have := bits_xor32 4294967295 s (by decide) hs
        rw [not32 s hs] at this
        refine this.trans ?_
        omega
      go_wp2_with fail
      go_ret
      exact ⟨by rw [HE.out]; rfl, rfl⟩
theorem sum16_ {w : World} {A : Option Addr} {ps : List Part} (h : PsAt w A ps) (c : Nat) (hn : ps.length ≤ 9223372036854775807) :
    Calls Tryz.prog 151 #[.slice A ps.length c] w fun e w' => e = .returned (.int .u16 (sum6 65535 (allOf ps) : Nat)) ∧ w = w' := by
  have H := Lib.hid h
  have HLT := Lib.hid (all_lt h)
  obtain ⟨n, hnn⟩ : ∃ n, n = ps.length := ⟨_, rfl⟩
  rw [← hnn]
  rw [← hnn] at hn
  have HN := Lib.hid hnn
  clear h hnn
  go_enter Tryz.func151, Tryz.ntmps151
  go_wp2_with fail
  go_loop [10, 3] (fun c10 c3 => ∃ (i s : Nat), i ≤ n ∧ c10 = .int .i64 i ∧ c3 = .int .u16 s ∧ s < 65536 ∧ Hid (s = sum6 65535 (allOf (ps.take i)))) (fun c10 _ => n - (intOf c10).toNat)
  case atStart => exact ⟨0, 65535, Nat.zero_le _, rfl, rfl, by decide, rfl⟩
  case round =>
    obtain ⟨i, s, hi, rfl, rfl, hs, HR⟩ := hrel
    by_cases hlt : i < n
    · obtain ⟨p, hp⟩ := some_at (l := ps) (i := i) (by rw [← HN.out]; exact hlt)
      obtain ⟨hok, a, rfl, ha⟩ := H.out i p hp
      obtain ⟨o1, o2, o3⟩ := hok
      have HP := Lib.hid (And.intro hp (And.intro o1 o2))
      obtain ⟨m, hm⟩ : ∃ m, m = p.l.length := ⟨_, rfl⟩
      rw [← hm] at ha o3
      have HM := Lib.hid hm
      clear hp o1 o2 hm
      go_wp2_with fail
      go_loop [16, 3] (fun c16 c3 => ∃ (j s : Nat), j ≤ m ∧ c16 = .int .i64 j ∧ c3 = .int .u16 s ∧ s < 65536 ∧ Hid (s = sum6 65535 (allOf (ps.take i) ++ p.l.take j))) (fun c16 _ => m - (intOf c16).toNat)
      case atStart => exact ⟨0, s, Nat.zero_le _, rfl, rfl, hs, by show s = _; rw [HR.out]; simp⟩
      case round =>
        obtain ⟨j, t, hj, rfl, rfl, ht, HQ⟩ := hrel
        by_cases hl : j < m
        · obtain ⟨x, hx⟩ := some_at (l := p.l) (i := j) (by rw [← HM.out]; exact hl)
          obtain ⟨b, hb, -, hcx⟩ := HP.out.2.1 j x (ints_get hx)
          rw [hb] at ha
          have hx8 : x < 256 := HP.out.2.2 x (List.mem_of_getElem? hx)
          have HX : Hid (stp6 t x = sum6 65535 (allOf (ps.take i) ++ p.l.take (j + 1))) := by
            show stp6 t x = _
            rw [take_next hx, ← List.append_assoc, sum6_app, ← HQ.out]
            rfl
          have hlt2 : stp6 t x < 65536 := stp6_lt t x ht hx8
          have HB := Lib.hid hb
          clear hx hb
          simp only [HB.out]
          go_wp2_with (go_at_call 183; refine (step16_ t x ht hx8 _).mono ?_; rintro e w5 ⟨rfl, rfl⟩)
          go_round
          case rel => exact ⟨j + 1, _, by omega, by go_num, rfl, hlt2, HX⟩
          case measure => simp [intOf]; omega
        · obtain rfl : j = m := by omega
          have HX : Hid (t = sum6 65535 (allOf (ps.take (i + 1)))) := by
            have := HQ.out
            rw [List.take_of_length_le (l := p.l) (by rw [← HM.out]; omega), ← allOf_next HP.out.1] at this
            exact this
          go_wp2_with fail
          go_round
          case rel => exact ⟨i + 1, t, by omega, by go_num, rfl, ht, HX⟩
          case measure => simp [intOf]; omega
    · obtain rfl : i = n := by omega
      have HE : Hid (s = sum6 65535 (allOf ps)) := by
        have := HR.out
        rw [List.take_of_length_le (l := ps) (by rw [← HN.out]; omega)] at this
        exact this
      go_wp2_with fail
      go_ret
      exact ⟨by rw [HE.out]; rfl, rfl⟩
theorem words32_ {w : World} {A : Option Addr} {l : List Nat} (h : Rk .u64 w A (ints l)) (hl : ∀ x ∈ l, x < 18446744073709551616) (c : Nat) (hn : l.length ≤ 1000000) :
    Calls Tryz.prog 157 #[.slice A l.length c] w fun e w' => e = .returned (.int .u32 (4294967295 - (sumB 4294967295 (octs l) : Nat) : Int)) ∧ Below w.heap.size w w' := by
  have ho := octets_ h hl c (by omega)
  have HO := Lib.hid ho
  obtain ⟨n, hnn⟩ : ∃ n, n = l.length := ⟨_, rfl⟩
  have hol := octs_length l
  have HLT := Lib.hid (octs_lt l)
  clear h hl ho
  go_enter Tryz.func157, Tryz.ntmps157
  go_wp2_with fail
  refine HO.out.mono ?_
  rintro e w1 ⟨v, rfl, hown, hb⟩
  obtain ⟨A1, c1, rfl⟩ := own_slice hown
  have hrk := own_rk hown
  have HB := Lib.hid hb
  have hps : PsAt (w1.alloc (.cells #[.slice A1 (8 * l.length) c1] 59)) (some ⟨w1.heap.size, 0, none⟩) [⟨A1, c1, octs l⟩] := by
    intro i p hp
    match i, hp with
    | 0, hp =>
      simp at hp
      subst hp
      refine ⟨⟨hrk.1.below (bl_alloc (Below.refl _ _) _), HLT.out, by simp only; omega⟩, _, rfl, ?_⟩
      simp only [hol]
      exact one_at _ _ _ 0 _ rfl
  have HPS := Lib.hid (sum32_ hps 1 (by simp))
  clear hown hb hrk hps
  go_wp2_with fail
  refine HPS.out.mono ?_
  rintro e w2 ⟨rfl, rfl⟩
  go_wp2_with fail
  go_ret
  exact ⟨by simp [allOf], bl_alloc HB.out _⟩
end Go.Proofs.YtgnagbbdnlmgeaaGreat.Cc
end
section
set_option maxHeartbeats 2000000
set_option maxRecDepth 100000
namespace Go.Proofs.YtgnagbbdnlmgeaaGreat.Pk
open Go Go.RowKit
open Ob Ba Oc
def spl : Nat → List Nat → List Nat
  | _, [] => []
  | x, n :: r => (x % 2 ^ n) :: spl (x / 2 ^ n) r
theorem spl_snoc (x : Nat) (l : List Nat) (n : Nat) : spl x (l ++ [n]) = spl x l ++ [x / 2 ^ l.sum % 2 ^ n] := by
  induction l generalizing x with
  | nil => simp [spl]
  | cons m l ih =>
    simp only [List.cons_append, spl, ih, List.sum_cons, Nat.div_div_eq_div_mul, Nat.pow_add]
theorem shl_shr (x n : Nat) (hx : x < 18446744073709551616) (hn : n ≤ 64) : IntKind.u64.wrap ((x : Int) * 2 ^ (64 - n)) / 2 ^ (64 - n) = ((x % 2 ^ n : Nat) : Int) := by
  have e : (x : Int) * 2 ^ (64 - n) = ((x * 2 ^ (64 - n) : Nat) : Int) := by norm_cast
  have hw : IntKind.u64.wrap ((x * 2 ^ (64 - n) : Nat) : Int) = ((x * 2 ^ (64 - n) % 18446744073709551616 : Nat) : Int) := by
    simp [IntKind.wrap, IntKind.bits, IntKind.signed]
  rw [e, hw]
  have h2 : (18446744073709551616 : Nat) = 2 ^ n * 2 ^ (64 - n) := by rw [← Nat.pow_add, show n + (64 - n) = 64 from by omega]
  have h3 : x * 2 ^ (64 - n) % 18446744073709551616 = x % 2 ^ n * 2 ^ (64 - n) := by rw [h2, Nat.mul_mod_mul_right]
  rw [h3]
  have h4 : (x % 2 ^ n * 2 ^ (64 - n)) / 2 ^ (64 - n) = x % 2 ^ n := Nat.mul_div_cancel _ (Nat.two_pow_pos _)
  refine Eq.trans ?_ (congrArg (fun z : Nat => (z : Int)) h4)
  norm_cast
theorem split_ {w : World} {A : Option Addr} {ws : List Nat} (h : Rk .i64 w A (ints ws)) (x : Nat) (hx : x < 18446744073709551616) (c : Nat) (hlo : ∀ n ∈ ws, 1 ≤ n) (hs : ws.sum ≤ 64) (hn : ws.length ≤ 64) :
    Calls Tryz.prog 133 #[.int .u64 x, .slice A ws.length c] w fun e w' => ∃ v, e = .returned (.tuple #[v, .bool (decide (x / 2 ^ ws.sum = 0))]) ∧ (x / 2 ^ ws.sum = 0 → w'.ownsRow w.heap.size 94 1 v ws.length (ivs .u64 (ints (spl x ws)))) ∧ Below w.heap.size w w' := by
  have H := Lib.hid h
  have HLO := Lib.hid hlo
  have HSU := Lib.hid hs
  obtain ⟨m, hnn⟩ : ∃ m, m = ws.length := ⟨_, rfl⟩
  rw [← hnn]
  rw [← hnn] at hn
  have HN := Lib.hid hnn
  clear h hlo hs hnn
  obtain ⟨x0, hx0⟩ : ∃ x0, x0 = x := ⟨_, rfl⟩
  have HX0 := Lib.hid hx0
  obtain ⟨i0, hinf, hz0, hz1, hz2⟩ := info_parts (show (Tryz.prog.info? 94).map (fun i => (i.zero, i.size, i.bytes)) = some (some (.int .u64 0), 1, 8) by kernel_rfl)
  clear hx0
  go_enter Tryz.func133, Tryz.ntmps133
  go_wp2_with fail
  go_loopw [12, 0, 6, 7] (fun c12 c0 c6 c7 wr => ∃ i y t : Nat, i ≤ m ∧ c12 = .int .i64 i ∧ c0 = .int .u64 y ∧ c7 = .int .i64 ((64 - t : Nat) : Int) ∧ t ≤ 64 ∧ y < 18446744073709551616 ∧ Hid (t = (ws.take i).sum ∧ y = x0 / 2 ^ t ∧ Below w.heap.size w wr ∧ wr.ownsRow w.heap.size 94 1 c6 i (ivs .u64 (ints (spl x0 (ws.take i)))))) (fun c12 _ _ _ _ => m - (intOf c12).toNat)
  case atStart => exact ⟨0, x, 0, Nat.zero_le _, rfl, rfl, rfl, by omega, hx, rfl, by rw [HX0.out]; simp, Below.refl _ _, own_nil0 _ _ _ _⟩
  case round =>
    obtain ⟨i, y, t, hi, rfl, rfl, rfl, ht, hy, HR⟩ := hrel
    by_cases hlt : i < m
    · obtain ⟨n, hp⟩ := some_at (l := ws) (i := i) (by rw [← HN.out]; exact hlt)
      obtain ⟨a, rfl, hq, e1⟩ := (H.out.below HR.out.2.2.1) i _ (ints_get hp)
      have hn1 := HLO.out n (List.mem_of_getElem? hp)
      have hsum : t + n = (ws.take (i + 1)).sum := by rw [take_next hp, List.sum_append, ← HR.out.1]; simp
      have hle : t + n ≤ 64 := by
        have : ws.sum = (ws.take (i + 1)).sum + (ws.drop (i + 1)).sum := by rw [← List.sum_append, List.take_append_drop]
        have := HSU.out
        omega
      have HP := Lib.hid (And.intro hp hsum)
      clear hp hsum hq
      have hc1 : ((64 - t : Nat) : Int) = 64 - (t : Int) := by omega
      have HOW := Lib.hid (fun o => own_kp (W' := wr.alloc o) HR.out.2.2.2 (fun k _ hk => Below.heap_alloc _ _ k hk))
      have hv := shl_shr y n hy (by omega)
      have hv2 : (y : Int) / 2 ^ n = ((y / 2 ^ n : Nat) : Int) := by norm_cast
      have hy2 : y / 2 ^ n < 18446744073709551616 := Nat.lt_of_le_of_lt (Nat.div_le_self _ _) hy
      have hm : y % 2 ^ n < 18446744073709551616 := Nat.lt_of_le_of_lt (Nat.mod_le _ _) hy
      have HS : Hid (spl x0 (ws.take (i + 1)) = spl x0 (ws.take i) ++ [y % 2 ^ n] ∧ y / 2 ^ n = x0 / 2 ^ (t + n)) := by
        refine ⟨?_, ?_⟩
        · rw [take_next HP.out.1, spl_snoc, ← HR.out.1, ← HR.out.2.1]
        · rw [HR.out.2.1, Nat.div_div_eq_div_mul, Nat.pow_add]
      generalize y % 2 ^ n = r at *
      generalize y / 2 ^ n = y2 at *
      go_wp2_with (at_builtin; refine wpList_append_own _ rfl (.tmp 23) (.tmp 31) 22 rfl w.heap.size 94 i0 (.int .u64 0) 1 8 Tryz.underlying22 hinf hz0 hz1 hz2 rfl (by decide) _ i _ rfl (HOW.out _) ⟨wr.heap.size, 0, none⟩ 1 1 [.int .u64 r] rfl rfl (one_at _ _ _) (by intro u hu; simp at hu; subst hu; rfl) (by unfold maxLen; omega) (by omega) (by have h1 := HR.out.2.2.1.size; simp; omega) ?_; intro v' w7 hown' hgrow _; (have HO := Lib.hid hown'); (have HG := Lib.hid hgrow); clear hown' hgrow)
      have HZ : Hid (Below w.heap.size w w7 ∧ w7.ownsRow w.heap.size 94 1 v' (i + 1) (ivs .u64 (ints (spl x0 (ws.take (i + 1)))))) := by
        refine ⟨bl_grown (bl_alloc HR.out.2.2.1 _) HG.out (own_lo HR.out.2.2.2), ?_⟩
        rw [HS.out.1, ints_append, ivs_append]
        exact HO.out
      go_roundw
      case rel => exact ⟨i + 1, y2, t + n, by omega, by go_num, rfl, congrArg (Value.int IntKind.i64) (by omega), hle, hy2, HP.out.2, HS.out.2, HZ.out⟩
      case measure => simp [intOf]; omega
    · obtain rfl : i = m := by omega
      have e : ws.take i = ws := List.take_of_length_le (by rw [← HN.out]; omega)
      have h2 := HR.out
      rw [e] at h2
      have HE := Lib.hid h2
      clear h2 e
      by_cases hz : y = 0
      · have e1 : ((y : Int) != 0) = false := by simp [hz]
        have HZ : Hid (x / 2 ^ ws.sum = 0) := by
          show _ = _
          rw [← HX0.out, ← HE.out.1, ← HE.out.2.1]; exact hz
        clear hz
        go_wp2_with fail
        go_ret2
        refine ⟨_, by rw [decide_eq_true HZ.out]; rfl, fun _ => ?_, HE.out.2.2.1⟩
        have := HE.out.2.2.2
        rw [HX0.out] at this
        exact this
      · have e1 : ((y : Int) != 0) = true := by rw [bne_iff_ne]; omega
        have HZ : Hid (x / 2 ^ ws.sum ≠ 0) := by
          show _ ≠ _
          rw [← HX0.out, ← HE.out.1, ← HE.out.2.1]; exact hz
        clear hz
        go_wp2_with fail
        go_ret2
        exact ⟨_, by rw [decide_eq_false HZ.out]; rfl, fun h => absurd h HZ.out, HE.out.2.2.1⟩
end Go.Proofs.YtgnagbbdnlmgeaaGreat.Pk
end
section
set_option maxHeartbeats 2000000
set_option maxRecDepth 100000
namespace Go.Proofs.YtgnagbbdnlmgeaaGreat.Su
open Go Go.RowKit
open Ob Ba Ko Ge Cr Cc Oc Pk
def head7 (a b : Nat) : List Nat := [a, b, 0, 0, 0, 0, 0]
def sum7 (a b : Nat) : Nat := 4294967295 - sumB 4294967295 (octs (head7 a b))
def line (a b : Nat) : List Nat := [a, b, 0, 0, 0, 0, 0, sum7 a b]
theorem sum7_lt (a b : Nat) : sum7 a b < 4294967296 := by unfold sum7; omega
theorem sumB_le (l : List Nat) : sumB 4294967295 (octs l) < 4294967296 := sumB_lt _ _ (by decide) (octs_lt l)
theorem sum7_int (a b : Nat) : (4294967295 - (sumB 4294967295 (octs (head7 a b)) : Nat) : Int) = (sum7 a b : Nat) := by
  have := sumB_le (head7 a b)
  unfold sum7
  omega
def magic : Nat := 3544409100874826051
def word1 (n m s : Nat) : Nat := n + 65536 * m + 4294967296 * s
def enc (n m s : Nat) : List Nat := line magic (word1 n m s)
theorem fill_line {W : World} {k T : Nat} {a b : Nat} (h : W.heap[k]? = some (.cells #[.int .u64 a, .int .u64 b, .int .u64 0, .int .u64 0, .int .u64 0, .int .u64 0, .int .u64 0, .int .u64 0] T (0, 0))) : Rk .u64 W (some ⟨k, 0, none⟩) (ints (head7 a b)) := by
  refine blk_rk h fun i x hx => ?_
  match i with
  | 0 => simpa [ints, head7] using hx
  | 1 => simpa [ints, head7] using hx
  | 2 => simpa [ints, head7] using hx
  | 3 => simpa [ints, head7] using hx
  | 4 => simpa [ints, head7] using hx
  | 5 => simpa [ints, head7] using hx
  | 6 => simpa [ints, head7] using hx
  | i + 7 => simp [ints, head7] at hx
theorem head7_lt {a b : Nat} (ha : a < 18446744073709551616) (hb : b < 18446744073709551616) : ∀ x ∈ head7 a b, x < 18446744073709551616 := by
  intro x hx
  simp only [head7, List.mem_cons, List.not_mem_nil, or_false] at hx
  omega
theorem fields_at {W : World} {q T : Nat} {l : List (Nat × Nat)} {fr : Nat × Nat} (h : W.heap[q]? = some (.cells ((l.flatMap fun p => [Value.int .i64 p.1, Value.int .u64 p.2])).toArray T fr)) (ho : ∀ p ∈ l, FOk p.1 p.2) : FsAt W (some ⟨q, 0, none⟩) l := by
  have key : ∀ (l : List (Nat × Nat)) (i : Nat) p, l[i]? = some p → (l.flatMap fun p => [Value.int .i64 p.1, Value.int .u64 p.2])[i * 2]? = some (.int .i64 p.1) ∧ (l.flatMap fun p => [Value.int .i64 p.1, Value.int .u64 p.2])[i * 2 + 1]? = some (.int .u64 p.2) := by
    intro l
    induction l with
    | nil => intro i p h; simp at h
    | cons a l ih =>
      intro i p h
      cases i with
      | zero => simp at h; subst h; simp
      | succ i =>
        rw [List.getElem?_cons_succ] at h
        obtain ⟨h1, h2⟩ := ih i p h
        rw [List.flatMap_cons]
        rw [show (i + 1) * 2 = i * 2 + 2 from by omega, show i * 2 + 2 + 1 = (i * 2 + 1) + 2 from by omega]
        simp only [List.cons_append, List.nil_append, List.getElem?_cons_succ]
        exact ⟨h1, h2⟩
  intro i p hi
  obtain ⟨k1, k2⟩ := key l i p hi
  refine ⟨ho p (List.mem_of_getElem? hi), q, 0, rfl, lt_of h, ?_, ?_⟩
  · rw [cell_of h, Nat.zero_add]; simpa using k1
  · rw [cell_of h, Nat.zero_add]; simpa using k2
theorem magic_wds : wds [67, 65, 78, 84, 76, 69, 48, 49] = [magic] := by decide
theorem f16 {v : Nat} (h : v < 65536) : FOk 16 v := ⟨by omega, by omega, h⟩
end Go.Proofs.YtgnagbbdnlmgeaaGreat.Su
end
section
set_option maxHeartbeats 2000000
set_option maxRecDepth 100000
namespace Go.Proofs.YtgnagbbdnlmgeaaGreat.Su
open Go Go.RowKit
open Ob Ba Ko Ge Cr Cc Oc Pk
theorem encode_no (n m s : Int) (h : geoOk n m s = false) (w : World) :
    Calls Tryz.prog 125 #[.agg #[.int .i64 n, .int .i64 m, .int .i64 s]] w fun e w' => e = .returned (.tuple #[.slice none 0 0, .int .i64 1]) ∧ Below w.heap.size w w' := by
  have hu := Tryz.underlying34
  have hm := may_ n m s
  rw [h] at hm
  have HM := Lib.hid hm
  clear h hm
  go_enter Tryz.func125, Tryz.ntmps125
  go_wp2_with (go_at_call 140; refine (HM.out _).mono ?_; rintro e w1 ⟨rfl, hb⟩; (have HB := Lib.hid hb); clear hb)
  go_ret2
  exact ⟨rfl, bl_then (bl_alloc (Below.refl _ _) _) HB.out⟩
theorem encode_yes (n m s : Nat) (h : geoOk n m s = true) (hn : n < 65536) (hm : m < 65536) (hs : s < 65536) (w : World) :
    Calls Tryz.prog 125 #[.agg #[.int .i64 n, .int .i64 m, .int .i64 s]] w fun e w' => ∃ v, e = .returned (.tuple #[v, .int .i64 0]) ∧ w'.ownsRow w.heap.size 94 1 v 8 (ivs .u64 (ints (enc n m s))) ∧ Below w.heap.size w w' := by
  have hu := Tryz.underlying34
  have hmay := may_ n m s
  rw [h] at hmay
  have HM := Lib.hid hmay
  have q1 : IntKind.u64.wrap (n : Int) = n := wu64 _ (by omega) (by omega)
  have q2 : IntKind.u64.wrap (m : Int) = m := wu64 _ (by omega) (by omega)
  have q3 : IntKind.u64.wrap (s : Int) = s := wu64 _ (by omega) (by omega)
  have HF := Lib.hid (And.intro (f16 hn) (And.intro (f16 hm) (f16 hs)))
  have hw1 : word1 n m s < 18446744073709551616 := by unfold word1; omega
  have hpv : pv [(16, n), (16, m), (16, s)] = word1 n m s := by simp [pv, word1]; omega
  have HPV := Lib.hid hpv
  have kc := fun (w : World) (C : Array Value) (n c : Nat) => Lib.run_convert_bytes_const (P := Tryz.prog) w 59 5 C n c Tryz.underlying59 Tryz.underlying5
  clear h hmay hpv
  go_enter Tryz.func125, Tryz.ntmps125
  go_wp2_with (go_at_call 140; refine (HM.out _).mono ?_; rintro e w1 ⟨rfl, hb⟩; (obtain ⟨hc, hf⟩ := bcell hb); (have HB := Lib.hid hb); clear hb hf)
  have hfs : FsAt (w1.alloc (.cells #[.int .i64 16, .int .u64 n, .int .i64 16, .int .u64 m, .int .i64 16, .int .u64 s] 215)) (some ⟨w1.heap.size, 0, none⟩) [(16, n), (16, m), (16, s)] := by
    refine fields_at (T := 215) (fr := (0, 0)) (alloc_new _ _) ?_
    intro p hp
    simp only [List.mem_cons, List.not_mem_nil, or_false] at hp
    rcases hp with rfl | rfl | rfl
    · exact HF.out.1
    · exact HF.out.2.1
    · exact HF.out.2.2
  have hpk := pack_ hfs 3 (by simp [wid]) (by simp)
  rw [HPV.out] at hpk
  have HPK := Lib.hid hpk
  clear hfs hpk hc
  generalize hzw : word1 n m s = z at *
  have HZW := Lib.hid hzw
  clear hzw
  go_wp2_with fail
  refine HPK.out.mono ?_
  rintro e w2 ⟨rfl, hb⟩
  have HB2 := Lib.hid hb
  have hz2 := hb.size
  simp only [World.size_alloc] at hz2
  clear hb
  have kc2 := kc (w2.alloc (.cells (Array.replicate 8 (.int .u64 0)) 94 (0, 0))) #[.int .u8 67, .int .u8 65, .int .u8 78, .int .u8 84, .int .u8 76, .int .u8 69, .int .u8 48, .int .u8 49] 8 8
  rw [World.size_alloc] at kc2
  clear kc
  go_wp2_with (at_make; refine Go.Proofs.YtgnagbbdnlmgeaaGreat.Wl.wpl_make rfl _ 22 94 rfl (.int .u64 0) 8 Tryz.underlying22 info_u64 rfl 8 .i64 _ rfl rfl (by decide) (by decide) ?_)
  clear kc2
  have hblk := alloc_new (w2.alloc (.cells (Array.replicate 8 (.int .u64 0)) 94 (0, 0))) (.cells #[.int .u8 67, .int .u8 65, .int .u8 78, .int .u8 84, .int .u8 76, .int .u8 69, .int .u8 48, .int .u8 49] 5 (8, 9))
  rw [World.size_alloc] at hblk
  have hrk : Rk .u8 ((w2.alloc (.cells (Array.replicate 8 (.int .u64 0)) 94 (0, 0))).alloc (.cells #[.int .u8 67, .int .u8 65, .int .u8 78, .int .u8 84, .int .u8 76, .int .u8 69, .int .u8 48, .int .u8 49] 5 (8, 9))) (some ⟨w2.heap.size + 1, 0, none⟩) (ints [67, 65, 78, 84, 76, 69, 48, 49]) := by
    refine blk_rk hblk fun i x hx => ?_
    match i with
    | 0 => simpa [ints] using hx
    | 1 => simpa [ints] using hx
    | 2 => simpa [ints] using hx
    | 3 => simpa [ints] using hx
    | 4 => simpa [ints] using hx
    | 5 => simpa [ints] using hx
    | 6 => simpa [ints] using hx
    | 7 => simpa [ints] using hx
    | i + 8 => simp [ints] at hx
  refine (words_ hrk (by decide) 8 (by decide)).mono ?_
  rintro e w3 ⟨v3, rfl, hown, hb3⟩
  rw [magic_wds, show [magic].length = 1 from rfl] at hown
  obtain ⟨y, hy⟩ : ∃ y, y = magic := ⟨_, rfl⟩
  rw [← hy] at hown
  have hy9 : y < 18446744073709551616 := by rw [hy]; decide
  have HY := Lib.hid hy
  clear hy
  obtain ⟨A3, c3, rfl⟩ := own_slice hown
  obtain ⟨g3, rfl, hcell3, _⟩ := own_at (i := 0) (x := (y : Nat)) hown rfl
  have hz4 := hb3.size
  simp only [World.size_alloc] at hz4
  have hL3 : w3.heap[w2.heap.size]? = some (.cells (Array.replicate 8 (.int .u64 0)) 94 (0, 0)) := by
    rw [hb3.block _ (by simp; omega)]
    exact alloc_old (alloc_new _ _) _
  have l0 := cell_of hL3 0
  have l1 := cell_of hL3 1
  have f0 := free_of hL3 0
  have f1 := free_of hL3 1
  simp only [Array.getElem?_replicate] at l0 l1
  have hL4 := set_same (set_same hL3 0 (.int .u64 y)) 1 (.int .u64 z)
  have hu4 : Upd [w2.heap.size] w3 ((w3.setCell ⟨w2.heap.size, 0, none⟩ (.int .u64 y)).setCell ⟨w2.heap.size, 1, none⟩ (.int .u64 z)) := ((Upd.refl _ _).setCell (by simp) _).setCell (by simp) _
  have hr4 := fill_line hL4
  have HB3 := Lib.hid hb3
  have HL4 := Lib.hid hL4
  have HU4 := Lib.hid hu4
  have hr5 := words32_ hr4 (head7_lt (a := y) (b := z) hy9 hw1) 8 (by simp [head7])
  rw [show (head7 y z).length = 7 from rfl] at hr5
  have HR4 := Lib.hid hr5
  clear hown hb3 hL3 hL4 hu4 hr4 hr5 hz4 hblk hrk
  go_wp2_with fail
  generalize (w3.setCell ⟨w2.heap.size, 0, none⟩ (.int .u64 y)).setCell ⟨w2.heap.size, 1, none⟩ (.int .u64 z) = w4 at *
  refine HR4.out.mono ?_
  rw [sum7_int]
  rintro e w5 ⟨rfl, hb5⟩
  have hL5 := (hb5.block _ (lt_of HL4.out)).trans HL4.out
  have l7 : w5.cell? ⟨w2.heap.size, 7, none⟩ = some (.int .u64 0) := cell_of hL5 7
  have f7 := free_of hL5 7
  have hs7 := sum7_lt y z
  have HL5 := Lib.hid hL5
  have HB5 := Lib.hid hb5
  clear hL5 hb5 l0 l1 f0 f1
  go_wp2_with fail
  go_ret2
  have hfin := set_same HL5.out 7 (.int .u64 (sum7 y z : Nat))
  refine ⟨_, rfl, ?_, ?_⟩
  · have he : enc n m s = line y z := by unfold enc; rw [HZW.out, HY.out]
    rw [he]
    exact own_new (q := w2.heap.size) hfin (by have h1 := HB.out.size; simp at h1; omega) rfl (by unfold maxLen; omega)
  · have u1 : Below w.heap.size w w2 := bl_then (bl_alloc (bl_then (bl_alloc (Below.refl _ _) _) HB.out) _) HB2.out
    have u2 : Upd [] w w3 := (((Upd.of_below u1).alloc _).alloc _).trans (Upd.of_below (F := []) HB3.out) (by simp)
    have u3 := u2.trans HU4.out (by intro k hk; simp at hk; subst hk; right; exact u1.size)
    have u4 := u3.trans (Upd.of_below (F := []) HB5.out) (by simp)
    exact (u4.setCell (a := ⟨w2.heap.size, 7, none⟩) (.inr u1.size) _).below (by simp)
end Go.Proofs.YtgnagbbdnlmgeaaGreat.Su
end
section
set_option maxHeartbeats 2000000
set_option maxRecDepth 100000
namespace Go.Proofs.YtgnagbbdnlmgeaaGreat.In
open Go Go.RowKit
open Ob Ba Oc Pk Su Cc Cr
def iOk (k h z : Int) : Prop := (k = 1 ∨ k = 2) ∧ 0 ≤ z ∧ z ≤ 268435456 ∧ -1 ≤ h ∧ h < 65534 ∧ (h < 0 ↔ z = 0) ∧ (k = 1 ∨ z % 64 = 0)
theorem may_yes (k h z : Int) (hk : iOk k h z) (w : World) : Calls Tryz.prog 156 #[.agg #[.int .i64 k, .int .i64 h, .int .i64 z]] w fun e w' => e = .returned (.bool true) ∧ Below w.heap.size w w' := by
  have hu := Tryz.underlying42
  obtain ⟨h1, h2, h3, h4, h5, h6, h7⟩ := hk
  have he : ((decide (h < 0)) == (z == 0)) = true := by
    by_cases hn : h < 0
    · have := h6.1 hn; simp [hn, this]
    · have h8 : ¬ z = 0 := fun e => hn (h6.2 e)
      simp [hn, h8]
  rcases h1 with rfl | rfl
  · clear h7 h6
    go_enter Tryz.func156, Tryz.ntmps156
    go_wp2
    go_ret
    exact ⟨rfl, bl_alloc (Below.refl _ _) _⟩
  · have h8 : z % 64 = 0 := by omega
    clear h7 h6
    go_enter Tryz.func156, Tryz.ntmps156
    go_wp2
    go_ret
    exact ⟨rfl, bl_alloc (Below.refl _ _) _⟩
theorem encode_file (k p z : Nat) (h : Int) (hp : (p : Int) = h + 1) (hk : iOk k h z) (w : World) :
    Calls Tryz.prog 108 #[.agg #[.int .i64 k, .int .i64 h, .int .i64 z]] w fun e w' => ∃ v, e = .returned (.tuple #[v, .int .i64 0]) ∧ w'.ownsRow w.heap.size 94 1 v 8 (ivs .u64 (ints (line (k + 65536 * p) z))) ∧ Below w.heap.size w w' := by
  have hu := Tryz.underlying42
  have HM := Lib.hid (may_yes k h z hk)
  obtain ⟨h1, h2, h3, h4, h5, h6, h7⟩ := hk
  have hk9 : k < 65536 := by omega
  have hp9 : p < 65536 := by omega
  have hz9 : z < 18446744073709551616 := by omega
  have e0 : ((k : Int) == 0) = false := by rw [beq_eq_false_iff_ne]; omega
  have HF := Lib.hid (And.intro (f16 hk9) (f16 hp9))
  obtain ⟨x, hx⟩ : ∃ x, x = k + 65536 * p := ⟨_, rfl⟩
  have hpv : pv [(16, k), (16, p)] = x := by simp [pv, hx]
  have hx9 : x < 18446744073709551616 := by omega
  have HPV := Lib.hid hpv
  have HP := Lib.hid hp
  rw [← hx]
  have hzz : (z : Int) ≤ 268435456 := h3
  clear h1 h2 h6 h7 hpv hx
  go_enter Tryz.func108, Tryz.ntmps108
  go_wp2_with (first | (at_make; refine Go.Proofs.YtgnagbbdnlmgeaaGreat.Wl.wpl_make rfl _ 22 94 rfl (.int .u64 0) 8 Tryz.underlying22 info_u64 rfl 8 .i64 _ rfl rfl (by decide) (by decide) ?_) | (go_at_call 156; refine (HM.out _).mono ?_; rintro e w1 ⟨rfl, hb⟩; (have hq := blk_bl (alloc_new w (.cells #[.int .i64 k, .int .i64 h, .int .i64 z] 42)) hb); (have HQ := Lib.hid hq); (have k0 := cell_of hq 0); (have k1 := cell_of hq 1); (have k2 := cell_of hq 2); (have hlt := lt_of hq); (have HB := Lib.hid (bl_then (bl_alloc (Below.refl _ _) _) hb)); clear hb hq))
  rw [← HP.out]
  have hfs : FsAt ((w1.alloc (.cells (Array.replicate 8 (.int .u64 0)) 94)).alloc (.cells #[.int .i64 16, .int .u64 k, .int .i64 16, .int .u64 p] 215)) (some ⟨w1.heap.size + 1, 0, none⟩) [(16, k), (16, p)] := by
    have := alloc_new (w1.alloc (.cells (Array.replicate 8 (.int .u64 0)) 94)) (.cells #[.int .i64 16, .int .u64 k, .int .i64 16, .int .u64 p] 215)
    rw [World.size_alloc] at this
    refine fields_at (T := 215) (fr := (0, 0)) this ?_
    intro u hu
    simp only [List.mem_cons, List.not_mem_nil, or_false] at hu
    rcases hu with rfl | rfl
    · exact HF.out.1
    · exact HF.out.2
  have hpk := pack_ hfs 2 (by simp [wid]) (by simp)
  rw [HPV.out] at hpk
  refine (show Calls _ _ #[.slice (some ⟨w1.heap.size + 1, 0, none⟩) 2 2] _ _ from hpk).mono ?_
  rintro e w3 ⟨rfl, hb3⟩
  have hL3 : w3.heap[w1.heap.size]? = some (.cells (Array.replicate 8 (.int .u64 0)) 94 (0, 0)) := blk_bl (alloc_old (alloc_new w1 _) _) hb3
  have hz3 := hb3.size
  simp only [World.size_alloc] at hz3
  have HB3 := Lib.hid (bl_then (bl_alloc (bl_alloc (Below.refl _ _) _) _) hb3)
  have hq3 := blk_bl HQ.out HB3.out
  clear k0 k1 k2
  have k0 := cell_of hq3 0
  have k1 := cell_of hq3 1
  have k2 := cell_of hq3 2
  have l0 := cell_of hL3 0
  have l1 := cell_of hL3 1
  have f0 := free_of hL3 0
  have f1 := free_of hL3 1
  simp only [Array.getElem?_replicate] at l0 l1
  have hL4 := set_same (set_same hL3 0 (.int .u64 x)) 1 (.int .u64 z)
  have hr4 := fill_line hL4
  have hr5 := words32_ hr4 (head7_lt (a := x) (b := z) hx9 hz9) 8 (by simp [head7])
  rw [show (head7 x z).length = 7 from rfl] at hr5
  have HR4 := Lib.hid hr5
  have HL4 := Lib.hid hL4
  have HB := Lib.hid HB.out
  clear hfs hpk hb3 hL3 hL4 hr4 hr5 hq3
  go_wp2_with fail
  refine HR4.out.mono ?_
  rw [sum7_int]
  rintro e w5 ⟨rfl, hb5⟩
  have hL5 := (hb5.block _ (lt_of HL4.out)).trans HL4.out
  have l7 : w5.cell? ⟨w1.heap.size, 7, none⟩ = some (.int .u64 0) := cell_of hL5 7
  have f7 := free_of hL5 7
  have hs7 := sum7_lt x z
  have HL5 := Lib.hid hL5
  have HB5 := Lib.hid hb5
  clear hL5 hb5 l0 l1 f0 f1
  go_wp2_with fail
  go_ret2
  have hfin := set_same HL5.out 7 (.int .u64 (sum7 x z : Nat))
  have h1 := HB.out.size
  refine ⟨_, rfl, own_new (q := w1.heap.size) hfin h1 rfl (by unfold maxLen; omega), ?_⟩
  have u1 : Below w.heap.size w w3 := bl_then HB.out HB3.out
  have u2 := bl_set (o := 1) (bl_set (o := 0) u1 h1 (.int .u64 x)) h1 (.int .u64 z)
  exact bl_set (o := 7) (bl_then u2 HB5.out) h1 _
end Go.Proofs.YtgnagbbdnlmgeaaGreat.In
end
section
set_option maxHeartbeats 2000000
set_option maxRecDepth 100000
namespace Go.Proofs.YtgnagbbdnlmgeaaGreat.In
open Go Go.RowKit
open Ob Ba Oc Pk Su Cc Cr Ge
def iAll (k h z : Int) : Prop := (k = 0 ∧ h = -1 ∧ z = 0) ∨ iOk k h z
instance (k h z : Int) : Decidable (iOk k h z) := inferInstanceAs (Decidable (_ ∧ _))
instance (k h z : Int) : Decidable (iAll k h z) := inferInstanceAs (Decidable (_ ∨ _))
def iB (k h z : Int) : Bool := decide (iAll k h z)
theorem none_ (w : World) : Calls Tryz.prog 67 #[] w fun e w' => e = .returned (.agg #[.int .i64 0, .int .i64 (-1), .int .i64 0]) ∧ Below w.heap.size w w' := by
  have hu := Tryz.underlying42
  go_enter Tryz.func67, Tryz.ntmps67
  go_wp2
  exact bodyPost_ret (res_c rfl _ _ w.heap.size 42 _ (0, 0) _ rfl (alloc_new w _) hu rfl (by kernel_rfl)) rfl ⟨rfl, bl_alloc (Below.refl _ _) _⟩
theorem may_free (h z : Int) (w : World) : Calls Tryz.prog 156 #[.agg #[.int .i64 0, .int .i64 h, .int .i64 z]] w fun e w' => e = .returned (.bool (decide (h = -1 ∧ z = 0))) ∧ Below w.heap.size w w' := by
  have hu := Tryz.underlying42
  by_cases h1 : h = -1
  · subst h1
    by_cases h2 : z = 0
    · subst h2
      rw [show decide ((-1 : Int) = -1 ∧ (0 : Int) = 0) = true from rfl]
      go_enter Tryz.func156, Tryz.ntmps156
      go_wp2_with fail
      go_region_held3 (fun w' => w'.cell? ⟨w.heap.size, 0, none⟩ = some (.int .i64 0) ∧ w'.cell? ⟨w.heap.size, 1, none⟩ = some (.int .i64 (-1)) ∧ w'.cell? ⟨w.heap.size, 2, none⟩ = some (.int .i64 0) ∧ Bx w w')
        (first | assumption | exact bx_start rfl | exact bx_keep ‹_› ‹_›)
        ((go_at_call 67; refine (none_ _).mono ?_; rintro e w2 ⟨rfl, hb2⟩))
      all_goals
        go_wp2
        go_ret
        exact ⟨rfl, (bx_of ‹_›).below⟩
    · rw [show decide ((-1 : Int) = -1 ∧ z = 0) = false from decide_eq_false (fun h => h2 h.2)]
      go_enter Tryz.func156, Tryz.ntmps156
      go_wp2_with fail
      go_region_held3 (fun w' => w'.cell? ⟨w.heap.size, 0, none⟩ = some (.int .i64 0) ∧ w'.cell? ⟨w.heap.size, 1, none⟩ = some (.int .i64 (-1)) ∧ w'.cell? ⟨w.heap.size, 2, none⟩ = some (.int .i64 z) ∧ Bx w w')
        (first | assumption | exact bx_start rfl | exact bx_keep ‹_› ‹_›)
        ((go_at_call 67; refine (none_ _).mono ?_; rintro e w2 ⟨rfl, hb2⟩))
      all_goals
        go_wp2
        go_ret
        exact ⟨rfl, (bx_of ‹_›).below⟩
  · rw [show decide (h = -1 ∧ z = 0) = false from decide_eq_false (fun hh => h1 hh.1)]
    go_enter Tryz.func156, Tryz.ntmps156
    go_wp2_with fail
    go_region_held3 (fun w' => w'.cell? ⟨w.heap.size, 0, none⟩ = some (.int .i64 0) ∧ w'.cell? ⟨w.heap.size, 1, none⟩ = some (.int .i64 h) ∧ w'.cell? ⟨w.heap.size, 2, none⟩ = some (.int .i64 z) ∧ Bx w w')
      (first | assumption | exact bx_start rfl | exact bx_keep ‹_› ‹_›)
      ((go_at_call 67; refine (none_ _).mono ?_; rintro e w2 ⟨rfl, hb2⟩))
    all_goals
      go_wp2
      go_ret
      exact ⟨rfl, (bx_of ‹_›).below⟩
theorem may_no (k h z : Int) (hk : k ≠ 0) (hn : ¬ iOk k h z) (w : World) : Calls Tryz.prog 156 #[.agg #[.int .i64 k, .int .i64 h, .int .i64 z]] w fun e w' => e = .returned (.bool false) ∧ Below w.heap.size w w' := by
  have hu := Tryz.underlying42
  have e0 : (k == 0) = false := beq_eq_false_iff_ne.2 hk
  by_cases hk12 : k = 1 ∨ k = 2
  · have hc : z < 0 ∨ (0 ≤ z ∧ 268435456 < z) ∨ (0 ≤ z ∧ z ≤ 268435456 ∧ h < -1) ∨ (0 ≤ z ∧ z ≤ 268435456 ∧ -1 ≤ h ∧ 65534 ≤ h) ∨ (0 ≤ z ∧ z ≤ 268435456 ∧ -1 ≤ h ∧ h < 65534 ∧ ((decide (h < 0)) == (z == 0)) = false) ∨ (0 ≤ z ∧ z ≤ 268435456 ∧ -1 ≤ h ∧ h < 65534 ∧ ((decide (h < 0)) == (z == 0)) = true ∧ k = 2 ∧ z % 64 ≠ 0) := by
      by_cases c1 : z < 0
      · exact .inl c1
      by_cases c2 : 268435456 < z
      · exact .inr (.inl ⟨by omega, c2⟩)
      by_cases c3 : h < -1
      · exact .inr (.inr (.inl ⟨by omega, by omega, c3⟩))
      by_cases c4 : 65534 ≤ h
      · exact .inr (.inr (.inr (.inl ⟨by omega, by omega, by omega, c4⟩)))
      cases c5 : ((decide (h < 0)) == (z == 0)) with
      | false => exact .inr (.inr (.inr (.inr (.inl ⟨by omega, by omega, by omega, by omega, rfl⟩))))
      | true =>
        have h5 : h < 0 ↔ z = 0 := by
          have := beq_iff_eq.1 c5
          constructor
          · intro hh
            rw [decide_eq_true hh] at this
            exact beq_iff_eq.1 this.symm
          · intro hz
            rw [beq_iff_eq.2 hz] at this
            exact of_decide_eq_true this
        refine .inr (.inr (.inr (.inr (.inr ⟨by omega, by omega, by omega, by omega, rfl, ?_, ?_⟩))))
        · rcases hk12 with rfl | h2
          · exact absurd ⟨.inl rfl, by omega, by omega, by omega, by omega, h5, .inl rfl⟩ hn
          · exact h2
        · intro hz
          exact hn ⟨hk12, by omega, by omega, by omega, by omega, h5, .inr hz⟩
    clear hn
    rcases hk12 with rfl | rfl <;> rcases hc with c | ⟨c1, c2⟩ | ⟨c1, c2, c3⟩ | ⟨c1, c2, c3, c4⟩ | ⟨c1, c2, c3, c4, c5⟩ | ⟨c1, c2, c3, c4, c5, c6, c7⟩
    all_goals
      first
        | (cases c6; done)
        | ((try have e7 : (z % 64 == 0) = false := beq_eq_false_iff_ne.2 c7)
           go_enter Tryz.func156, Tryz.ntmps156
           go_wp2
           go_ret
           exact ⟨rfl, bl_alloc (Below.refl _ _) _⟩)
  · have e1 : (k == 1) = false := beq_eq_false_iff_ne.2 (by omega)
    have e2 : (k == 2) = false := beq_eq_false_iff_ne.2 (by omega)
    clear hn hk12
    go_enter Tryz.func156, Tryz.ntmps156
    go_wp2
    go_ret
    exact ⟨rfl, bl_alloc (Below.refl _ _) _⟩
theorem may_ (k h z : Int) (w : World) : Calls Tryz.prog 156 #[.agg #[.int .i64 k, .int .i64 h, .int .i64 z]] w fun e w' => e = .returned (.bool (iB k h z)) ∧ Below w.heap.size w w' := by
  by_cases hk : k = 0
  · subst hk
    have e : iB 0 h z = decide (h = -1 ∧ z = 0) := by
      unfold iB iAll iOk
      by_cases c : h = -1 ∧ z = 0
      · rw [decide_eq_true (p := h = -1 ∧ z = 0) c]; exact decide_eq_true (.inl ⟨rfl, c⟩)
      · rw [decide_eq_false c]
        refine decide_eq_false ?_
        rintro (⟨_, h1⟩ | ⟨h1, _⟩)
        · exact c h1
        · omega
    rw [e]
    exact may_free h z w
  · by_cases hn : iOk k h z
    · rw [show iB k h z = true from decide_eq_true (.inr hn)]
      exact may_yes k h z hn w
    · rw [show iB k h z = false from decide_eq_false (by rintro (⟨h1, _⟩ | h1); · exact hk h1
                                                         · exact hn h1)]
      exact may_no k h z hk hn w
def iLine (k h z : Int) : List Nat := if k = 0 then List.replicate 8 0 else line (k.toNat + 65536 * (h + 1).toNat) z.toNat
theorem iLine_len (k h z : Int) : (iLine k h z).length = 8 := by unfold iLine; split <;> simp [line, head7]
theorem encode_no (k h z : Int) (hn : iB k h z = false) (w : World) : Calls Tryz.prog 108 #[.agg #[.int .i64 k, .int .i64 h, .int .i64 z]] w fun e w' => e = .returned (.tuple #[.slice none 0 0, .int .i64 1]) ∧ Below w.heap.size w w' := by
  have hu := Tryz.underlying42
  have HM : Hid (∀ W, Calls Tryz.prog 156 #[.agg #[.int .i64 k, .int .i64 h, .int .i64 z]] W fun e w' => e = .returned (.bool false) ∧ Below W.heap.size W w') := by
    intro W
    have := may_ k h z W
    rw [hn] at this
    exact this
  clear hn
  go_enter Tryz.func108, Tryz.ntmps108
  go_wp2_with fail
  refine (HM.out _).mono ?_
  rintro e w1 ⟨rfl, hb⟩
  have HB := Lib.hid (bl_then (bl_alloc (Below.refl _ _) _) hb)
  clear hb
  go_wp2_with fail
  go_ret2
  exact ⟨rfl, HB.out⟩
theorem encode_free (w : World) : Calls Tryz.prog 108 #[.agg #[.int .i64 0, .int .i64 (-1), .int .i64 0]] w fun e w' => ∃ v, e = .returned (.tuple #[v, .int .i64 0]) ∧ w'.ownsRow w.heap.size 94 1 v 8 (ivs .u64 (ints (List.replicate 8 0))) ∧ Below w.heap.size w w' := by
  have hu := Tryz.underlying42
  go_enter Tryz.func108, Tryz.ntmps108
  go_wp2_with fail
  refine (may_free (-1) 0 _).mono ?_
  rintro e w1 ⟨rfl, hb⟩
  rw [show decide ((-1 : Int) = -1 ∧ (0 : Int) = 0) = true from rfl]
  have hq := blk_bl (alloc_new w (.cells #[.int .i64 0, .int .i64 (-1), .int .i64 0] 42)) hb
  have k0 := cell_of hq 0
  have hlt := lt_of hq
  have HB := Lib.hid (bl_then (bl_alloc (Below.refl _ _) _) hb)
  clear hb hq
  go_wp2_with (at_make; refine Go.Proofs.YtgnagbbdnlmgeaaGreat.Wl.wpl_make rfl _ 22 94 rfl (.int .u64 0) 8 Tryz.underlying22 info_u64 rfl 8 .i64 _ rfl rfl (by decide) (by decide) ?_)
  go_ret2
  refine ⟨_, rfl, own_new (k := .u64) (l := ints (List.replicate 8 0)) (q := w1.heap.size) ?_ HB.out.size rfl (by unfold maxLen; omega), bl_alloc HB.out _⟩
  exact alloc_new w1 _
theorem encode_yes (k h z : Int) (hn : iB k h z = true) (w : World) : Calls Tryz.prog 108 #[.agg #[.int .i64 k, .int .i64 h, .int .i64 z]] w fun e w' => ∃ v, e = .returned (.tuple #[v, .int .i64 0]) ∧ w'.ownsRow w.heap.size 94 1 v 8 (ivs .u64 (ints (iLine k h z))) ∧ Below w.heap.size w w' := by
  rcases of_decide_eq_true hn with ⟨rfl, rfl, rfl⟩ | hk
  · exact encode_free w
  · have hk' := hk
    obtain ⟨h1, h2, h3, h4, h5, h6, h7⟩ := hk'
    obtain ⟨kk, rfl⟩ : ∃ kk : Nat, k = kk := ⟨k.toNat, by omega⟩
    obtain ⟨zz, rfl⟩ : ∃ zz : Nat, z = zz := ⟨z.toNat, by omega⟩
    have := encode_file kk (h + 1).toNat zz h (by omega) hk w
    unfold iLine
    rw [if_neg (by omega)]
    exact this
end Go.Proofs.YtgnagbbdnlmgeaaGreat.In
end
section
set_option maxHeartbeats 1000000
set_option maxRecDepth 100000
namespace Go.Proofs.YtgnagbbdnlmgeaaGreat.Cc
open Go Go.RowKit
open Ob Ba Cr C6 Oc
set_option maxHeartbeats 2000000 in
theorem bytes_ {w : World} {A : Option Addr} {l : List Nat} (h : Rk .u64 w A (ints l)) (hl : ∀ x ∈ l, x < 18446744073709551616) (c : Nat) (hn : l.length ≤ 1000000000) :
    Calls Tryz.prog 85 #[.slice A l.length c] w fun e w' => ∃ v, e = .returned v ∧ w'.ownsRow w.heap.size 5 1 v (8 * l.length) (ivs .u8 (ints (octs l))) ∧ Below w.heap.size w w' := by
  have H := Lib.hid h
  have HL := Lib.hid hl
  obtain ⟨n, hnn⟩ : ∃ n, n = l.length := ⟨_, rfl⟩
  rw [← hnn]
  rw [← hnn] at hn
  have HN := Lib.hid hnn
  clear h hl hnn
  obtain ⟨i0, hinf, hz0, hz1, hz2⟩ := info_parts (show (Tryz.prog.info? 5).map (fun i => (i.zero, i.size, i.bytes)) = some (some (.int .u8 0), 1, 1) by kernel_rfl)
  go_enter Tryz.func85, Tryz.ntmps85
  go_wp2_with fail
  go_loopw [9, 3] (fun c9 c3 wr => ∃ i : Nat, i ≤ n ∧ c9 = .int .i64 i ∧ Hid (Below w.heap.size w wr ∧ wr.ownsRow w.heap.size 5 1 c3 (8 * i) (ivs .u8 (ints (octs (l.take i)))))) (fun c9 _ _ => n - (intOf c9).toNat)
  case atStart => exact ⟨0, Nat.zero_le _, rfl, Below.refl _ _, own_nil0 _ _ _ _⟩
  case round =>
    obtain ⟨i, hi, rfl, HR⟩ := hrel
    by_cases hlt : i < n
    · obtain ⟨x, hx⟩ := some_at (l := l) (i := i) (by rw [← HN.out]; exact hlt)
      obtain ⟨a, rfl, -, ha⟩ := (H.out.below HR.out.1) i x (ints_get hx)
      have HX := Lib.hid (And.intro hx (HL.out x (List.mem_of_getElem? hx)))
      clear hx
      generalize wr = wA at *
      go_wp2_with fail
      go_loopw [13, 3] (fun c13 c3 wq => ∃ j : Nat, j ≤ 8 ∧ c13 = .int .i64 j ∧ Hid (Below w.heap.size w wq ∧ wq.ownsRow w.heap.size 5 1 c3 (8 * i + j) (ivs .u8 (ints (octs (l.take i) ++ (oct x).take j))))) (fun c13 _ _ => 8 - (intOf c13).toNat)
      case atStart => exact ⟨0, Nat.zero_le _, rfl, HR.out.1, by simpa using HR.out.2⟩
      case round =>
        obtain ⟨j, hj, rfl, HQ⟩ := hrel
        by_cases hl8 : j < 8
        · have hv := shr_at x j hl8
          have HB := Lib.hid (oct_at x j hl8)
          have hlt2 : x / 256 ^ j % 256 < 256 := Nat.mod_lt _ (by decide)
          generalize x / 256 ^ j % 256 = y at *
          have HOW := Lib.hid (fun o => own_kp (W' := wr.alloc o) HQ.out.2 (fun k _ hk => Below.heap_alloc _ _ k hk))
          go_wp2_with (at_builtin; refine wpList_append_own _ rfl (.tmp 16) (.tmp 22) 59 rfl w.heap.size 5 i0 (.int .u8 0) 1 1 Tryz.underlying59 hinf hz0 hz1 hz2 rfl (by decide) _ (8 * i + j) _ rfl (HOW.out _) ⟨wr.heap.size, 0, none⟩ 1 1 [.int .u8 y] rfl rfl (one_at _ _ _) (by intro u hu; simp at hu; subst hu; rfl) (by unfold maxLen; omega) (by omega) (by have h1 := HQ.out.1.size; simp; omega) ?_; intro v' w7 hown' hgrow _; (have HO := Lib.hid hown'); (have HG := Lib.hid hgrow); clear hown' hgrow)
          have hx1 : Below w.heap.size w w7 := bl_grown (bl_alloc HQ.out.1 _) HG.out (own_lo HQ.out.2)
          have hx2 : w7.ownsRow w.heap.size 5 1 v' (8 * i + (j + 1)) (ivs .u8 (ints (octs (l.take i) ++ (oct x).take (j + 1)))) := by
            rw [take_next HB.out, ← List.append_assoc, ints_append, ivs_append]
            exact HO.out
          have HZ := Lib.hid (And.intro hx1 hx2)
          clear hx1 hx2
          go_roundw
          case rel => exact ⟨j + 1, by omega, by go_num, HZ.out⟩
          case measure => simp [intOf]; omega
        · obtain rfl : j = 8 := by omega
          have hz : Below w.heap.size w wr ∧ wr.ownsRow w.heap.size 5 1 u3 (8 * (i + 1)) (ivs .u8 (ints (octs (l.take (i + 1))))) := by
            refine ⟨HQ.out.1, ?_⟩
            have := HQ.out.2
            rw [List.take_of_length_le (l := oct x) (by rw [oct_len]; omega), ← octs_snoc, ← take_next HX.out.1] at this
            exact this
          have HZ := Lib.hid hz
          clear hz
          go_wp2_with fail
          go_roundw
          case rel => exact ⟨i + 1, by omega, by go_num, HZ.out⟩
          case measure => simp [intOf]; omega
    · obtain rfl : i = n := by omega
      go_wp2_with fail
      go_ret
      have h2 := HR.out.2
      rw [List.take_of_length_le (by rw [← HN.out]; omega)] at h2
      exact ⟨_, rfl, h2, HR.out.1⟩
end Go.Proofs.YtgnagbbdnlmgeaaGreat.Cc
end
section
set_option maxHeartbeats 2000000
set_option maxRecDepth 100000
namespace Go.Proofs.YtgnagbbdnlmgeaaGreat.Cc
open Go Go.RowKit
open Ob Ba Oc Pk
def txt (l : List Nat) : ByteArray := strOfNums (ints l)
theorem txt_size (l : List Nat) : (txt l).size = l.length := by unfold txt; rw [strOfNums_size, ints_length]
theorem conv_own {W : World} {B n c : Nat} {A : Option Addr} {l : List Nat} (h : W.ownsRow B 5 1 (.slice A n c) n (ivs .u8 (ints l))) :
    (convert 59 9 (.slice A n c)).run Tryz.prog W = .ok (.string (txt l)) W := by
  by_cases hn : n = 0
  · subst hn
    have hl : l = [] := by
      have := (own_rk h).2.1
      rw [ints_length] at this
      exact List.eq_nil_of_length_eq_zero this
    subst hl
    cases A with
    | none => exact run_convert_bytes_nil W 59 5 Tryz.underlying59 Tryz.underlying5 0 c 9 Tryz.underlying9
    | some a =>
      obtain ⟨b, o, f⟩ := a
      have hf : f = none := by
        obtain ⟨_, ⟨h2, _⟩ | ⟨g, cap, cur, hv, _⟩⟩ := h
        · cases h2
        · simp only [Value.slice.injEq, Option.some.injEq, Addr.mk.injEq] at hv
          exact hv.1.2.2
      subst hf
      exact run_convert_bytes_arg W 59 5 Tryz.underlying59 Tryz.underlying5 b o 0 c [] rfl (fun i hi => absurd hi (Nat.not_lt_zero _)) 9 Tryz.underlying9
  · have hlen := (own_rk h).2.1
    obtain ⟨x0, hx0⟩ := some_at (l := ints l) (i := 0) (by omega)
    obtain ⟨q, rfl, -, -⟩ := own_at h hx0
    refine run_convert_bytes_arg W 59 5 Tryz.underlying59 Tryz.underlying5 q 0 n c (ints l) hlen (fun i hi => ?_) 9 Tryz.underlying9
    obtain ⟨x, hx⟩ := some_at (l := ints l) (i := i) (by omega)
    obtain ⟨q', e, h1, -⟩ := own_at h hx
    cases e
    rw [Nat.zero_add, h1, List.getD_eq_getElem?_getD, hx]
    rfl
theorem rbytes_ {w : World} {A : Option Addr} {l : List Nat} (h : Rk .u64 w A (ints l)) (hl : ∀ x ∈ l, x < 18446744073709551616) (c : Nat) (hn : l.length ≤ 1000000000) :
    Calls Tryz.prog 87 #[.slice A l.length c] w fun e w' => e = .returned (.string (txt (octs l))) ∧ Below w.heap.size w w' := by
  have H := Lib.hid h
  have HL := Lib.hid hl
  obtain ⟨n, hnn⟩ : ∃ n, n = l.length := ⟨_, rfl⟩
  rw [← hnn]
  rw [← hnn] at hn
  have HN := Lib.hid hnn
  clear h hl hnn
  obtain ⟨i0, hinf, hz0, hz1, hz2⟩ := info_parts (show (Tryz.prog.info? 5).map (fun i => (i.zero, i.size, i.bytes)) = some (some (.int .u8 0), 1, 1) by kernel_rfl)
  go_enter Tryz.func87, Tryz.ntmps87
  go_wp2_with fail
  go_loopw [8, 3] (fun c9 c3 wr => ∃ i : Nat, i ≤ n ∧ c9 = .int .i64 i ∧ Hid (Below w.heap.size w wr ∧ wr.ownsRow w.heap.size 5 1 c3 (8 * i) (ivs .u8 (ints (octs (l.take i)))))) (fun c9 _ _ => n - (intOf c9).toNat)
  case atStart => exact ⟨0, Nat.zero_le _, rfl, Below.refl _ _, own_nil0 _ _ _ _⟩
  case round =>
    obtain ⟨i, hi, rfl, HR⟩ := hrel
    by_cases hlt : i < n
    · obtain ⟨x, hx⟩ := some_at (l := l) (i := i) (by rw [← HN.out]; exact hlt)
      obtain ⟨a, rfl, -, ha⟩ := (H.out.below HR.out.1) i x (ints_get hx)
      have HX := Lib.hid (And.intro hx (HL.out x (List.mem_of_getElem? hx)))
      clear hx
      generalize wr = wA at *
      go_wp2_with fail
      go_loopw [12, 3, 5] (fun c13 c3 c5 wq => ∃ (j y : Nat), j ≤ 8 ∧ c13 = .int .i64 j ∧ c5 = .int .u64 y ∧ y < 18446744073709551616 ∧ Hid (y = x / 256 ^ j) ∧ Hid (Below w.heap.size w wq ∧ wq.ownsRow w.heap.size 5 1 c3 (8 * i + j) (ivs .u8 (ints (octs (l.take i) ++ (oct x).take j))))) (fun c13 _ _ _ => 8 - (intOf c13).toNat)
      case atStart => exact ⟨0, x, Nat.zero_le _, rfl, rfl, HX.out.2, by show _ = _; simp, HR.out.1, by simpa using HR.out.2⟩
      case round =>
        obtain ⟨j, y, hj, rfl, rfl, hy9, HY, HQ⟩ := hrel
        by_cases hl8 : j < 8
        · have HB := Lib.hid (oct_at x j hl8)
          obtain ⟨z, hz⟩ : ∃ z, z = y % 256 := ⟨_, rfl⟩
          have hzy : (y : Int) % 256 = (z : Int) := by omega
          have hz9 : z < 256 := by omega
          have HZE := Lib.hid hz
          have HOW := Lib.hid (fun o => own_kp (W' := wr.alloc o) HQ.out.2 (fun k _ hk => Below.heap_alloc _ _ k hk))
          clear hz
          go_wp2_with (at_builtin; refine wpList_append_own _ rfl (.tmp 14) (.tmp 18) 59 rfl w.heap.size 5 i0 (.int .u8 0) 1 1 Tryz.underlying59 hinf hz0 hz1 hz2 rfl (by decide) _ (8 * i + j) _ rfl (HOW.out _) ⟨wr.heap.size, 0, none⟩ 1 1 [.int .u8 z] rfl rfl (one_at _ _ _) (by intro u hu; simp at hu; subst hu; rfl) (by unfold maxLen; omega) (by omega) (by have h1 := HQ.out.1.size; simp; omega) ?_; intro v' w7 hown' hgrow _; (have HO := Lib.hid hown'); (have HG := Lib.hid hgrow); clear hown' hgrow)
          have hyn : (y : Int) / 256 = ((y / 256 : Nat) : Int) := by omega
          go_wp2_with fail
          go_roundw
          case rel =>
            refine ⟨j + 1, y / 256, by omega, by go_num, by first | rfl | (rw [hyn]), by omega, by show _ = _; rw [HY.out, Nat.div_div_eq_div_mul, ← Nat.pow_succ], bl_grown (bl_alloc HQ.out.1 _) HG.out (own_lo HQ.out.2), ?_⟩
            rw [take_next HB.out, ← List.append_assoc, ints_append, ivs_append, ← HY.out, ← HZE.out]
            exact HO.out
          case measure => simp [intOf]; omega
        · obtain rfl : j = 8 := by omega
          have hz : Below w.heap.size w wr ∧ wr.ownsRow w.heap.size 5 1 u3 (8 * (i + 1)) (ivs .u8 (ints (octs (l.take (i + 1))))) := by
            refine ⟨HQ.out.1, ?_⟩
            have := HQ.out.2
            rw [List.take_of_length_le (l := oct x) (by rw [oct_len]; omega), ← octs_snoc, ← take_next HX.out.1] at this
            exact this
          have HZ := Lib.hid hz
          clear hz
          go_wp2_with fail
          go_roundw
          case rel => exact ⟨i + 1, by omega, by go_num, HZ.out⟩
          case measure => simp [intOf]; omega
    · obtain rfl : i = n := by omega
      have h2 := HR.out.2
      rw [List.take_of_length_le (by rw [← HN.out]; omega)] at h2
      have HB2 := Lib.hid HR.out.1
      obtain ⟨A2, c2, e2⟩ := own_slice h2
      subst e2
      have hcv := conv_own h2
      clear h2 HR
      go_wp2_with fail
      go_ret
      exact ⟨rfl, HB2.out⟩
end Go.Proofs.YtgnagbbdnlmgeaaGreat.Cc
end
