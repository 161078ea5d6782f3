/- Parts of the proof, one behind the other: Qs, Iq, Qf, Ir, Sw, Ip. -/
import Derived.Test.YtgnagbbdnlmgeaaGreatL06
import Derived.Test.YtgnagbbdnlmgeaaGreatL05
import Derived.BigRegion
import Derived.RegionTactic
import Derived.ChangeAlike
set_option linter.unusedVariables false
set_option linter.unusedSimpArgs false
set_option linter.unusedSectionVars false
section
set_option maxHeartbeats 2000000
set_option maxRecDepth 100000
namespace Go.Proofs.YtgnagbbdnlmgeaaGreat.Cc
open Go Go.RowKit
open Ob Ba Oc Pk Cr C6
theorem itr_snoc (r x : Nat) : ∀ n, itr (n + 1) r x = rbit (itr n r x) (x / 2 ^ n % 2) := by
  intro n
  induction n generalizing r x with
  | zero => simp [itr]
  | succ n ih =>
    show itr (n + 1) (rbit r (x % 2)) (x / 2) = _
    rw [ih, Nat.div_div_eq_div_mul, Nat.mul_comm 2, ← Nat.pow_succ]
    rfl
def rS (l : List Nat) : Nat → Nat
  | 0 => 4294967295
  | k + 1 => rbit (rS l k) (l.getD (k / 8) 0 / 2 ^ (k % 8) % 2)
theorem rS_at (l : List Nat) (hl : ∀ x ∈ l, x < 256) (p : Nat) (hp : p ≤ l.length) : rS l (8 * p) = sumB 4294967295 (l.take p) ∧ (p < l.length → ∀ q, q ≤ 8 → rS l (8 * p + q) = itr q (sumB 4294967295 (l.take p)) (l.getD p 0)) := by
  have step : ∀ p, p < l.length → rS l (8 * p) = sumB 4294967295 (l.take p) → ∀ q, q ≤ 8 → rS l (8 * p + q) = itr q (sumB 4294967295 (l.take p)) (l.getD p 0) := by
    intro p hp h q
    induction q with
    | zero => intro _; simpa [itr] using h
    | succ q ih =>
      intro hq
      show rbit (rS l (8 * p + q)) (l.getD ((8 * p + q) / 8) 0 / 2 ^ ((8 * p + q) % 8) % 2) = _
      rw [ih (by omega), itr_snoc, show (8 * p + q) / 8 = p from by omega, show (8 * p + q) % 8 = q from by omega]
  induction p with
  | zero => exact ⟨by simp [rS, sumB], fun h => step 0 h (by simp [rS, sumB])⟩
  | succ p ih =>
    obtain ⟨h1, h2⟩ := ih (by omega)
    have h3 : rS l (8 * (p + 1)) = sumB 4294967295 (l.take (p + 1)) := by
      rw [show 8 * (p + 1) = 8 * p + 8 from by omega, h2 (by omega) 8 (Nat.le_refl _)]
      obtain ⟨x, hx⟩ := some_at (l := l) (i := p) (by omega)
      rw [take_next hx, sumB_app, sumB_one_, List.getD_eq_getElem?_getD, hx, stp_eq _ _ (hl x (List.mem_of_getElem? hx))]
      rfl
    exact ⟨h3, fun h => step (p + 1) h h3⟩
theorem rbit_lt (r b : Nat) (h : r < 4294967296) : rbit r b < 4294967296 := by
  unfold rbit
  split
  · omega
  · exact xor_lt32 (by omega) (by decide)
theorem rS_lt (l : List Nat) : ∀ k, rS l k < 4294967296
  | 0 => by show 4294967295 < 4294967296; omega
  | k + 1 => rbit_lt _ _ (rS_lt l k)
theorem itr6_snoc (r y : Nat) : ∀ n, itr6 (n + 1) r y = rbit6 (itr6 n r y) ((dbls n y).testBit 15) := by
  intro n
  induction n generalizing r y with
  | zero => rfl
  | succ n ih =>
    show itr6 (n + 1) (rbit6 r (y.testBit 15)) (dbl y) = _
    rw [ih]
    rfl
def rb6 (r b : Nat) : Nat := if b = r / 32768 then dbl r else dbl r ^^^ P16
theorem rb6_eq (r x j : Nat) (hr : r < 65536) : rbit6 r (x.testBit j) = rb6 r (x / 2 ^ j % 2) := by
  unfold rbit6 rb6
  rw [top16 r hr, Nat.testBit_eq_decide_div_mod_eq]
  have h1 : x / 2 ^ j % 2 < 2 := Nat.mod_lt _ (by decide)
  by_cases h : x / 2 ^ j % 2 = 1 <;> by_cases h2 : 32768 ≤ r
  · rw [if_pos (by simp [h, h2]), if_pos (by omega)]
  · rw [if_neg (by simp [h, h2]), if_neg (by omega)]
  · rw [if_neg (by simp [h, h2]), if_neg (by omega)]
  · rw [if_pos (by simp [h, h2]), if_pos (by omega)]
def qS (l : List Nat) : Nat → Nat
  | 0 => 65535
  | k + 1 => rb6 (qS l k) (l.getD (k / 8) 0 / 2 ^ (7 - k % 8) % 2)
theorem rb6_lt (r b : Nat) : rb6 r b < 65536 := by
  unfold rb6
  split
  · exact dbl_lt _
  · exact xor_lt16 (dbl_lt _) (by decide)
theorem qS_lt (l : List Nat) : ∀ k, qS l k < 65536
  | 0 => by show 65535 < 65536; omega
  | k + 1 => rb6_lt _ _
theorem qS_at (l : List Nat) (hl : ∀ x ∈ l, x < 256) (p : Nat) (hp : p ≤ l.length) : qS l (8 * p) = sum6 65535 (l.take p) ∧ (p < l.length → ∀ q, q ≤ 8 → qS l (8 * p + q) = itr6 q (sum6 65535 (l.take p)) (256 * l.getD p 0)) := by
  have step : ∀ p, p < l.length → qS l (8 * p) = sum6 65535 (l.take p) → ∀ q, q ≤ 8 → qS l (8 * p + q) = itr6 q (sum6 65535 (l.take p)) (256 * l.getD p 0) := by
    intro p hp h q
    induction q with
    | zero => intro _; simpa [itr6] using h
    | succ q ih =>
      intro hq
      have hlt := qS_lt l (8 * p + q)
      show rb6 (qS l (8 * p + q)) (l.getD ((8 * p + q) / 8) 0 / 2 ^ (7 - (8 * p + q) % 8) % 2) = _
      rw [ih (by omega)] at hlt
      rw [ih (by omega), itr6_snoc, bit_at _ _ (by omega), rb6_eq _ _ _ hlt, show (8 * p + q) / 8 = p from by omega, show (8 * p + q) % 8 = q from by omega]
  induction p with
  | zero => exact ⟨by simp [qS, sum6], fun h => step 0 h (by simp [qS, sum6])⟩
  | succ p ih =>
    obtain ⟨h1, h2⟩ := ih (by omega)
    have h3 : qS l (8 * (p + 1)) = sum6 65535 (l.take (p + 1)) := by
      rw [show 8 * (p + 1) = 8 * p + 8 from by omega, h2 (by omega) 8 (Nat.le_refl _)]
      obtain ⟨x, hx⟩ := some_at (l := l) (i := p) (by omega)
      rw [take_next hx, sum6_app, sum6_one_, List.getD_eq_getElem?_getD, hx, stp_eq6 _ _ (hl x (List.mem_of_getElem? hx))]
      rfl
    exact ⟨h3, fun h => step (p + 1) h h3⟩
theorem index_txt (T : TypeId) (hT : Tryz.prog.underlying T = some .string) {l : List Nat} (hl : ∀ x ∈ l, x < 256) {i x : Nat} (hx : l[i]? = some x) (w : World) :
    (Instr.index T (.string (txt l)) (.int .i64 (i : Int))).run Tryz.prog w = .ok (.int .u8 x) w := by
  rw [run_index_string w T (txt l) .i64 i hT]
  have hi := (List.getElem?_eq_some_iff.1 hx).1
  have hsz := txt_size l
  rw [dif_pos ⟨by omega, by omega⟩]
  congr 2
  have hx9 := hl x (List.mem_of_getElem? hx)
  have : ((txt l)[(i : Int).toNat]'(by omega)) = UInt8.ofNat x := by
    have h1 : (txt l).data.toList[i]? = some (UInt8.ofNat x) := by
      unfold txt
      rw [strOfNums_data, List.getElem?_map, ints_get hx]
      rfl
    have h2 := (List.getElem?_eq_some_iff.1 h1).2
    rw [← h2]
    rfl
  rw [this]
  simp
  omega
theorem rsum32_ {l : List Nat} (hl : ∀ x ∈ l, x < 256) (hn : l.length ≤ 1000000000) (w : World) :
    Calls Tryz.prog 161 #[.string (txt l)] w fun e w' => e = .returned (.int .u32 (4294967295 - sumB 4294967295 l : Nat)) ∧ w = w' := by
  have HL := Lib.hid hl
  have hsz := txt_size l
  have HIX : Hid (∀ {i x : Nat} (hx : l[i]? = some x) (w : World), (Instr.index 9 (.string (txt l)) (.int .i64 (i : Int))).run Tryz.prog w = .ok (.int .u8 x) w) := fun hx w => index_txt 9 Tryz.underlying9 hl hx w
  have HF : Hid (rS l (8 * l.length) = sumB 4294967295 l ∧ rS l (8 * l.length) < 4294967296) := by
    refine ⟨?_, rS_lt l _⟩
    rw [(rS_at l hl l.length (Nat.le_refl _)).1, List.take_length]
  generalize txt l = S at *
  obtain ⟨n, hnn⟩ : ∃ n, n = l.length := ⟨_, rfl⟩
  rw [← hnn] at hsz hn HF
  have HN := Lib.hid hnn
  clear hl hnn
  go_enter Tryz.func161, Tryz.ntmps161
  go_wp2_with fail
  go_loop [3, 4] (fun c3 c4 => ∃ k r : Nat, k ≤ 8 * n ∧ c4 = .int .i64 k ∧ c3 = .int .u32 r ∧ r < 4294967296 ∧ Hid (r = rS l k)) (fun _ c4 => 8 * n - (intOf c4).toNat)
  case atStart => exact ⟨0, 4294967295, Nat.zero_le _, rfl, rfl, by decide, rfl⟩
  case round =>
    obtain ⟨k, r, hk, rfl, rfl, hr9, HR⟩ := hrel
    by_cases hlt : k < 8 * n
    · obtain ⟨x, hx⟩ := some_at (l := l) (i := k / 8) (by rw [← HN.out]; omega)
      have hx9 := HL.out x (List.mem_of_getElem? hx)
      have hix := HIX.out hx
      have HX := Lib.hid hx
      obtain ⟨p, hp⟩ : ∃ p, p = k / 8 := ⟨_, rfl⟩
      obtain ⟨q, hq⟩ : ∃ q, q = k % 8 := ⟨_, rfl⟩
      have hp1 : (k : Int) / 8 = (p : Int) := by omega
      have hq1 : (k : Int) % 8 = (q : Int) := by omega
      have hq9 : q < 8 := by omega
      obtain ⟨y, hy⟩ : ∃ y, y = x / 2 ^ q := ⟨_, rfl⟩
      have hy1 : (x : Int) / 2 ^ q = (y : Int) := by rw [hy]; norm_cast
      have hy9 : y < 256 := by rw [hy]; exact Nat.lt_of_le_of_lt (Nat.div_le_self _ _) hx9
      have hb1 := bits_and1 y (by omega)
      have hb2 := bits_and1 r hr9
      have HQ := Lib.hid (And.intro hp (And.intro hq hy))
      rw [← hp] at hix
      clear hx hp hq hy
      obtain ⟨h, hh⟩ : ∃ h, h = r / 2 := ⟨_, rfl⟩
      have hh1 : (r : Int) / 2 = (h : Int) := by omega
      have hx1 : bits .xor .u32 (h : Int) 3988292384 = ((h ^^^ P32 : Nat) : Int) := bits_xor32 h P32 (by omega) (by decide)
      have HH := Lib.hid hh
      clear hh
      have HSTEP : Hid (rS l (k + 1) = if y % 2 = r % 2 then h else h ^^^ P32) := by
        show rbit (rS l k) _ = _
        rw [← HR.out, ← HQ.out.1, ← HQ.out.2.1, List.getD_eq_getElem?_getD, HQ.out.1, HX.out, HH.out]
        show rbit r (x / 2 ^ q % 2) = _
        rw [← HQ.out.2.2]
        rfl
      have HLT : Hid (rS l (k + 1) < 4294967296) := rS_lt l _
      by_cases hbit : y % 2 = r % 2
      · have e1 : ((y : Int) % 2 != (r : Int) % 2) = false := by rw [bne_eq_false_iff_eq]; omega
        have HS2 : Hid (rS l (k + 1) = h) := by show _ = _; rw [HSTEP.out, if_pos hbit]
        clear hbit HSTEP
        go_wp2_with fail
        go_round
        case rel => exact ⟨k + 1, h, hlt, by go_num, rfl, by rw [← HS2.out]; exact HLT.out, HS2.out.symm⟩
        case measure => simp [intOf]; omega
      · have e1 : ((y : Int) % 2 != (r : Int) % 2) = true := by rw [bne_iff_ne]; omega
        have HS2 : Hid (rS l (k + 1) = h ^^^ P32) := by show _ = _; rw [HSTEP.out, if_neg hbit]
        clear hbit HSTEP
        go_wp2_with fail
        go_round
        case rel => exact ⟨k + 1, h ^^^ P32, hlt, by go_num, rfl, by rw [← HS2.out]; exact HLT.out, HS2.out.symm⟩
        case measure => simp [intOf]; omega
    · obtain rfl : k = 8 * n := by omega
      have hr0 : r = sumB 4294967295 l := HR.out.trans HF.out.1
      have hq : IntKind.u32.wrap (4294967295 - (r : Int)) = ((4294967295 - r : Nat) : Int) := by simp [IntKind.wrap, IntKind.bits, IntKind.signed]; omega
      have HQ := Lib.hid hr0
      clear hr0 hq
      go_wp2_with fail
      go_ret
      exact ⟨ret_int (by rw [← HQ.out]; omega), rfl⟩
theorem rsum16_ {l : List Nat} (hl : ∀ x ∈ l, x < 256) (hn : l.length ≤ 1000000000) (w : World) :
    Calls Tryz.prog 175 #[.string (txt l)] w fun e w' => e = .returned (.int .u16 (sum6 65535 l : Nat)) ∧ w = w' := by
  have HL := Lib.hid hl
  have hsz := txt_size l
  have HIX : Hid (∀ {i x : Nat} (hx : l[i]? = some x) (w : World), (Instr.index 9 (.string (txt l)) (.int .i64 (i : Int))).run Tryz.prog w = .ok (.int .u8 x) w) := fun hx w => index_txt 9 Tryz.underlying9 hl hx w
  have HF : Hid (qS l (8 * l.length) = sum6 65535 l) := by
    show _ = _
    rw [(qS_at l hl l.length (Nat.le_refl _)).1, List.take_length]
  generalize txt l = S at *
  obtain ⟨n, hnn⟩ : ∃ n, n = l.length := ⟨_, rfl⟩
  rw [← hnn] at hsz hn HF
  have HN := Lib.hid hnn
  clear hl hnn
  go_enter Tryz.func175, Tryz.ntmps175
  go_wp2_with fail
  go_loop [3, 4] (fun c3 c4 => ∃ k r : Nat, k ≤ 8 * n ∧ c4 = .int .i64 k ∧ c3 = .int .u16 r ∧ r < 65536 ∧ Hid (r = qS l k)) (fun _ c4 => 8 * n - (intOf c4).toNat)
  case atStart => exact ⟨0, 65535, Nat.zero_le _, rfl, rfl, by decide, rfl⟩
  case round =>
    obtain ⟨k, r, hk, rfl, rfl, hr9, HR⟩ := hrel
    by_cases hlt : k < 8 * n
    · obtain ⟨x, hx⟩ := some_at (l := l) (i := k / 8) (by rw [← HN.out]; omega)
      have hx9 := HL.out x (List.mem_of_getElem? hx)
      have hix := HIX.out hx
      have HX := Lib.hid hx
      obtain ⟨p, hp⟩ : ∃ p, p = k / 8 := ⟨_, rfl⟩
      obtain ⟨q, hq⟩ : ∃ q, q = 7 - k % 8 := ⟨_, rfl⟩
      have hp1 : (k : Int) / 8 = (p : Int) := by omega
      have hq1 : 7 - (k : Int) % 8 = (q : Int) := by omega
      have hq9 : q < 8 := by omega
      obtain ⟨y, hy⟩ : ∃ y, y = x / 2 ^ q := ⟨_, rfl⟩
      have hy1 : (x : Int) / 2 ^ q = (y : Int) := by rw [hy]; norm_cast
      have hy9 : y < 256 := by rw [hy]; exact Nat.lt_of_le_of_lt (Nat.div_le_self _ _) hx9
      have hb1 : bits .and .u16 (y : Int) 1 = ((y % 2 : Nat) : Int) := by
        have := bits_and16 y 1 (by omega) (by decide)
        rw [Nat.and_one_is_mod] at this
        exact this
      have HQ := Lib.hid (And.intro hp (And.intro hq hy))
      rw [← hp] at hix
      clear hx hp hq hy
      obtain ⟨h, hh⟩ : ∃ h, h = dbl r := ⟨_, rfl⟩
      have hh9 : h < 65536 := by rw [hh]; exact dbl_lt r
      have hh1 : IntKind.u16.wrap ((r : Int) * 2) = (h : Int) := by
        rw [hh]
        simp [IntKind.wrap, IntKind.bits, IntKind.signed, dbl]
        omega
      have hx1 : bits .xor .u16 (h : Int) 4129 = ((h ^^^ P16 : Nat) : Int) := bits_xor16 h P16 hh9 (by decide)
      have HH := Lib.hid hh
      clear hh
      have HSTEP : Hid (qS l (k + 1) = if y % 2 = r / 32768 then h else h ^^^ P16) := by
        show rb6 (qS l k) (l.getD (k / 8) 0 / 2 ^ (7 - k % 8) % 2) = _
        rw [← HR.out, ← HQ.out.2.1, List.getD_eq_getElem?_getD, HX.out, HH.out]
        show rb6 r (x / 2 ^ q % 2) = _
        rw [← HQ.out.2.2]
        rfl
      have HLT : Hid (qS l (k + 1) < 65536) := qS_lt l _
      by_cases hbit : y % 2 = r / 32768
      · have e1 : ((y : Int) % 2 != (r : Int) / 32768) = false := by rw [bne_eq_false_iff_eq]; omega
        have HS2 : Hid (qS l (k + 1) = h) := by show _ = _; rw [HSTEP.out, if_pos hbit]
        clear hbit HSTEP
        go_wp2_with fail
        go_round
        case rel => exact ⟨k + 1, h, hlt, by go_num, rfl, by rw [← HS2.out]; exact HLT.out, HS2.out.symm⟩
        case measure => simp [intOf]; omega
      · have e1 : ((y : Int) % 2 != (r : Int) / 32768) = true := by rw [bne_iff_ne]; omega
        have HS2 : Hid (qS l (k + 1) = h ^^^ P16) := by show _ = _; rw [HSTEP.out, if_neg hbit]
        clear hbit HSTEP
        go_wp2_with fail
        go_round
        case rel => exact ⟨k + 1, h ^^^ P16, hlt, by go_num, rfl, by rw [← HS2.out]; exact HLT.out, HS2.out.symm⟩
        case measure => simp [intOf]; omega
    · obtain rfl : k = 8 * n := by omega
      have HQ := Lib.hid (HR.out.trans HF.out)
      go_wp2_with fail
      go_ret
      exact ⟨ret_int (by rw [HQ.out]), rfl⟩
end Go.Proofs.YtgnagbbdnlmgeaaGreat.Cc
end
section
set_option maxHeartbeats 2000000
set_option maxRecDepth 100000
namespace Go.Proofs.YtgnagbbdnlmgeaaGreat.Iq
open Go Go.RowKit
open Ob Ba Oc Pk Su Cc Cr Ge In
theorem rmay_yes (k h z : Int) (hb : iAll k h z) (w : World) : Calls Tryz.prog 172 #[.agg #[.int .i64 k, .int .i64 h, .int .i64 z]] w fun e w' => e = .returned (.bool true) ∧ Below w.heap.size w w' := by
  have hu := Tryz.underlying47
  rcases hb with ⟨rfl, rfl, rfl⟩ | ⟨h1, h2, h3, h4, h5, h6, h7⟩
  · go_enter Tryz.func172, Tryz.ntmps172
    go_wp2
    go_ret
    exact ⟨rfl, bl_alloc (Below.refl _ _) _⟩
  · have hc : (h = -1 ∧ z = 0) ∨ (0 ≤ h ∧ 0 < z) := by
      by_cases c : h < 0
      · exact .inl ⟨by omega, h6.1 c⟩
      · exact .inr ⟨by omega, by have := fun e => c (h6.2 e); omega⟩
    clear h6
    rcases h1 with rfl | rfl <;> rcases hc with ⟨rfl, rfl⟩ | ⟨c1, c2⟩
    all_goals
      (try have e1 : (h == -1) = false := beq_eq_false_iff_ne.2 (by omega))
      (try have e2 : (z % 64 != 0) = false := by rw [bne_eq_false_iff_eq]; omega)
      clear h7
      go_enter Tryz.func172, Tryz.ntmps172
      go_wp2
      go_ret
      exact ⟨rfl, bl_alloc (Below.refl _ _) _⟩
theorem rmay_no (k h z : Int) (hb : ¬ iAll k h z) (w : World) : Calls Tryz.prog 172 #[.agg #[.int .i64 k, .int .i64 h, .int .i64 z]] w fun e w' => e = .returned (.bool false) ∧ Below w.heap.size w w' := by
  have hu := Tryz.underlying47
  have hc : (k = 0 ∧ h ≠ -1) ∨ (k = 0 ∧ h = -1 ∧ z ≠ 0) ∨ (k < 0) ∨ (2 < k) ∨ (1 ≤ k ∧ k ≤ 2 ∧ z < 0) ∨ (1 ≤ k ∧ k ≤ 2 ∧ 268435456 < z) ∨ (1 ≤ k ∧ k ≤ 2 ∧ 0 ≤ z ∧ z ≤ 268435456 ∧ h < -1) ∨ (1 ≤ k ∧ k ≤ 2 ∧ 0 ≤ z ∧ z ≤ 268435456 ∧ 65533 < h) ∨
      (k = 2 ∧ 0 ≤ z ∧ z ≤ 268435456 ∧ -1 ≤ h ∧ h ≤ 65533 ∧ z % 64 ≠ 0) ∨ (k = 1 ∧ 0 < z ∧ z ≤ 268435456 ∧ h = -1) ∨ (k = 2 ∧ z % 64 = 0 ∧ 0 < z ∧ z ≤ 268435456 ∧ h = -1) ∨ (k = 1 ∧ z = 0 ∧ 0 ≤ h ∧ h ≤ 65533) ∨ (k = 2 ∧ z = 0 ∧ 0 ≤ h ∧ h ≤ 65533) := by
    unfold iAll iOk at hb
    by_cases c0 : k = 0
    · by_cases c1 : h = -1
      · exact .inr (.inl ⟨c0, c1, fun c2 => hb (.inl ⟨c0, c1, c2⟩)⟩)
      · exact .inl ⟨c0, c1⟩
    by_cases c1 : k < 0
    · exact .inr (.inr (.inl c1))
    by_cases c2 : 2 < k
    · exact .inr (.inr (.inr (.inl c2)))
    by_cases c3 : z < 0
    · exact .inr (.inr (.inr (.inr (.inl ⟨by omega, by omega, c3⟩))))
    by_cases c4 : 268435456 < z
    · exact .inr (.inr (.inr (.inr (.inr (.inl ⟨by omega, by omega, c4⟩)))))
    by_cases c5 : h < -1
    · exact .inr (.inr (.inr (.inr (.inr (.inr (.inl ⟨by omega, by omega, by omega, by omega, c5⟩))))))
    by_cases c6 : 65533 < h
    · exact .inr (.inr (.inr (.inr (.inr (.inr (.inr (.inl ⟨by omega, by omega, by omega, by omega, c6⟩)))))))
    by_cases c7 : k = 2 ∧ z % 64 ≠ 0
    · exact .inr (.inr (.inr (.inr (.inr (.inr (.inr (.inr (.inl ⟨c7.1, by omega, by omega, by omega, by omega, c7.2⟩))))))))
    have c7' : k = 1 ∨ z % 64 = 0 := by omega
    by_cases c8 : h = -1
    · have c9 : z ≠ 0 := fun c9 => hb (.inr ⟨by omega, by omega, by omega, by omega, by omega, by omega, c7'⟩)
      by_cases c10 : k = 1
      · exact .inr (.inr (.inr (.inr (.inr (.inr (.inr (.inr (.inr (.inl ⟨c10, by omega, by omega, c8⟩)))))))))
      · exact .inr (.inr (.inr (.inr (.inr (.inr (.inr (.inr (.inr (.inr (.inl ⟨by omega, by omega, by omega, by omega, c8⟩))))))))))
    · have c9 : z = 0 := by
        by_cases c9 : z = 0
        · exact c9
        · exact absurd (.inr ⟨by omega, by omega, by omega, by omega, by omega, by omega, c7'⟩) hb
      by_cases c10 : k = 1
      · exact .inr (.inr (.inr (.inr (.inr (.inr (.inr (.inr (.inr (.inr (.inr (.inl ⟨c10, c9, by omega, by omega⟩)))))))))))
      · exact .inr (.inr (.inr (.inr (.inr (.inr (.inr (.inr (.inr (.inr (.inr (.inr ⟨by omega, c9, by omega, by omega⟩)))))))))))
  clear hb
  rcases hc with ⟨rfl, c⟩ | ⟨rfl, rfl, c⟩ | c | c | ⟨c1, c2, c3⟩ | ⟨c1, c2, c3⟩ | ⟨c1, c2, c3, c4, c5⟩ | ⟨c1, c2, c3, c4, c5⟩ | ⟨rfl, c1, c2, c3, c4, c5⟩ | ⟨rfl, c1, c2, rfl⟩ | ⟨rfl, c1, c2, c3, rfl⟩ | ⟨rfl, rfl, c1, c2⟩ | ⟨rfl, rfl, c1, c2⟩
  all_goals
    (try have e0 : (k == 0) = false := beq_eq_false_iff_ne.2 (by omega))
    (try have e1 : (h == -1) = false := beq_eq_false_iff_ne.2 (by omega))
    (try have e3 : (z == 0) = false := beq_eq_false_iff_ne.2 (by omega))
    (try have e2 : (z % 64 != 0) = true := by rw [bne_iff_ne]; exact c5)
    (try have e4 : (z % 64 != 0) = false := by rw [bne_eq_false_iff_eq]; exact c1)
    go_enter Tryz.func172, Tryz.ntmps172
    go_wp2
    go_ret
    exact ⟨rfl, bl_alloc (Below.refl _ _) _⟩
end Go.Proofs.YtgnagbbdnlmgeaaGreat.Iq
end
section
set_option maxHeartbeats 2000000
set_option maxRecDepth 100000
namespace Go.Proofs.YtgnagbbdnlmgeaaGreat.Su
open Go Go.RowKit
open Ob Ba Ko Ge Cr Cc Oc Pk
def mname : List Nat := [67, 65, 78, 84, 76, 69, 48, 49]
def mg : Nat → Nat
  | 0 => 0
  | k + 1 => 256 * mg k + mname.getD (7 - k) 0
theorem mg_lt (k : Nat) (h : k ≤ 7) : mg k < 72057594037927936 := by
  match k, h with
  | 0, _ | 1, _ | 2, _ | 3, _ | 4, _ | 5, _ | 6, _ | 7, _ => decide
theorem mg8 : mg 8 = magic := by decide
theorem rhead {w : World} (a b : Nat) : Rk .u64 (w.alloc (.cells #[.int .u64 a, .int .u64 b, .int .u64 0, .int .u64 0, .int .u64 0, .int .u64 0, .int .u64 0] 94)) (some ⟨w.heap.size, 0, none⟩) (ints (head7 a b)) := by
  refine blk_rk (alloc_new w (.cells #[.int .u64 a, .int .u64 b, .int .u64 0, .int .u64 0, .int .u64 0, .int .u64 0, .int .u64 0] 94)) fun i z hz => ?_
  match i with
  | 0 | 1 | 2 | 3 | 4 | 5 | 6 => simpa [ints, head7] using hz
  | i + 7 => simp [ints, head7] at hz
theorem rencode_yes (n m s : Nat) (h : geoOk n m s = true) (hn : n < 65536) (hm : m < 65536) (hs : s < 65536) (w : World) :
    Calls Tryz.prog 122 #[.int .i64 n, .int .i64 m, .int .i64 s] w fun e w' => ∃ v, e = .returned (.tuple #[v, .bool true]) ∧ w'.ownsRow w.heap.size 94 1 v 8 (ivs .u64 (ints (enc n m s))) ∧ Below w.heap.size w w' := by
  have hof := of_any n m s
  have hp : (parts n m s).2.2.2.2.2 = true := by unfold parts; rw [h]; rfl
  rw [hp] at hof
  have HOF := Lib.hid hof
  generalize parts n m s = pp at *
  obtain ⟨p1, p2, p3, p4, p5, p6⟩ := pp
  have hix : Hid (∀ {i x : Nat} (hx : mname[i]? = some x) (w : World), (Instr.index 9 (.string ⟨#[67, 65, 78, 84, 76, 69, 48, 49]⟩) (.int .i64 (i : Int))).run Tryz.prog w = .ok (.int .u8 x) w) := fun hx w =>
    index_txt 9 Tryz.underlying9 (l := mname) (by decide) hx w
  obtain ⟨i0, hinf, hz0, hz1, hz2⟩ := info_parts info_u64
  clear h hof hp
  go_enter Tryz.func122, Tryz.ntmps122
  go_wp2_with (go_at_call 160; refine (HOF.out _).mono ?_; rintro e w1 ⟨rfl, hb⟩; (have HB := Lib.hid hb); clear hb)
  generalize hw2 : w1.alloc (.cells #[.int .i64 p1, .int .i64 p2, .int .i64 p3, .int .i64 p4, .int .i64 p5] 28) = w2
  have HB2 : Hid (Below w.heap.size w w2) := by rw [← hw2]; exact bl_alloc HB.out _
  clear hw2 HB
  go_loop [10, 11] (fun c10 c11 => ∃ (k y : Nat) (z : Int), k ≤ 8 ∧ z = 7 - (k : Int) ∧ c11 = .int .i64 z ∧ c10 = .int .u64 y ∧ Hid (y = mg k)) (fun _ c11 => (intOf c11 + 1).toNat)
  case atStart => exact ⟨0, 0, 7, Nat.zero_le _, rfl, rfl, rfl, rfl⟩
  case round =>
    obtain ⟨k, y, z, hk, hz, rfl, rfl, HY⟩ := hrel
    by_cases hlt : k < 8
    · obtain ⟨x, hx⟩ := some_at (l := mname) (i := 7 - k) (by simp [mname]; omega)
      have hx9 : x < 256 := (by decide : ∀ x ∈ mname, x < 256) x (List.mem_of_getElem? hx)
      have hy9 : y < 72057594037927936 := by rw [HY.out]; exact mg_lt k (by omega)
      have hi := hix.out hx
      rw [show ((7 - k : Nat) : Int) = z from by omega] at hi
      have hz0 : 0 ≤ z := by omega
      have hz7 : z ≤ 7 := by omega
      have HS : Hid (mg (k + 1) = 256 * y + x) := by
        show 256 * mg k + mname.getD (7 - k) 0 = _
        rw [HY.out, List.getD_eq_getElem?_getD, hx]
        rfl
      have HK := Lib.hid (And.intro hz hlt)
      clear hx hk hz hlt
      go_wp2_with fail
      go_round
      case rel => exact ⟨k + 1, 256 * y + x, z - 1, HK.out.2, by have := HK.out.1; omega, rfl, by go_num, HS.out.symm⟩
      case measure => simp [intOf]; omega
    · obtain rfl : k = 8 := by omega
      obtain rfl : z = -1 := by omega
      have hy : y = magic := HY.out.trans mg8
      have HM := Lib.hid hy
      have hy9 : y < 18446744073709551616 := by rw [hy]; decide
      clear hy hk HY
      go_wp2_with fail
      obtain ⟨x, hx⟩ : ∃ x, x = word1 n m s := ⟨_, rfl⟩
      have hxi : (n : Int) + 65536 * m + 4294967296 * s = (x : Nat) := by rw [hx]; unfold word1; omega
      have hx9 : x < 18446744073709551616 := by rw [hx]; unfold word1; omega
      have HX := Lib.hid hx
      rw [hxi]
      have hrb := rbytes_ (rhead (w := w2) y x) (head7_lt hy9 hx9) 7 (by simp [head7])
      rw [show (head7 y x).length = 7 from rfl] at hrb
      have HSM : Hid (∀ w, Calls Tryz.prog 161 #[.string (txt (octs (head7 y x)))] w fun e w' => e = .returned (.int .u32 (sum7 y x : Nat)) ∧ w = w') := fun w => rsum32_ (octs_lt _) (by rw [octs_length]; simp [head7]) w
      have hrow : (w2.alloc (.cells #[.int .u64 y, .int .u64 x, .int .u64 0, .int .u64 0, .int .u64 0, .int .u64 0, .int .u64 0] 94)).ownsRow w.heap.size 94 1 (.slice (some ⟨w2.heap.size, 0, none⟩) 7 7) 7 (ivs .u64 (ints (head7 y x))) :=
        own_new (k := .u64) (l := ints (head7 y x)) (alloc_new w2 _) HB2.out.size rfl (by unfold maxLen; omega)
      have HROW := Lib.hid hrow
      have hs9 := sum7_lt y x
      have HBA := Lib.hid (bl_alloc HB2.out (.cells #[.int .u64 y, .int .u64 x, .int .u64 0, .int .u64 0, .int .u64 0, .int .u64 0, .int .u64 0] 94))
      clear hx hxi hrow
      generalize txt (octs (head7 y x)) = S at *
      have HSE : Hid (line y x = head7 y x ++ [sum7 y x]) := rfl
      generalize sum7 y x = t at *
      refine hrb.mono ?_
      clear hrb
      rintro e w3 ⟨rfl, hb3⟩
      have hrow3 := own_bl HROW.out hb3
      have HB3 := Lib.hid (bl_then HBA.out hb3)
      have HOW := Lib.hid (fun o => own_kp (W' := w3.alloc o) hrow3 (fun k _ hk => Below.heap_alloc _ _ k hk))
      have HR3 := Lib.hid hrow3
      clear hb3 hrow3
      go_wp2_with (first | (go_at_call 161; refine (HSM.out _).mono ?_; rintro e w4 ⟨rfl, rfl⟩) |
        (at_builtin; refine wpList_append_own _ rfl (.tmp 44) (.tmp 49) 22 rfl w.heap.size 94 i0 (.int .u64 0) 1 8 Tryz.underlying22 hinf hz0 hz1 hz2 rfl (by decide) _ 7 _ rfl (HOW.out _) ⟨w3.heap.size, 0, none⟩ 1 1 [.int .u64 t] rfl rfl (one_at _ _ _) (by intro u hu; simp at hu; subst hu; rfl) (by unfold maxLen; omega) (by omega) (by have h1 := HB3.out.size; simp; omega) ?_; intro v' w7 hown' hgrow _; (have HO := Lib.hid hown'); (have HG := Lib.hid hgrow); clear hown' hgrow))
      go_ret2
      refine ⟨_, rfl, ?_, bl_grown (bl_alloc HB3.out _) HG.out (own_lo HR3.out)⟩
      unfold enc
      rw [← HX.out, ← HM.out, HSE.out, ints_append, ivs_append]
      exact HO.out
end Go.Proofs.YtgnagbbdnlmgeaaGreat.Su
end
section
set_option maxHeartbeats 2000000
set_option maxRecDepth 100000
namespace Go.Proofs.YtgnagbbdnlmgeaaGreat.Iq
open Go Go.RowKit
open Ob Ba Oc Pk Su Cc Cr Ge In
theorem renc_no (k h z : Int) (hn : ¬ iAll k h z) (w : World) : Calls Tryz.prog 135 #[.agg #[.int .i64 k, .int .i64 h, .int .i64 z]] w fun e w' => e = .returned (.tuple #[.slice none 0 0, .bool false]) ∧ Below w.heap.size w w' := by
  have hu := Tryz.underlying47
  have HM := Lib.hid (rmay_no k h z hn)
  clear hn
  go_enter Tryz.func135, Tryz.ntmps135
  go_wp2_with fail
  refine (HM.out _).mono ?_
  rintro e w1 ⟨rfl, hb⟩
  have HB := Lib.hid (bl_then (bl_alloc (Below.refl _ _) _) hb)
  clear hb
  go_wp2_with fail
  go_ret2
  exact ⟨rfl, HB.out⟩
theorem renc_free (w : World) : Calls Tryz.prog 135 #[.agg #[.int .i64 0, .int .i64 (-1), .int .i64 0]] w fun e w' => ∃ v, e = .returned (.tuple #[v, .bool true]) ∧ w'.ownsRow w.heap.size 94 1 v 8 (ivs .u64 (ints (List.replicate 8 0))) ∧ Below w.heap.size w w' := by
  have hu := Tryz.underlying47
  go_enter Tryz.func135, Tryz.ntmps135
  go_wp2_with fail
  refine (rmay_yes 0 (-1) 0 (.inl ⟨rfl, rfl, rfl⟩) _).mono ?_
  rintro e w1 ⟨rfl, hb⟩
  have hq := blk_bl (alloc_new w (.cells #[.int .i64 0, .int .i64 (-1), .int .i64 0] 47)) hb
  have k0 := cell_of hq 0
  have hlt := lt_of hq
  have HB := Lib.hid (bl_then (bl_alloc (Below.refl _ _) _) hb)
  clear hb hq
  go_wp2_with (at_make; refine Go.Proofs.YtgnagbbdnlmgeaaGreat.Wl.wpl_make rfl _ 22 94 rfl (.int .u64 0) 8 Tryz.underlying22 info_u64 rfl 8 .i64 _ rfl rfl (by decide) (by decide) ?_)
  go_ret2
  refine ⟨_, rfl, own_new (k := .u64) (l := ints (List.replicate 8 0)) (q := w1.heap.size) ?_ HB.out.size rfl (by unfold maxLen; omega), bl_alloc HB.out _⟩
  exact alloc_new w1 _
theorem renc_file (k p z : Nat) (h : Int) (hp : (p : Int) = h + 1) (hk : iOk k h z) (w : World) :
    Calls Tryz.prog 135 #[.agg #[.int .i64 k, .int .i64 h, .int .i64 z]] w fun e w' => ∃ v, e = .returned (.tuple #[v, .bool true]) ∧ w'.ownsRow w.heap.size 94 1 v 8 (ivs .u64 (ints (line (k + 65536 * p) z))) ∧ Below w.heap.size w w' := by
  have hu := Tryz.underlying47
  have HM := Lib.hid (rmay_yes k h z (.inr hk))
  obtain ⟨h1, h2, h3, h4, h5, h6, h7⟩ := hk
  have hk9 : k < 65536 := by omega
  have hp9 : p < 65536 := by omega
  have hz9 : z < 18446744073709551616 := by omega
  have e0 : ((k : Int) == 0) = false := by rw [beq_eq_false_iff_ne]; omega
  obtain ⟨i0, hinf, hz0, hz1, hz2⟩ := info_parts info_u64
  obtain ⟨y, hy⟩ : ∃ y, y = k + 65536 * p := ⟨_, rfl⟩
  have hy9 : y < 18446744073709551616 := by omega
  have hyi : (k : Int) + 65536 * (p : Int) = (y : Int) := by omega
  rw [← hy]
  have hh1 : h = (p : Int) - 1 := by omega
  subst hh1
  clear h1 h2 h6 h7 hy hp h4
  go_enter Tryz.func135, Tryz.ntmps135
  go_wp2_with fail
  refine (HM.out _).mono ?_
  rintro e w2 ⟨rfl, hb⟩
  have hq := blk_bl (alloc_new w (.cells #[.int .i64 k, .int .i64 ((p : Int) - 1), .int .i64 z] 47)) hb
  have k0 := cell_of hq 0
  have k1 := cell_of hq 1
  have k2 := cell_of hq 2
  have hlt := lt_of hq
  have HB2 := Lib.hid (bl_then (bl_alloc (Below.refl _ _) _) hb)
  clear hb hq
  go_wp2_with fail
  have hrb := rbytes_ (rhead (w := w2) y z) (head7_lt hy9 hz9) 7 (by simp [head7])
  rw [show (head7 y z).length = 7 from rfl] at hrb
  have HSM : Hid (∀ w, Calls Tryz.prog 161 #[.string (txt (octs (head7 y z)))] w fun e w' => e = .returned (.int .u32 (sum7 y z : Nat)) ∧ w = w') := fun w => rsum32_ (octs_lt _) (by rw [octs_length]; simp [head7]) w
  have hrow : (w2.alloc (.cells #[.int .u64 y, .int .u64 z, .int .u64 0, .int .u64 0, .int .u64 0, .int .u64 0, .int .u64 0] 94)).ownsRow w.heap.size 94 1 (.slice (some ⟨w2.heap.size, 0, none⟩) 7 7) 7 (ivs .u64 (ints (head7 y z))) :=
    own_new (k := .u64) (l := ints (head7 y z)) (alloc_new w2 _) HB2.out.size rfl (by unfold maxLen; omega)
  have HROW := Lib.hid hrow
  have hs9 := sum7_lt y z
  have HBA := Lib.hid (bl_alloc HB2.out (.cells #[.int .u64 y, .int .u64 z, .int .u64 0, .int .u64 0, .int .u64 0, .int .u64 0, .int .u64 0] 94))
  clear hrow k0 k1 k2
  generalize txt (octs (head7 y z)) = S at *
  have HSE : Hid (line y z = head7 y z ++ [sum7 y z]) := rfl
  generalize sum7 y z = t at *
  refine hrb.mono ?_
  clear hrb
  rintro e w3 ⟨rfl, hb3⟩
  have hrow3 := own_bl HROW.out hb3
  have HB3 := Lib.hid (bl_then HBA.out hb3)
  have HOW := Lib.hid (fun o => own_kp (W' := w3.alloc o) hrow3 (fun k _ hk => Below.heap_alloc _ _ k hk))
  have HR3 := Lib.hid hrow3
  clear hb3 hrow3
  go_wp2_with (first | (go_at_call 161; refine (HSM.out _).mono ?_; rintro e w4 ⟨rfl, rfl⟩) |
    (at_builtin; refine wpList_append_own _ rfl (.tmp 25) (.tmp 30) 22 rfl w.heap.size 94 i0 (.int .u64 0) 1 8 Tryz.underlying22 hinf hz0 hz1 hz2 rfl (by decide) _ 7 _ rfl (HOW.out _) ⟨w3.heap.size, 0, none⟩ 1 1 [.int .u64 t] rfl rfl (one_at _ _ _) (by intro u hu; simp at hu; subst hu; rfl) (by unfold maxLen; omega) (by omega) (by have h1 := HB3.out.size; simp; omega) ?_; intro v' w7 hown' hgrow _; (have HO := Lib.hid hown'); (have HG := Lib.hid hgrow); clear hown' hgrow))
  go_ret2
  refine ⟨_, rfl, ?_, bl_grown (bl_alloc HB3.out _) HG.out (own_lo HR3.out)⟩
  rw [HSE.out, ints_append, ivs_append]
  exact HO.out
theorem renc_yes (k h z : Int) (hn : iAll k h z) (w : World) : Calls Tryz.prog 135 #[.agg #[.int .i64 k, .int .i64 h, .int .i64 z]] w fun e w' => ∃ v, e = .returned (.tuple #[v, .bool true]) ∧ w'.ownsRow w.heap.size 94 1 v 8 (ivs .u64 (ints (iLine k h z))) ∧ Below w.heap.size w w' := by
  rcases hn with ⟨rfl, rfl, rfl⟩ | hk
  · exact renc_free w
  · have hk' := hk
    obtain ⟨h1, h2, h3, h4, h5, h6, h7⟩ := hk'
    obtain ⟨kk, rfl⟩ : ∃ kk : Nat, k = kk := ⟨k.toNat, by omega⟩
    obtain ⟨zz, rfl⟩ : ∃ zz : Nat, z = zz := ⟨z.toNat, by omega⟩
    have := renc_file kk (h + 1).toNat zz h (by omega) hk w
    unfold iLine
    rw [if_neg (by omega)]
    exact this
theorem ref_ (k h z : Int) (w : World) : Calls Tryz.prog 23 #[.agg #[.int .i64 k, .int .i64 h, .int .i64 z]] w fun e w' => e = .returned (.agg #[.int .i64 k, .int .i64 h, .int .i64 z]) ∧ Below w.heap.size w w' := by
  have hu := Tryz.underlying47
  have hu2 := Tryz.underlying42
  have hq := alloc_new (w.alloc (.cells #[.int .i64 k, .int .i64 h, .int .i64 z] 42)) (.cells #[.int .i64 k, .int .i64 h, .int .i64 z] 47)
  rw [World.size_alloc] at hq
  have HQ := Lib.hid hq
  clear hq
  go_enter Tryz.func23, Tryz.ntmps23
  go_wp2
  exact bodyPost_ret (res_c rfl _ _ (w.heap.size + 1) 47 _ (0, 0) _ rfl HQ.out hu rfl (by kernel_rfl)) rfl ⟨rfl, bl_alloc (bl_alloc (Below.refl _ _) _) _⟩
end Go.Proofs.YtgnagbbdnlmgeaaGreat.Iq
end
section
set_option maxHeartbeats 2000000
set_option maxRecDepth 100000
namespace Go.Proofs.YtgnagbbdnlmgeaaGreat.Su
open Go Go.RowKit
open Ob Ba Ko Ge Cr Cc Oc Pk
def pa (x : Nat) : Nat := x % 65536
def pb (x : Nat) : Nat := x / 65536 % 65536
def pc (x : Nat) : Nat := x / 4294967296 % 65536
theorem rk_rd {w : World} {A : Option Addr} {l : List Int} (h : Rk .u64 w A l) : Go.Proofs.YtgnagbbdnlmgeaaGreat.Pm.Rd w A l := h
theorem spl3 (x : Nat) : spl x [16, 16, 16] = [pa x, pb x, pc x] := by
  simp only [spl, pa, pb, pc]
  simp
  omega
theorem dec_split {w : World} {A : Option Addr} {l : List Nat} (h : Rk .u64 w A (ints l)) (c : Nat) (hl : l.length = 8) (hlt : ∀ x ∈ l, x < 18446744073709551616) (hx : ¬ l.getD 1 0 < 281474976710656) :
    Calls Tryz.prog 171 #[.slice A l.length c] w fun e w' => e = .returned (.tuple #[.agg #[.int .i64 0, .int .i64 0, .int .i64 0], .int .i64 2]) ∧ Below w.heap.size w w' := by
  have hu := Tryz.underlying34
  obtain ⟨x, hx1⟩ := some_at (l := l) (i := 1) (by omega)
  have hxe : l.getD 1 0 = x := by rw [List.getD_eq_getElem?_getD, hx1]; rfl
  rw [hxe] at hx
  obtain ⟨a, rfl, ha0, ha⟩ := h 1 x (ints_get hx1)
  have ha : w.cell? ⟨a.block, a.off + 1, none⟩ = some (.int .u64 x) := ha
  have hx64 := hlt x (List.mem_of_getElem? hx1)
  rw [hl]
  clear h hl hlt hx1 hxe
  have hrk : Rk .i64 ((w.alloc (.cells #[.int .i64 0, .int .i64 0, .int .i64 0] 34)).alloc (.cells #[.int .i64 16, .int .i64 16, .int .i64 16] 3)) (some ⟨w.heap.size + 1, 0, none⟩) (ints [16, 16, 16]) := by
    have := alloc_new (w.alloc (.cells #[.int .i64 0, .int .i64 0, .int .i64 0] 34)) (.cells #[.int .i64 16, .int .i64 16, .int .i64 16] 3)
    rw [World.size_alloc] at this
    refine blk_rk this fun i x hx => ?_
    match i with
    | 0 => simpa [ints] using hx
    | 1 => simpa [ints] using hx
    | 2 => simpa [ints] using hx
    | i + 3 => simp [ints] at hx
  have hsp := split_ hrk x hx64 3 (by simp) (by decide) (by decide)
  have hne : ¬ x / 2 ^ [16, 16, 16].sum = 0 := by
    simp
    omega
  rw [decide_eq_false hne] at hsp
  have HS := Lib.hid hsp
  clear hrk hsp hne hx
  go_enter Tryz.func171, Tryz.ntmps171
  go_wp2_with (go_at_call 133; refine HS.out.mono ?_; rintro e w1 ⟨v, rfl, -, hb⟩; (obtain ⟨hc, hf⟩ := bcell hb); (have hz := hb.size); simp only [World.size_alloc] at hz; (have hz1 : w.heap.size < w1.heap.size := by omega); (have HB := Lib.hid hb); clear hb hz)
  refine bodyPost_ret (res_ct rfl _ _ w.heap.size 34 #[.int .i64 0, .int .i64 0, .int .i64 0] (0, 0) _ rfl ?_ hu rfl (by kernel_rfl)) rfl ⟨rfl, ?_⟩
  · exact put3 (blk_bl (alloc_old (alloc_new w _) _) HB.out) _ _ _
  · exact bl_put3 (bl_then (bl_alloc (bl_alloc (Below.refl _ _) _) _) HB.out) (Nat.le_refl _) _ _ _
def DecIs (l : List Nat) (a b d : Nat) (e : Ending) : Prop := if geoOk a b d = true ∧ enc a b d = l then e = .returned (.tuple #[.agg #[.int .i64 a, .int .i64 b, .int .i64 d], .int .i64 0]) else e = .returned (.tuple #[.agg #[.int .i64 0, .int .i64 0, .int .i64 0], .int .i64 2])
theorem dec_yes {l : List Nat} {a b d : Nat} (h : geoOk a b d = true ∧ enc a b d = l) : DecIs l a b d (.returned (.tuple #[.agg #[.int .i64 a, .int .i64 b, .int .i64 d], .int .i64 0])) := by unfold DecIs; rw [if_pos h]
theorem dec_no {l : List Nat} {a b d : Nat} (h : ¬ (geoOk a b d = true ∧ enc a b d = l)) : DecIs l a b d (.returned (.tuple #[.agg #[.int .i64 0, .int .i64 0, .int .i64 0], .int .i64 2])) := by unfold DecIs; rw [if_neg h]
theorem dec_rest {w : World} {A : Option Addr} {l : List Nat} (h : Rk .u64 w A (ints l)) (c : Nat) (hl : l.length = 8) (hlt : ∀ x ∈ l, x < 18446744073709551616) (x : Nat) (hxx : l.getD 1 0 = x) (hx : x < 281474976710656) (a b d : Nat) (h1 : a = pa x) (h2 : b = pb x) (h3 : d = pc x) :
    Calls Tryz.prog 171 #[.slice A l.length c] w fun e w' => DecIs l a b d e ∧ Below w.heap.size w w' := by
  have hu := Tryz.underlying34
  obtain ⟨x', hx1⟩ := some_at (l := l) (i := 1) (by omega)
  have hxe : x' = x := by rw [← hxx, List.getD_eq_getElem?_getD, hx1]; rfl
  subst hxe
  have H := Lib.hid h
  obtain ⟨ad, rfl, ha0, ha⟩ := h 1 x' (ints_get hx1)
  have ha : w.cell? ⟨ad.block, ad.off + 1, none⟩ = some (.int .u64 x') := ha
  have HL := Lib.hid hl
  rw [hl]
  have ha1 : a < 65536 := by rw [h1]; exact Nat.mod_lt _ (by decide)
  have hb1 : b < 65536 := by rw [h2]; exact Nat.mod_lt _ (by decide)
  have hd1 : d < 65536 := by rw [h3]; exact Nat.mod_lt _ (by decide)
  have hrk : Rk .i64 ((w.alloc (.cells #[.int .i64 0, .int .i64 0, .int .i64 0] 34)).alloc (.cells #[.int .i64 16, .int .i64 16, .int .i64 16] 3)) (some ⟨w.heap.size + 1, 0, none⟩) (ints [16, 16, 16]) := by
    have := alloc_new (w.alloc (.cells #[.int .i64 0, .int .i64 0, .int .i64 0] 34)) (.cells #[.int .i64 16, .int .i64 16, .int .i64 16] 3)
    rw [World.size_alloc] at this
    refine blk_rk this fun i x hx => ?_
    match i with
    | 0 => simpa [ints] using hx
    | 1 => simpa [ints] using hx
    | 2 => simpa [ints] using hx
    | i + 3 => simp [ints] at hx
  have hsp := split_ hrk x' (by omega) 3 (by simp) (by decide) (by decide)
  have hne : x' / 2 ^ [16, 16, 16].sum = 0 := by
    simp
    omega
  rw [decide_eq_true hne, spl3, ← h1, ← h2, ← h3, show ([16, 16, 16] : List Nat).length = 3 from rfl] at hsp
  have HS := Lib.hid (And.intro hsp hne)
  clear hrk hsp hne hx h hl hx1 hxx h1 h2 h3 hlt
  go_enter Tryz.func171, Tryz.ntmps171
  go_wp2_with fail
  refine HS.out.1.mono ?_
  rintro e w1 ⟨v, rfl, hown, hb⟩
  have hown := hown HS.out.2
  obtain ⟨A1, c1, rfl⟩ := own_slice hown
  obtain ⟨g1, rfl, hc0, hf0⟩ := own_at (i := 0) (x := (a : Nat)) hown rfl
  obtain ⟨g2, e2, hc1, hf1⟩ := own_at (i := 1) (x := (b : Nat)) hown rfl
  cases e2
  obtain ⟨g3, e3, hc2, hf2⟩ := own_at (i := 2) (x := (d : Nat)) hown rfl
  cases e3
  have hz := hb.size
  simp only [World.size_alloc] at hz
  have hz1 : w.heap.size < w1.heap.size := by omega
  have HB := Lib.hid hb
  have hq1 : Hid (w1.heap[w.heap.size]? = some (.cells #[.int .i64 0, .int .i64 0, .int .i64 0] 34 (0, 0))) := blk_bl (alloc_old (alloc_new w _) _) hb
  have HQ1 : Hid (Below w.heap.size w w1) := bl_then (bl_alloc (bl_alloc (Below.refl _ _) _) _) hb
  have hg : g1 < w1.heap.size := by
    have := hc0
    unfold World.cell? at this
    cases hq : w1.heap[g1]? with
    | none => simp [hq] at this
    | some o => exact lt_of hq
  clear hown hb hf0 hf1 hf2 ha hz
  go_wp2_with fail
  go_region
  by_cases hgeo : geoOk a b d = true
  · have HG := Lib.hid hgeo
    go_wp2_with fail
    refine (encode_yes a b d hgeo ha1 hb1 hd1 _).mono ?_
    rintro e w2 ⟨v2, rfl, hown2, hb2⟩
    have hb2' : Below w1.heap.size w1 w2 := bl_then (bl_drew (bl_alloc (Below.refl _ _) _)) hb2
    obtain ⟨A2, c2, rfl⟩ := own_slice hown2
    have hrk2 := (own_rk hown2).1
    have hlr : Rk .u64 w2 (some ad) (ints l) := H.out.below (bl_then HQ1.out hb2')
    have heq := Go.Proofs.YtgnagbbdnlmgeaaGreat.Pm.equal_any (rk_rd hrk2) (rk_rd hlr) c2 c (by rw [ints_length, show (enc a b d).length = 8 from rfl]; decide) (by rw [ints_length, HL.out]; decide)
    rw [ints_length, ints_length, show (enc a b d).length = 8 from rfl, HL.out] at heq
    have HE := Lib.hid heq
    have hgb := blk_bl (W := (w1.alloc (.cells #[.int .i64 a, .int .i64 b, .int .i64 d] 34)).drew) (alloc_new w1 (.cells #[.int .i64 a, .int .i64 b, .int .i64 d] 34)) hb2
    have m0 := cell_of hgb 0
    have m1 := cell_of hgb 1
    have m2 := cell_of hgb 2
    have hq2 := Lib.hid (blk_bl hq1.out hb2')
    have l0 := cell_of hq2.out 0
    have l1 := cell_of hq2.out 1
    have l2 := cell_of hq2.out 2
    have f0 := free_of hq2.out 0
    have f1 := free_of hq2.out 1
    have f2 := free_of hq2.out 2
    have HQ2 := Lib.hid (bl_then HQ1.out hb2')
    clear hgeo hown2 hb2 hb2' hrk2 hlr heq
    go_wp2_with fail
    refine HE.out.mono ?_
    rintro e w3 ⟨rfl, n3, rfl⟩
    by_cases hle : ints (enc a b d) = ints l
    · have hle' : enc a b d = l := ints_inj.1 hle
      rw [decide_eq_true hle]
      have HLE := Lib.hid (And.intro HG.out hle')
      clear hle hle'
      go_wp2_with fail
      exact bodyPost_ret (res_ct (u := 3) rfl _ _ w.heap.size 34 #[.int .i64 a, .int .i64 b, .int .i64 d] (0, 0) _ rfl (put3 hq2.out _ _ _) hu rfl (by kernel_rfl)) rfl ⟨dec_yes HLE.out, bl_put3 (bl_drewN HQ2.out _) (Nat.le_refl _) _ _ _⟩
    · rw [decide_eq_false hle]
      have HLE : Hid (¬ (geoOk a b d = true ∧ enc a b d = l)) := fun h => hle (by rw [h.2])
      clear hle
      go_wp2_with fail
      exact bodyPost_ret (res_ct (u := 3) rfl _ _ w.heap.size 34 #[.int .i64 0, .int .i64 0, .int .i64 0] (0, 0) _ rfl (put3 hq2.out _ _ _) hu rfl (by kernel_rfl)) rfl ⟨dec_no HLE.out, bl_put3 (bl_drewN HQ2.out _) (Nat.le_refl _) _ _ _⟩
  · have HG : Hid (¬ (geoOk a b d = true ∧ enc a b d = l)) := fun h => hgeo h.1
    have hgeo' : geoOk a b d = false := by simpa using hgeo
    clear hgeo
    go_wp2_with fail
    refine (encode_no a b d hgeo' _).mono ?_
    rintro e w2 ⟨rfl, hb2⟩
    have hb2' : Below w1.heap.size w1 w2 := bl_then (bl_drew (bl_alloc (Below.refl _ _) _)) hb2
    have hq2 := Lib.hid (blk_bl hq1.out hb2')
    have l0 := cell_of hq2.out 0
    have l1 := cell_of hq2.out 1
    have l2 := cell_of hq2.out 2
    have f0 := free_of hq2.out 0
    have f1 := free_of hq2.out 1
    have f2 := free_of hq2.out 2
    have HQ2 := Lib.hid (bl_then HQ1.out hb2')
    clear hb2 hb2' hgeo'
    go_wp2_with fail
    exact bodyPost_ret (res_ct (u := 3) rfl _ _ w.heap.size 34 #[.int .i64 0, .int .i64 0, .int .i64 0] (0, 0) _ rfl (put3 hq2.out _ _ _) hu rfl (by kernel_rfl)) rfl ⟨dec_no HG.out, bl_put3 HQ2.out (Nat.le_refl _) _ _ _⟩
end Go.Proofs.YtgnagbbdnlmgeaaGreat.Su
end
section
set_option maxHeartbeats 2000000
set_option maxRecDepth 100000
namespace Go.Proofs.YtgnagbbdnlmgeaaGreat.In
open Go Go.RowKit
open Ob Ba Oc Pk Su Cc Cr Ge
def ok6 (l : List Nat) : Bool := decide (l.getD 0 0 < 4294967296) && (decide (l.getD 1 0 ≤ 268435456) && (iB (l.getD 0 0 % 65536 : Nat) ((l.getD 0 0 / 65536 : Nat) - 1) (l.getD 1 0) && decide (iLine (l.getD 0 0 % 65536 : Nat) ((l.getD 0 0 / 65536 : Nat) - 1) (l.getD 1 0) = l)))
def n6 (l : List Nat) : Int × Int × Int := if ok6 l then (((l.getD 0 0 % 65536 : Nat) : Int), ((l.getD 0 0 / 65536 : Nat) : Int) - 1, (l.getD 1 0 : Int)) else (0, -1, 0)
def D6 (l : List Nat) (e : Ending) : Prop := e = .returned (.tuple #[.agg #[.int .i64 (n6 l).1, .int .i64 (n6 l).2.1, .int .i64 (n6 l).2.2], .int .i64 (if ok6 l then 0 else 2)])
theorem d6_no {l : List Nat} (h : ok6 l = false) : D6 l (.returned (.tuple #[.agg #[.int .i64 0, .int .i64 (-1), .int .i64 0], .int .i64 2])) := by unfold D6 n6; rw [h]; rfl
theorem d6_yes {l : List Nat} {a b z : Nat} (ha : a = l.getD 0 0 % 65536) (hb : b = l.getD 0 0 / 65536) (hz : z = l.getD 1 0) (h : ok6 l = true) : D6 l (.returned (.tuple #[.agg #[.int .i64 a, .int .i64 ((b : Int) - 1), .int .i64 z], .int .i64 0])) := by unfold D6 n6; rw [h, ha, hb, hz]; rfl
theorem spl2 (x : Nat) (hx : x < 4294967296) : spl x [16, 16] = [x % 65536, x / 65536] := by
  simp only [spl]
  simp
  omega
theorem two_at' (w : World) (q T : Nat) (fr : Nat × Nat) (h : w.heap[q]? = some (.cells #[.int .i64 16, .int .i64 16] T fr)) : Rk .i64 w (some ⟨q, 0, none⟩) (ints [16, 16]) := by
  refine blk_rk h fun i x hx => ?_
  match i with
  | 0 => simpa [ints] using hx
  | 1 => simpa [ints] using hx
  | i + 2 => simp [ints] at hx
theorem dec_big {w : World} {A : Option Addr} {l : List Nat} (h : Rk .u64 w A (ints l)) (c : Nat) (hl : l.length = 8) (hlt : ∀ x ∈ l, x < 18446744073709551616) (hx : ¬ (l.getD 0 0 < 4294967296 ∧ l.getD 1 0 ≤ 268435456)) :
    Calls Tryz.prog 77 #[.slice A 8 c] w fun e w' => e = .returned (.tuple #[.agg #[.int .i64 0, .int .i64 (-1), .int .i64 0], .int .i64 2]) ∧ Below w.heap.size w w' := by
  have hu := Tryz.underlying42
  obtain ⟨x, hx0⟩ := some_at (l := l) (i := 0) (by omega)
  obtain ⟨y, hy1⟩ := some_at (l := l) (i := 1) (by omega)
  have hxe : l.getD 0 0 = x := by rw [List.getD_eq_getElem?_getD, hx0]; rfl
  have hye : l.getD 1 0 = y := by rw [List.getD_eq_getElem?_getD, hy1]; rfl
  rw [hxe, hye] at hx
  obtain ⟨a, rfl, ha0, ha⟩ := h 0 x (ints_get hx0)
  obtain ⟨_, e2, -, hb⟩ := h 1 y (ints_get hy1)
  cases e2
  have ha : w.cell? a = some (.int .u64 x) := ha
  have hb : w.cell? ⟨a.block, a.off + 1, none⟩ = some (.int .u64 y) := hb
  have hx64 := hlt x (List.mem_of_getElem? hx0)
  have hy64 := hlt y (List.mem_of_getElem? hy1)
  clear h hl hlt hx0 hy1 hxe hye
  have hsp : ∀ W : World, W.heap[w.heap.size + 1]? = some (.cells #[.int .i64 16, .int .i64 16] 3 (0, 0)) → _ := fun W hW => split_ (two_at' W (w.heap.size + 1) 3 (0, 0) hW) x hx64 2 (by simp) (by decide) (by decide)
  have hal : ((w.alloc (.cells #[.int .i64 0, .int .i64 0, .int .i64 0] 42)).alloc (.cells #[.int .i64 16, .int .i64 16] 3)).heap[w.heap.size + 1]? = some (.cells #[.int .i64 16, .int .i64 16] 3 (0, 0)) := by
    have := alloc_new (w.alloc (.cells #[.int .i64 0, .int .i64 0, .int .i64 0] 42)) (.cells #[.int .i64 16, .int .i64 16] 3)
    rw [World.size_alloc] at this
    exact this
  have HS := Lib.hid (hsp _ hal)
  have HO := Lib.hid (alloc_old (alloc_new w (.cells #[.int .i64 0, .int .i64 0, .int .i64 0] 42)) (.cells #[.int .i64 16, .int .i64 16] 3))
  have HN := Lib.hid none_
  clear hsp hal
  by_cases hxx : x < 4294967296
  · have hyy : 268435456 < y := by omega
    have hd : decide (x / 2 ^ ([16, 16] : List Nat).sum = 0) = true := decide_eq_true (by simp; omega)
    rw [hd] at HS
    clear hd hx hxx
    go_enter Tryz.func77, Tryz.ntmps77
    go_wp2_with fail
    refine (show Calls _ _ #[.int .u64 x, .slice (some ⟨w.heap.size + 1, 0, none⟩) 2 2] _ _ from HS.out).mono ?_
    rintro e w1 ⟨v, rfl, -, hb1⟩
    obtain ⟨hc, hf⟩ := bcell (bl_then (bl_alloc (bl_alloc (Below.refl _ _) _) _) hb1)
    have hq1 := blk_bl HO.out hb1
    have HB1 := Lib.hid (bl_then (bl_alloc (bl_alloc (Below.refl _ _) _) _) hb1)
    have hb9 : w1.cell? ⟨a.block, a.off + 1, none⟩ = some (.int .u64 y) := by rw [hc _ _ ha0]; exact hb
    have HQ1 := Lib.hid hq1
    clear hb1 hc hf hq1
    go_wp2_with fail
    refine (HN.out _).mono ?_
    rintro e w2 ⟨rfl, hb2⟩
    have hq2 := blk_bl HQ1.out hb2
    have l0 := cell_of hq2 0
    have l1 := cell_of hq2 1
    have l2 := cell_of hq2 2
    have f0 := free_of hq2 0
    have f1 := free_of hq2 1
    have f2 := free_of hq2 2
    have HQ2 := Lib.hid hq2
    have HB2 := Lib.hid (bl_then HB1.out hb2)
    clear hb2 hq2
    go_wp2_with fail
    exact bodyPost_ret (res_ct (u := 3) rfl _ _ w.heap.size 42 #[.int .i64 0, .int .i64 (-1), .int .i64 0] (0, 0) _ rfl (put3 HQ2.out _ _ _) hu rfl (by kernel_rfl)) rfl ⟨rfl, bl_put3 HB2.out (Nat.le_refl _) _ _ _⟩
  · have hd : decide (x / 2 ^ ([16, 16] : List Nat).sum = 0) = false := decide_eq_false (by simp; omega)
    rw [hd] at HS
    clear hd hx hxx
    go_enter Tryz.func77, Tryz.ntmps77
    go_wp2_with fail
    refine (show Calls _ _ #[.int .u64 x, .slice (some ⟨w.heap.size + 1, 0, none⟩) 2 2] _ _ from HS.out).mono ?_
    rintro e w1 ⟨v, rfl, -, hb1⟩
    have hq1 := blk_bl HO.out hb1
    have HB1 := Lib.hid (bl_then (bl_alloc (bl_alloc (Below.refl _ _) _) _) hb1)
    have HQ1 := Lib.hid hq1
    clear hb1 hq1
    go_wp2_with fail
    refine (HN.out _).mono ?_
    rintro e w2 ⟨rfl, hb2⟩
    have hq2 := blk_bl HQ1.out hb2
    have l0 := cell_of hq2 0
    have l1 := cell_of hq2 1
    have l2 := cell_of hq2 2
    have f0 := free_of hq2 0
    have f1 := free_of hq2 1
    have f2 := free_of hq2 2
    have HQ2 := Lib.hid hq2
    have HB2 := Lib.hid (bl_then HB1.out hb2)
    clear hb2 hq2
    go_wp2_with fail
    exact bodyPost_ret (res_ct (u := 3) rfl _ _ w.heap.size 42 #[.int .i64 0, .int .i64 (-1), .int .i64 0] (0, 0) _ rfl (put3 HQ2.out _ _ _) hu rfl (by kernel_rfl)) rfl ⟨rfl, bl_put3 HB2.out (Nat.le_refl _) _ _ _⟩
theorem dec_rest6 {w : World} {A : Option Addr} {l : List Nat} (h : Rk .u64 w A (ints l)) (c : Nat) (hl : l.length = 8) (hlt : ∀ x ∈ l, x < 18446744073709551616) (hx : l.getD 0 0 < 4294967296 ∧ l.getD 1 0 ≤ 268435456) :
    Calls Tryz.prog 77 #[.slice A 8 c] w fun e w' => D6 l e ∧ Below w.heap.size w w' := by
  have hu := Tryz.underlying42
  obtain ⟨x, hx0⟩ := some_at (l := l) (i := 0) (by omega)
  obtain ⟨y, hy1⟩ := some_at (l := l) (i := 1) (by omega)
  have hxe : l.getD 0 0 = x := by rw [List.getD_eq_getElem?_getD, hx0]; rfl
  have hye : l.getD 1 0 = y := by rw [List.getD_eq_getElem?_getD, hy1]; rfl
  rw [hxe, hye] at hx
  obtain ⟨hx9, hy9⟩ := hx
  obtain ⟨a, ha1⟩ : ∃ a, a = x % 65536 := ⟨_, rfl⟩
  obtain ⟨b, hb1⟩ : ∃ b, b = x / 65536 := ⟨_, rfl⟩
  have ha9 : a < 65536 := by omega
  have hb9 : b < 65536 := by omega
  have HF : Hid (a = l.getD 0 0 % 65536 ∧ b = l.getD 0 0 / 65536 ∧ y = l.getD 1 0) := ⟨by rw [hxe]; exact ha1, by rw [hxe]; exact hb1, hye.symm⟩
  have HOK : Hid (ok6 l = (iB a ((b : Int) - 1) y && decide (iLine a ((b : Int) - 1) y = l))) := by
    show _ = _
    unfold ok6
    rw [hxe, hye, ← ha1, ← hb1, decide_eq_true hx9, decide_eq_true hy9]
    rfl
  have H := Lib.hid h
  obtain ⟨ad, rfl, ha0, ha⟩ := h 0 x (ints_get hx0)
  obtain ⟨_, e2, -, hb⟩ := h 1 y (ints_get hy1)
  cases e2
  have ha : w.cell? ad = some (.int .u64 x) := ha
  have hb : w.cell? ⟨ad.block, ad.off + 1, none⟩ = some (.int .u64 y) := hb
  have hx64 := hlt x (List.mem_of_getElem? hx0)
  have HL := Lib.hid hl
  have hal : ((w.alloc (.cells #[.int .i64 0, .int .i64 0, .int .i64 0] 42)).alloc (.cells #[.int .i64 16, .int .i64 16] 3)).heap[w.heap.size + 1]? = some (.cells #[.int .i64 16, .int .i64 16] 3 (0, 0)) := by
    have := alloc_new (w.alloc (.cells #[.int .i64 0, .int .i64 0, .int .i64 0] 42)) (.cells #[.int .i64 16, .int .i64 16] 3)
    rw [World.size_alloc] at this
    exact this
  have hsp := split_ (two_at' _ _ _ _ hal) x hx64 2 (by simp) (by decide) (by decide)
  have hne : x / 2 ^ ([16, 16] : List Nat).sum = 0 := by simp; omega
  rw [decide_eq_true hne, spl2 x hx9, ← ha1, ← hb1, show ([16, 16] : List Nat).length = 2 from rfl] at hsp
  have HS := Lib.hid (And.intro hsp hne)
  have HO := Lib.hid (alloc_old (alloc_new w (.cells #[.int .i64 0, .int .i64 0, .int .i64 0] 42)) (.cells #[.int .i64 16, .int .i64 16] 3))
  have HN := Lib.hid none_
  clear hsp hal hne h hl hlt hx0 hy1 hxe hye ha1 hb1
  go_enter Tryz.func77, Tryz.ntmps77
  go_wp2_with fail
  refine (show Calls _ _ #[.int .u64 x, .slice (some ⟨w.heap.size + 1, 0, none⟩) 2 2] _ _ from HS.out.1).mono ?_
  rintro e w1 ⟨v, rfl, hown, hb1⟩
  have hown := hown HS.out.2
  obtain ⟨A1, c1, rfl⟩ := own_slice hown
  obtain ⟨g1, rfl, hc0, hf0⟩ := own_at (i := 0) (x := (a : Nat)) hown rfl
  obtain ⟨g2, e2, hc1, hf1⟩ := own_at (i := 1) (x := (b : Nat)) hown rfl
  cases e2
  obtain ⟨hc, hf⟩ := bcell (bl_then (bl_alloc (bl_alloc (Below.refl _ _) _) _) hb1)
  have hq1 : Hid (w1.heap[w.heap.size]? = some (.cells #[.int .i64 0, .int .i64 0, .int .i64 0] 42 (0, 0))) := blk_bl HO.out hb1
  have HQ1 : Hid (Below w.heap.size w w1) := bl_then (bl_alloc (bl_alloc (Below.refl _ _) _) _) hb1
  have hy1 : w1.cell? ⟨ad.block, ad.off + 1, none⟩ = some (.int .u64 y) := by rw [hc _ _ ha0]; exact hb
  have hg : g1 < w1.heap.size := by
    have := hc0
    unfold World.cell? at this
    cases hq : w1.heap[g1]? with
    | none => simp [hq] at this
    | some o => exact lt_of hq
  have had : ad.block < w1.heap.size := Nat.lt_of_lt_of_le ha0 HQ1.out.size
  have hz1 : w.heap.size < w1.heap.size := lt_of hq1.out
  clear hown hb1 hf0 hf1 ha hb hc hf
  go_wp2_with fail
  go_region
  by_cases hgeo : iB a ((b : Int) - 1) y = true
  · have HG := Lib.hid hgeo
    have hen := encode_yes a ((b : Int) - 1) y hgeo
    have hn8 : (iLine a ((b : Int) - 1) y).length = 8 := iLine_len _ _ _
    have HLE0 := Lib.hid HOK.out
    obtain ⟨L6, hL6⟩ : ∃ L6, L6 = iLine a ((b : Int) - 1) y := ⟨_, rfl⟩
    rw [← hL6] at hen hn8 HOK
    have HEN := Lib.hid hen
    clear hgeo hen hL6 HLE0
    go_wp2_with fail
    refine (HEN.out _).mono ?_
    rintro e w2 ⟨v2, rfl, hown2, hb2⟩
    have hb2' : Below w1.heap.size w1 w2 := bl_then (bl_drew (bl_alloc (Below.refl _ _) _)) hb2
    obtain ⟨A2, c2, rfl⟩ := own_slice hown2
    have hrk2 := (own_rk (k := .u64) hown2).1
    have hlr : Rk .u64 w2 (some ad) (ints l) := H.out.below (bl_then HQ1.out hb2')
    have heq := Go.Proofs.YtgnagbbdnlmgeaaGreat.Pm.equal_any (rk_rd hrk2) (rk_rd hlr) c2 c (by rw [ints_length, hn8]; decide) (by rw [ints_length, HL.out]; decide)
    rw [ints_length, ints_length, hn8, HL.out] at heq
    have HE := Lib.hid heq
    have hgb := blk_bl (W := (w1.alloc (.cells #[.int .i64 a, .int .i64 ((b : Int) - 1), .int .i64 y] 42)).drew) (alloc_new w1 (.cells #[.int .i64 a, .int .i64 ((b : Int) - 1), .int .i64 y] 42)) hb2
    have m0 := cell_of hgb 0
    have m1 := cell_of hgb 1
    have m2 := cell_of hgb 2
    have hq2 := Lib.hid (blk_bl hq1.out hb2')
    have HQ2 := Lib.hid (bl_then HQ1.out hb2')
    have hgl := lt_of hgb
    have l0 := cell_of hq2.out 0
    have l1 := cell_of hq2.out 1
    have l2 := cell_of hq2.out 2
    have f0 := free_of hq2.out 0
    have f1 := free_of hq2.out 1
    have f2 := free_of hq2.out 2
    clear hown2 hb2 hb2' hrk2 hlr heq hgb hn8
    go_wp2_with fail
    refine HE.out.mono ?_
    rintro e w3 ⟨rfl, n3, rfl⟩
    by_cases hle : ints L6 = ints l
    · have hle' : L6 = l := ints_inj.1 hle
      rw [decide_eq_true hle]
      have HLE : Hid (ok6 l = true) := by show _ = _; rw [HOK.out, HG.out, decide_eq_true hle']; rfl
      clear hle hle'
      go_wp2_with fail
      exact bodyPost_ret (res_ct (u := 3) rfl _ _ w.heap.size 42 #[.int .i64 a, .int .i64 ((b : Int) - 1), .int .i64 y] (0, 0) _ rfl (put3 hq2.out _ _ _) hu rfl (by kernel_rfl)) rfl ⟨d6_yes HF.out.1 HF.out.2.1 HF.out.2.2 HLE.out, bl_put3 (bl_drewN HQ2.out _) (Nat.le_refl _) _ _ _⟩
    · rw [decide_eq_false hle]
      have HLE : Hid (ok6 l = false) := by show _ = _; rw [HOK.out, decide_eq_false (fun h => hle (by rw [h]))]; simp
      clear hle
      go_wp2_with fail
      refine (HN.out _).mono ?_
      rintro e w4 ⟨rfl, hb4⟩
      have hq4 := Lib.hid (blk_bl (W := w2.drewN n3) hq2.out hb4)
      have HQ4 := Lib.hid (bl_then (bl_drewN HQ2.out n3) hb4)
      clear hb4 l0 l1 l2 f0 f1 f2
      have l0 := cell_of hq4.out 0
      have l1 := cell_of hq4.out 1
      have l2 := cell_of hq4.out 2
      have f0 := free_of hq4.out 0
      have f1 := free_of hq4.out 1
      have f2 := free_of hq4.out 2
      go_wp2_with fail
      exact bodyPost_ret (res_ct (u := 3) rfl _ _ w.heap.size 42 #[.int .i64 0, .int .i64 (-1), .int .i64 0] (0, 0) _ rfl (put3 hq4.out _ _ _) hu rfl (by kernel_rfl)) rfl ⟨d6_no HLE.out, bl_put3 HQ4.out (Nat.le_refl _) _ _ _⟩
  · have hgeo' : iB a ((b : Int) - 1) y = false := by simpa using hgeo
    have HLE : Hid (ok6 l = false) := by show _ = _; rw [HOK.out, hgeo']; rfl
    have HEN := Lib.hid (encode_no a ((b : Int) - 1) y hgeo')
    clear hgeo hgeo'
    go_wp2_with fail
    refine (HEN.out _).mono ?_
    rintro e w2 ⟨rfl, hb2⟩
    have hb2' : Below w1.heap.size w1 w2 := bl_then (bl_drew (bl_alloc (Below.refl _ _) _)) hb2
    have hq2 := Lib.hid (blk_bl hq1.out hb2')
    have HQ2 := Lib.hid (bl_then HQ1.out hb2')
    clear hb2 hb2'
    go_wp2_with fail
    refine (HN.out _).mono ?_
    rintro e w4 ⟨rfl, hb4⟩
    have hq4 := Lib.hid (blk_bl hq2.out hb4)
    have HQ4 := Lib.hid (bl_then HQ2.out hb4)
    clear hb4
    have l0 := cell_of hq4.out 0
    have l1 := cell_of hq4.out 1
    have l2 := cell_of hq4.out 2
    have f0 := free_of hq4.out 0
    have f1 := free_of hq4.out 1
    have f2 := free_of hq4.out 2
    go_wp2_with fail
    exact bodyPost_ret (res_ct (u := 3) rfl _ _ w.heap.size 42 #[.int .i64 0, .int .i64 (-1), .int .i64 0] (0, 0) _ rfl (put3 hq4.out _ _ _) hu rfl (by kernel_rfl)) rfl ⟨d6_no HLE.out, bl_put3 HQ4.out (Nat.le_refl _) _ _ _⟩
theorem decode_ {w : World} {A : Option Addr} {l : List Nat} (h : Rk .u64 w A (ints l)) (c : Nat) (hl : l.length = 8) (hlt : ∀ x ∈ l, x < 18446744073709551616) :
    Calls Tryz.prog 77 #[.slice A 8 c] w fun e w' => D6 l e ∧ Below w.heap.size w w' := by
  by_cases hx : l.getD 0 0 < 4294967296 ∧ l.getD 1 0 ≤ 268435456
  · exact dec_rest6 h c hl hlt hx
  · refine (dec_big h c hl hlt hx).mono ?_
    rintro e w' ⟨rfl, hb⟩
    refine ⟨d6_no ?_, hb⟩
    unfold ok6
    by_cases h1 : l.getD 0 0 < 4294967296
    · rw [decide_eq_false (p := l.getD 1 0 ≤ 268435456) (fun h2 => hx ⟨h1, h2⟩)]; simp
    · rw [decide_eq_false h1]; rfl
end Go.Proofs.YtgnagbbdnlmgeaaGreat.In
end
