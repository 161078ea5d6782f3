/- Parts of the proof, one behind the other: R0, R1, Jd, Je, Jf, Qe. -/
import Derived.Test.YtgnagbbdnlmgeaaGreatG03
import Derived.RegionTactic
import Derived.BigRegion
import Derived.Test.YtgnagbbdnlmgeaaGreatG10
import Derived.Test.YtgnagbbdnlmgeaaGreatG01
import Derived.Test.YtgnagbbdnlmgeaaGreatG08
import Derived.Test.YtgnagbbdnlmgeaaGreatG09
import Derived.Test.YtgnagbbdnlmgeaaGreatG04
import Derived.Test.YtgnagbbdnlmgeaaGreatG07

/- The document's bitmap: New, Turn (cantleref10). -/
section
set_option linter.unusedVariables false
set_option linter.unusedSimpArgs false
set_option maxHeartbeats 2000000
set_option maxRecDepth 100000
namespace Go.Proofs.YtgnagbbdnlmgeaaGreat.R0
open Go Go.RowKit
open Go.Proofs.YtgnagbbdnlmgeaaGreat.Ob Go.Proofs.YtgnagbbdnlmgeaaGreat.Ba Go.Proofs.YtgnagbbdnlmgeaaGreat.Oc Go.Proofs.YtgnagbbdnlmgeaaGreat.Pk

def bvs (l : List Bool) : List Value := l.map Value.bool
theorem bvs_length (l : List Bool) : (bvs l).length = l.length := by simp [bvs]
theorem bvs_one (l : List Bool) : ∀ u ∈ bvs l, u.oneCell' = true := by
  intro u hu
  simp only [bvs, List.mem_map] at hu
  obtain ⟨z, _, rfl⟩ := hu
  rfl
/-- the slice (A, ..) reads as these truths -/
def RB (w : World) (A : Option Addr) (l : List Bool) : Prop := ∀ (i : Nat) x, l[i]? = some x → ∃ a, A = some a ∧ a.block < w.heap.size ∧ w.cell? (a.add i) = some (.bool x)
theorem RB.below {w w' : World} {A : Option Addr} {l : List Bool} (h : RB w A l) (hb : Below w.heap.size w w') : RB w' A l := by
  intro i x hi
  obtain ⟨a, rfl, h1, h2⟩ := h i x hi
  exact ⟨a, rfl, Nat.lt_of_lt_of_le h1 hb.size, by rw [hb.cell (p := a.add i) (by rw [add_block]; exact h1)]; exact h2⟩
theorem own_rb {w : World} {B T n : Nat} {A : Option Addr} {c : Nat} {l : List Bool} (h : w.ownsRow B T 1 (.slice A n c) n (bvs l)) : RB w A l := by
  obtain ⟨h1, ⟨h2, h3⟩ | ⟨g, cap, cur, hv, hg, hb, hn, hm, hs, ht⟩⟩ := h
  · intro i x hx
    have := (List.getElem?_eq_some_iff.1 hx).1
    rw [bvs_length] at h1
    omega
  · simp only [Value.slice.injEq, true_and] at hv
    obtain ⟨rfl, rfl⟩ := hv
    intro i x hx
    refine ⟨_, rfl, lt_of hb, ?_⟩
    rw [Addr.add_lit, cell_of hb, Nat.zero_add]
    have hx2 : (bvs l)[i]? = some (.bool x) := by simp [bvs, hx]
    rw [← ht, List.getElem?_take] at hx2
    split at hx2
    · simpa using hx2
    · cases hx2

theorem own_bat {w : World} {B T n c : Nat} {A : Option Addr} {l : List Bool} (h : w.ownsRow B T 1 (.slice A n c) n (bvs l)) {i : Nat} {x : Bool} (hx : l[i]? = some x) :
    ∃ q, A = some ⟨q, 0, none⟩ ∧ w.cell? ⟨q, i, none⟩ = some (.bool x) ∧ w.frozen? ⟨q, i, none⟩ = false := by
  obtain ⟨h1, ⟨h2, h3⟩ | ⟨g, cap, cur, hv, hg, hb, hn, hm, hs, ht⟩⟩ := h
  · have := (List.getElem?_eq_some_iff.1 hx).1
    rw [bvs_length] at h1
    omega
  · simp only [Value.slice.injEq, true_and] at hv
    obtain ⟨rfl, rfl⟩ := hv
    refine ⟨g, rfl, ?_, free_of hb i⟩
    rw [cell_of hb]
    have hx2 : (bvs l)[i]? = some (.bool x) := by simp [bvs, hx]
    rw [← ht, List.getElem?_take] at hx2
    split at hx2
    · simpa using hx2
    · cases hx2

theorem info_bool : (Tryz.prog.info? 4).map (fun i => (i.zero, i.size, i.bytes)) = some (some (.bool false), 1, 1) := by kernel_rfl

def btn (l : List Bool) (b : Int) : List Bool := if 0 ≤ b ∧ b < l.length then l.set b.toNat true else l
theorem btn_len (l : List Bool) (b : Int) : (btn l b).length = l.length := by unfold btn; split <;> simp

/-- truths that read so, and whether one was turned -/
def BOut (w : World) (A0 : Option Addr) (B : Nat) (l : List Bool) (e : Ending) : Prop := ∃ A c f, e = .returned (.tuple #[.slice A l.length c, .bool f]) ∧ RB w A l ∧ ∀ a, A = some a → A0 = some a ∨ B ≤ a.block
theorem bout_of {w : World} {l : List Bool} {A A0 : Option Addr} {B n c : Nat} {f : Bool} (hn : n = l.length) (h : RB w A l) (hA : ∀ a, A = some a → A0 = some a ∨ B ≤ a.block) : BOut w A0 B l (.returned (.tuple #[.slice A n c, .bool f])) := ⟨A, c, f, by rw [hn], h, hA⟩

end Go.Proofs.YtgnagbbdnlmgeaaGreat.R0
end

/- The document's bitmap in one word (cantleref10.Words). -/
section
set_option linter.unusedVariables false
set_option linter.unusedSimpArgs false
set_option maxHeartbeats 2000000
set_option maxRecDepth 100000
namespace Go.Proofs.YtgnagbbdnlmgeaaGreat.R0
open Go Go.RowKit
open Go.Proofs.YtgnagbbdnlmgeaaGreat.Ob Go.Proofs.YtgnagbbdnlmgeaaGreat.Ba Go.Proofs.YtgnagbbdnlmgeaaGreat.Oc Go.Proofs.YtgnagbbdnlmgeaaGreat.Pk

/-- truths in a number -/
def bwr : List Bool → Nat
  | [] => 0
  | b :: r => (if b then 1 else 0) + 2 * bwr r
theorem bwr_snoc (l : List Bool) (b : Bool) : bwr (l ++ [b]) = bwr l + (if b then 2 ^ l.length else 0) := by
  induction l with
  | nil => cases b <;> rfl
  | cons a l ih =>
    rw [List.cons_append, bwr, ih, bwr]
    cases b
    · simp
    · simp [Nat.pow_succ]; omega
theorem bwr_lt (l : List Bool) : bwr l < 2 ^ l.length := by
  induction l with
  | nil => decide
  | cons a l ih =>
    rw [bwr, List.length_cons, Nat.pow_succ]
    cases a <;> simp <;> omega

theorem rwords1 {w : World} {A : Option Addr} {l : List Bool} (h : RB w A l) (c : Nat) (h1 : 1 ≤ l.length) (h2 : l.length ≤ 63) :
    Calls Tryz.prog 99 #[.slice A l.length c] w fun e w' => ∃ v, e = .returned v ∧ w'.ownsRow w.heap.size 94 1 v 1 (ivs .u64 (ints [bwr l])) ∧ Below w.heap.size w w' := by
  have H := Lib.hid h
  obtain ⟨n, hnn⟩ : ∃ n, n = l.length := ⟨_, rfl⟩
  rw [← hnn] at h1 h2
  rw [← hnn]
  have HN := Lib.hid hnn
  have hq1 : ((n : Int) + 63) / 64 = 1 := by omega
  have HO0 : Hid ((w.alloc (.cells #[.int .u64 0] 94)).ownsRow w.heap.size 94 1 (.slice (some ⟨w.heap.size, 0, none⟩) 1 1) 1 (ivs .u64 (ints [0]))) := own_new (k := .u64) (l := ints [0]) (alloc_new w _) (Nat.le_refl _) rfl (by unfold maxLen; omega)
  clear h hnn
  go_enter Tryz.func99, Tryz.ntmps99
  go_wp2_with (at_make; refine Go.Proofs.YtgnagbbdnlmgeaaGreat.Wl.wpl_make rfl _ 22 94 rfl (.int .u64 0) 8 Tryz.underlying22 info_u64 rfl 1 .i64 _ rfl (by first | rfl | exact hq1 | omega) (by decide) (by decide) ?_)
  clear hq1
  go_loopw [13] (fun c13 wr => ∃ i : Nat, i ≤ n ∧ c13 = .int .i64 i ∧ Hid (Below w.heap.size w wr ∧ wr.ownsRow w.heap.size 94 1 (.slice (some ⟨w.heap.size, 0, none⟩) 1 1) 1 (ivs .u64 (ints [bwr (l.take i)])))) (fun c13 _ => n - (intOf c13).toNat)
  case atStart => exact ⟨0, Nat.zero_le _, rfl, bl_alloc (Below.refl _ _) _, HO0.out⟩
  case round =>
    obtain ⟨i, hi, rfl, HR⟩ := hrel
    by_cases hlt : i < n
    · obtain ⟨x, hx⟩ := some_at (l := l) (i := i) (by rw [← HN.out]; exact hlt)
      obtain ⟨a, rfl, -, ha⟩ := (H.out.below HR.out.1) i x hx
      have HNX : Hid (bwr (l.take (i + 1)) = bwr (l.take i) + (if x then 2 ^ i else 0)) := by
        show _ = _
        rw [take_next hx, bwr_snoc, List.length_take, Nat.min_eq_left (by rw [← HN.out]; omega)]
      have hyl : bwr (l.take i) < 2 ^ i := by
        have := bwr_lt (l.take i)
        rw [List.length_take, Nat.min_eq_left (by rw [← HN.out]; omega)] at this
        exact this
      clear hx
      cases x with
      | false =>
        rw [if_neg (by simp), Nat.add_zero] at HNX
        go_wp2_with fail
        go_roundw
        case rel => exact ⟨i + 1, by omega, by go_num, HR.out.1, by rw [HNX.out]; exact HR.out.2⟩
        case measure => simp [intOf]; omega
      | true =>
        rw [if_pos rfl] at HNX
        obtain ⟨y, hy⟩ : ∃ y, y = bwr (l.take i) := ⟨_, rfl⟩
        rw [← hy] at HNX hyl
        obtain ⟨p, hp⟩ : ∃ p, p = 2 ^ i := ⟨_, rfl⟩
        rw [← hp] at HNX hyl
        have hp9 : p ≤ 4611686018427387904 := by rw [hp]; exact Nat.pow_le_pow_right (by decide) (show i ≤ 62 by omega)
        have hpi : IntKind.u64.wrap (2 ^ i) = (p : Int) := by
          have e2 : (2 ^ i : Int) = ((2 ^ i : Nat) : Int) := by norm_cast
          rw [e2, ← hp]
          exact wu64 _ (by omega) (by omega)
        have hown := HR.out.2
        rw [← hy] at hown
        obtain ⟨g, eg, hc, hf⟩ := own_at (i := 0) (x := (y : Int)) hown rfl
        cases eg
        have HO := Lib.hid hown
        have hd1 : (i : Int) / 64 = 0 := by omega
        have hd2 : (i : Int) % 64 = i := by omega
        have hyp : y + p < 18446744073709551616 := by omega
        clear hy hp hown hyl
        go_wp2_with fail
        go_region
        go_wp2_with fail
        go_roundw
        case rel =>
          refine ⟨i + 1, by omega, by go_num, bl_drew (bl_set HR.out.1 (Nat.le_refl _) _), ?_⟩
          rw [HNX.out]
          have h9 := own_set HO.out (i := 0) (by decide) (.int .u64 ((y : Int) + (p : Int)))
          have e9 : (ivs .u64 (ints [y])).set 0 (.int .u64 ((y : Int) + (p : Int))) = ivs .u64 (ints [y + p]) := by simp [ivs, ints]
          rw [e9] at h9
          exact own_kp h9 (fun _ _ _ => rfl)
        case measure => simp [intOf]; omega
    · obtain rfl : i = n := by omega
      go_wp2_with fail
      go_ret
      have h2 := HR.out.2
      rw [List.take_of_length_le (by rw [← HN.out]; omega)] at h2
      exact ⟨_, rfl, h2, HR.out.1⟩

end Go.Proofs.YtgnagbbdnlmgeaaGreat.R0
end

/- How many bits a small word has. -/
section
set_option linter.unusedVariables false
set_option linter.unusedSimpArgs false
set_option maxHeartbeats 2000000
set_option maxRecDepth 100000
namespace Go.Proofs.YtgnagbbdnlmgeaaGreat.Jd
open Go Go.RowKit
open Go.Proofs.YtgnagbbdnlmgeaaGreat.Ob Go.Proofs.YtgnagbbdnlmgeaaGreat.Ba Go.Proofs.YtgnagbbdnlmgeaaGreat.Oc Go.Proofs.YtgnagbbdnlmgeaaGreat.Pk Go.Proofs.YtgnagbbdnlmgeaaGreat.Ge Go.Proofs.YtgnagbbdnlmgeaaGreat.Bm Go.Proofs.YtgnagbbdnlmgeaaGreat.R0

/-- the bits of a word, one by one -/
def bitsOf (x : Nat) : Nat → List Bool
  | 0 => []
  | n + 1 => bitsOf x n ++ [x.testBit n]
theorem bitsOf_length (x : Nat) : ∀ n, (bitsOf x n).length = n
  | 0 => rfl
  | n + 1 => by simp [bitsOf, bitsOf_length x n]
theorem bitsOf_get (x : Nat) : ∀ n i, i < n → (bitsOf x n)[i]? = some (x.testBit i)
  | n + 1, i, h => by
    unfold bitsOf
    by_cases hi : i < n
    · rw [List.getElem?_append_left (by rw [bitsOf_length]; exact hi)]
      exact bitsOf_get x n i hi
    · obtain rfl : i = n := by omega
      rw [List.getElem?_append_right (by rw [bitsOf_length]; exact Nat.le_refl _), bitsOf_length]
      simp
/-- how many -/
def cnt : List Bool → Nat
  | [] => 0
  | b :: r => (if b then 1 else 0) + cnt r
theorem cnt_append (a b : List Bool) : cnt (a ++ b) = cnt a + cnt b := by
  induction a with
  | nil => simp [cnt]
  | cons x r ih => simp [cnt, ih]; omega
theorem cnt_le (l : List Bool) : cnt l ≤ l.length := by
  induction l with
  | nil => simp [cnt]
  | cons x r ih => cases x <;> simp [cnt] <;> omega

def cb (x : Nat) : Nat → Nat
  | 0 => 0
  | n + 1 => cb x n + x / 2 ^ n % 2
theorem cnt_bits (x : Nat) : ∀ n, cnt (bitsOf x n) = cb x n
  | 0 => rfl
  | n + 1 => by
    have hm : x / 2 ^ n % 2 < 2 := Nat.mod_lt _ (by decide)
    rw [bitsOf, cnt_append, cnt_bits x n, cb, Nat.testBit_eq_decide_div_mod_eq]
    by_cases h : x / 2 ^ n % 2 = 1
    · simp [cnt, h]
    · simp [cnt, h]; omega
theorem cb_add (x n : Nat) : ∀ k, cb x (n + k) = cb x n + cb (x / 2 ^ n) k
  | 0 => rfl
  | k + 1 => by
    rw [← Nat.add_assoc, cb, cb_add x n k, cb, Nat.pow_add, Nat.div_div_eq_div_mul]
    omega
theorem cb_zero : ∀ k, cb 0 k = 0
  | 0 => rfl
  | k + 1 => by rw [cb, cb_zero k]; simp
theorem cb_mod (x : Nat) : ∀ n m, n ≤ m → cb (x % 2 ^ m) n = cb x n
  | 0, m, _ => rfl
  | n + 1, m, h => by
    rw [cb, cb, cb_mod x n m (by omega)]
    have h1 := Nat.testBit_mod_two_pow x m n
    rw [decide_eq_true (show n < m by omega), Bool.true_and, Nat.testBit_eq_decide_div_mod_eq, Nat.testBit_eq_decide_div_mod_eq] at h1
    have h2 : (x % 2 ^ m / 2 ^ n % 2 = 1) ↔ (x / 2 ^ n % 2 = 1) := by simpa using h1
    omega
theorem cb_lt {x n m : Nat} (hx : x < 2 ^ n) (h : n ≤ m) : cb x m = cb x n := by
  obtain ⟨k, rfl⟩ : ∃ k, m = n + k := ⟨m - n, by omega⟩
  rw [cb_add, Nat.div_eq_of_lt hx, cb_zero, Nat.add_zero]

theorem land_step (k a c b d : Nat) (hc : c < 2 ^ k) (hd : d < 2 ^ k) : (2 ^ k * a + c) &&& (2 ^ k * b + d) = 2 ^ k * (a &&& b) + (c &&& d) := by
  apply Nat.eq_of_testBit_eq
  intro i
  have hcd : c &&& d < 2 ^ k := Nat.and_lt_two_pow _ hd
  rw [Nat.testBit_and, Nat.testBit_two_pow_mul_add _ hc, Nat.testBit_two_pow_mul_add _ hd, Nat.testBit_two_pow_mul_add _ hcd]
  split
  · rw [Nat.testBit_and]
  · rw [Nat.testBit_and]
theorem land_low {k a : Nat} (m : Nat) (ha : a < 2 ^ k) : a &&& m = a &&& (m % 2 ^ k) := by
  apply Nat.eq_of_testBit_eq
  intro i
  rw [Nat.testBit_and, Nat.testBit_and, Nat.testBit_mod_two_pow]
  by_cases hi : i < k
  · rw [decide_eq_true hi, Bool.true_and]
  · rw [Nat.testBit_lt_two_pow (Nat.lt_of_lt_of_le ha (Nat.pow_le_pow_right (by decide) (by omega)))]
    rfl

theorem band (a b : Nat) (ha : a < 18446744073709551616) (hb : b < 18446744073709551616) : Go.bits .and .u64 (a : Int) (b : Int) = ((a &&& b : Nat) : Int) := by
  have hk : IntKind.u64.bits = 64 := rfl
  simp only [Go.bits, hk, BitVec.ofInt_natCast, BitVec.toNat_and, BitVec.toNat_ofNat]
  rw [show (2 : Nat) ^ 64 = 18446744073709551616 from rfl, Nat.mod_eq_of_lt ha, Nat.mod_eq_of_lt hb]
  have h : a &&& b < 18446744073709551616 := Nat.lt_of_le_of_lt Nat.and_le_left ha
  exact wu64 _ (by omega) (by omega)
theorem wi64 (n : Int) (h0 : -9223372036854775808 ≤ n) (h1 : n ≤ 9223372036854775807) : IntKind.i64.wrap n = n := by
  simp [IntKind.wrap, IntKind.bits, IntKind.signed]; omega
theorem bandi (a b : Nat) (ha : a < 9223372036854775808) (hb : b < 9223372036854775808) : Go.bits .and .i64 (a : Int) (b : Int) = ((a &&& b : Nat) : Int) := by
  have hk : IntKind.i64.bits = 64 := rfl
  simp only [Go.bits, hk, BitVec.ofInt_natCast, BitVec.toNat_and, BitVec.toNat_ofNat]
  rw [show (2 : Nat) ^ 64 = 18446744073709551616 from rfl, Nat.mod_eq_of_lt (by omega), Nat.mod_eq_of_lt (by omega)]
  have h : a &&& b < 9223372036854775808 := Nat.lt_of_le_of_lt Nat.and_le_left ha
  exact wi64 ((a &&& b : Nat) : Int) (by omega) (by omega)

def f0 (x : Nat) : Nat := (x / 2 &&& 6148914691236517205) + (x &&& 6148914691236517205)
def f1 (x : Nat) : Nat := (x / 4 &&& 3689348814741910323) + (x &&& 3689348814741910323)
def f2 (b : Nat) : Nat :=
  let c := (b / 16 + b) &&& 1085102592571150095
  let d := c + c / 256
  let e := d + d / 65536
  let f := e + e / 4294967296
  f &&& 127
theorem m0_step (a c : Nat) (ha : a < 4096) (hc : c < 4096) : (4096 * a + c) &&& 6148914691236517205 = 4096 * (a &&& 6148914691236517205) + (c &&& 6148914691236517205) := by
  rw [show (6148914691236517205 : Nat) = 2 ^ 12 * 1501199875790165 + 1365 from by decide, show (4096 : Nat) = 2 ^ 12 from rfl, land_step 12 _ _ _ _ hc (by decide), land_low (2 ^ 12 * 1501199875790165 + 1365) (show a < 2 ^ 12 from ha), land_low (2 ^ 12 * 1501199875790165 + 1365) (show c < 2 ^ 12 from hc), land_low 1501199875790165 (show a < 2 ^ 12 from ha)]
theorem m1_step (a c : Nat) (ha : a < 4096) (hc : c < 4096) : (4096 * a + c) &&& 3689348814741910323 = 4096 * (a &&& 3689348814741910323) + (c &&& 3689348814741910323) := by
  rw [show (3689348814741910323 : Nat) = 2 ^ 12 * 900719925474099 + 819 from by decide, show (4096 : Nat) = 2 ^ 12 from rfl, land_step 12 _ _ _ _ hc (by decide), land_low (2 ^ 12 * 900719925474099 + 819) (show a < 2 ^ 12 from ha), land_low (2 ^ 12 * 900719925474099 + 819) (show c < 2 ^ 12 from hc), land_low 900719925474099 (show a < 2 ^ 12 from ha)]
theorem m0_high (t d : Nat) (ht : t < 2) (hd : d < 2048) : (2048 * t + d) &&& 6148914691236517205 = d &&& 6148914691236517205 := by
  rw [land_low (k := 12) _ (show 2048 * t + d < 2 ^ 12 by omega), land_low (k := 12) _ (show d < 2 ^ 12 by omega), show (6148914691236517205 : Nat) % 2 ^ 12 = 2 ^ 11 * 0 + 1365 from by decide, show 2048 * t + d = 2 ^ 11 * t + d from rfl, land_step 11 _ _ _ _ hd (by decide)]
  simp
theorem m1_high (t d : Nat) (ht : t < 4) (hd : d < 1024) : (1024 * t + d) &&& 3689348814741910323 = d &&& 3689348814741910323 := by
  rw [land_low (k := 12) _ (show 1024 * t + d < 2 ^ 12 by omega), land_low (k := 12) _ (show d < 2 ^ 12 by omega), show (3689348814741910323 : Nat) % 2 ^ 12 = 2 ^ 10 * 0 + 819 from by decide, show 1024 * t + d = 2 ^ 10 * t + d from rfl, land_step 10 _ _ _ _ hd (by decide)]
  simp
theorem f0_step (a c : Nat) (ha : a < 4096) (hc : c < 4096) : f0 (4096 * a + c) = 4096 * f0 a + f0 c := by
  have e : (4096 * a + c) / 2 = 4096 * (a / 2) + (2048 * (a % 2) + c / 2) := by omega
  unfold f0
  rw [e, m0_step _ _ (by omega) (by omega), m0_step a c ha hc, m0_high _ _ (by omega) (by omega)]
  omega
theorem f1_step (a c : Nat) (ha : a < 4096) (hc : c < 4096) : f1 (4096 * a + c) = 4096 * f1 a + f1 c := by
  have e : (4096 * a + c) / 4 = 4096 * (a / 4) + (1024 * (a % 4) + c / 4) := by omega
  unfold f1
  rw [e, m1_step _ _ (by omega) (by omega), m1_step a c ha hc, m1_high _ _ (by omega) (by omega)]
  omega
def nb (c : Nat) : Nat := c % 2 + c / 2 % 2 + c / 4 % 2 + c / 8 % 2
theorem low_all : (List.range 4096).all (fun c => decide (f0 c < 4096) && (f1 (f0 c) == nb c + 16 * nb (c / 16) + 256 * nb (c / 256)) && (cb c 12 == nb c + nb (c / 16) + nb (c / 256))) = true := by decide +kernel
theorem low (c : Nat) (hc : c < 4096) : f0 c < 4096 ∧ f1 (f0 c) = nb c + 16 * nb (c / 16) + 256 * nb (c / 256) ∧ cb c 12 = nb c + nb (c / 16) + nb (c / 256) := by
  have := List.all_eq_true.1 low_all c (by simpa using hc)
  simpa [and_assoc] using this
theorem f2_all : (List.range 15625).all (fun q => f2 (q % 5 + 16 * (q / 5 % 5) + 256 * (q / 25 % 5) + 4096 * (q / 125 % 5 + 16 * (q / 625 % 5) + 256 * (q / 3125))) == q % 5 + q / 5 % 5 + q / 25 % 5 + q / 125 % 5 + q / 625 % 5 + q / 3125) = true := by decide +kernel
theorem f2_ (i j k a b c : Nat) (hi : i < 5) (hj : j < 5) (hk : k < 5) (ha : a < 5) (hb : b < 5) (hc : c < 5) : f2 (i + 16 * j + 256 * k + 4096 * (a + 16 * b + 256 * c)) = i + j + k + a + b + c := by
  have h := List.all_eq_true.1 f2_all (i + 5 * j + 25 * k + 125 * a + 625 * b + 3125 * c) (by simp; omega)
  have e0 : (i + 5 * j + 25 * k + 125 * a + 625 * b + 3125 * c) % 5 = i := by omega
  have e1 : (i + 5 * j + 25 * k + 125 * a + 625 * b + 3125 * c) / 5 % 5 = j := by omega
  have e2 : (i + 5 * j + 25 * k + 125 * a + 625 * b + 3125 * c) / 25 % 5 = k := by omega
  have e3 : (i + 5 * j + 25 * k + 125 * a + 625 * b + 3125 * c) / 125 % 5 = a := by omega
  have e4 : (i + 5 * j + 25 * k + 125 * a + 625 * b + 3125 * c) / 625 % 5 = b := by omega
  have e5 : (i + 5 * j + 25 * k + 125 * a + 625 * b + 3125 * c) / 3125 = c := by omega
  rw [e0, e1, e2, e3, e4, e5] at h
  simpa using h
theorem nb_lt (c : Nat) : nb c < 5 := by unfold nb; omega
theorem ocn (x : Nat) (hx : x < 16777216) : f1 (f0 x) < 16777216 ∧ f0 x < 16777216 ∧ f2 (f1 (f0 x)) = cb x 24 := by
  obtain ⟨a, ha⟩ : ∃ a, a = x / 4096 := ⟨_, rfl⟩
  obtain ⟨c, hc⟩ : ∃ c, c = x % 4096 := ⟨_, rfl⟩
  have e : x = 4096 * a + c := by omega
  have ha9 : a < 4096 := by omega
  have hc9 : c < 4096 := by omega
  obtain ⟨p1, p2, p3⟩ := low a ha9
  obtain ⟨q1, q2, q3⟩ := low c hc9
  have h24 : cb x 24 = cb c 12 + cb a 12 := by
    rw [show (24 : Nat) = 12 + 12 from rfl, cb_add, ← cb_mod x 12 12 (Nat.le_refl _), ha, hc]
  have b0 := nb_lt c
  have b1 := nb_lt (c / 16)
  have b2 := nb_lt (c / 256)
  have b3 := nb_lt a
  have b4 := nb_lt (a / 16)
  have b5 := nb_lt (a / 256)
  have h0 : f0 x = 4096 * f0 a + f0 c := by rw [e]; exact f0_step a c ha9 hc9
  have h1 : f1 (f0 x) = 4096 * f1 (f0 a) + f1 (f0 c) := by rw [h0]; exact f1_step _ _ p1 q1
  refine ⟨by omega, by omega, ?_⟩
  rw [h1, p2, q2, h24, p3, q3]
  have h9 := f2_ _ _ _ _ _ _ b0 b1 b2 b3 b4 b5
  rw [Nat.add_comm (4096 * _) _, h9]
  omega

theorem oc_small (x : Nat) (hx : x < 16777216) : oc (x : Int) = (cb x 24 : Nat) := by
  obtain ⟨h1, h0, h2⟩ := ocn x hx
  have a1 : x / 2 &&& 6148914691236517205 ≤ x / 2 := Nat.and_le_left
  have a2 : x &&& 6148914691236517205 ≤ x := Nat.and_le_left
  have eA : IntKind.u64.wrap (Go.bits .and .u64 ((x : Int) / 2) 6148914691236517205 + Go.bits .and .u64 (x : Int) 6148914691236517205) = (f0 x : Int) := by
    have e1 := band (x / 2) 6148914691236517205 (by omega) (by decide)
    have e2 := band x 6148914691236517205 (by omega) (by decide)
    rw [show ((x : Int) / 2) = ((x / 2 : Nat) : Int) from by omega, show (6148914691236517205 : Int) = ((6148914691236517205 : Nat) : Int) from rfl, e1, e2]
    have : f0 x = (x / 2 &&& 6148914691236517205) + (x &&& 6148914691236517205) := rfl
    rw [wu64 _ (by omega) (by omega)]
    omega
  have eB : ∀ y : Nat, y < 16777216 → IntKind.u64.wrap (Go.bits .and .u64 ((y : Int) / 4) 3689348814741910323 + Go.bits .and .u64 (y : Int) 3689348814741910323) = (f1 y : Int) := by
    intro y hy
    have a1 : y / 4 &&& 3689348814741910323 ≤ y / 4 := Nat.and_le_left
    have a2 : y &&& 3689348814741910323 ≤ y := Nat.and_le_left
    have e1 := band (y / 4) 3689348814741910323 (by omega) (by decide)
    have e2 := band y 3689348814741910323 (by omega) (by decide)
    rw [show ((y : Int) / 4) = ((y / 4 : Nat) : Int) from by omega, show (3689348814741910323 : Int) = ((3689348814741910323 : Nat) : Int) from rfl, e1, e2]
    have : f1 y = (y / 4 &&& 3689348814741910323) + (y &&& 3689348814741910323) := rfl
    rw [wu64 _ (by omega) (by omega)]
    omega
  unfold oc
  simp only
  rw [eA, eB _ h0, ← h2]
  generalize f1 (f0 x) = b at *
  unfold f2
  simp only
  have hc9 : (b / 16 + b) &&& 1085102592571150095 ≤ b / 16 + b := Nat.and_le_left
  have e1 : IntKind.u64.wrap ((b : Int) / 16 + b) = ((b / 16 + b : Nat) : Int) := by
    rw [wu64 _ (by omega) (by omega)]
    omega
  rw [e1, show (1085102592571150095 : Int) = ((1085102592571150095 : Nat) : Int) from rfl, band _ _ (by omega) (by decide)]
  generalize (b / 16 + b) &&& 1085102592571150095 = c at *
  have e2 : IntKind.u64.wrap ((c : Int) + c / 256) = ((c + c / 256 : Nat) : Int) := by
    rw [wu64 _ (by omega) (by omega)]
    omega
  rw [e2]
  have hd9 : c + c / 256 ≤ 100000000 := by omega
  generalize c + c / 256 = d at *
  have e3 : IntKind.u64.wrap ((d : Int) + d / 65536) = ((d + d / 65536 : Nat) : Int) := by
    rw [wu64 _ (by omega) (by omega)]
    omega
  rw [e3]
  have he9 : d + d / 65536 ≤ 200000000 := by omega
  generalize d + d / 65536 = q at *
  have e4 : IntKind.u64.wrap ((q : Int) + q / 4294967296) = ((q + q / 4294967296 : Nat) : Int) := by
    rw [wu64 _ (by omega) (by omega)]
    omega
  rw [e4, w64 _ (by omega) (by omega), show (127 : Int) = ((127 : Nat) : Int) from rfl, bandi _ _ (by omega) (by decide)]

theorem count_ {W : World} {B b n : Nat} {x : Nat} {A : Option Addr} {c : Nat} (h : Bm W B b n [x] A c) (hx : x < 2 ^ n) (hn : n ≤ 24) :
    Calls Tryz.prog 55 #[.pointer (some ⟨b, 0, none⟩)] W fun e w' => e = .returned (.int .i64 (cnt (bitsOf x n) : Nat)) ∧ w' = W := by
  have hu := Tryz.underlying182
  have k0 := cell_of h.box 0
  have k1 := cell_of h.box 1
  have hx24 : x < 16777216 := Nat.lt_of_lt_of_le hx (show 2 ^ n ≤ 2 ^ 24 from Nat.pow_le_pow_right (by decide) hn)
  have hoc := oc_small x hx24
  rw [cb_lt hx hn, ← cnt_bits] at hoc
  have hcl := cnt_le (bitsOf x n)
  rw [bitsOf_length] at hcl
  obtain ⟨a, rfl, ha0, ha⟩ := (own_rk (k := .u64) h.row).1 0 x rfl
  have ha : W.cell? a = some (.int .u64 x) := ha
  have HN : Hid (∀ w, Calls Tryz.prog 112 #[.int .u64 x] w fun e w' => e = .returned (.int .i64 (cnt (bitsOf x n) : Nat)) ∧ w = w') := fun w => by
    rw [← hoc]
    exact ones64 _ w
  generalize cnt (bitsOf x n) = r at *
  clear h hx hx24 hoc
  go_enter Tryz.func55, Tryz.ntmps55
  go_wp2_with fail
  go_loop [11, 3] (fun c11 c3 => ∃ i : Nat, i ≤ 1 ∧ c11 = .int .i64 i ∧ c3 = .int .i64 ((if i = 0 then 0 else r : Nat) : Int)) (fun c11 _ => 1 - (intOf c11).toNat)
  case atStart => exact ⟨0, by omega, rfl, rfl⟩
  case round =>
    obtain ⟨i, hi, rfl, rfl⟩ := hrel
    match i, hi with
    | 0, _ =>
      rw [if_pos rfl]
      go_wp2_with (go_at_call 112; refine (HN.out _).mono ?_; rintro e w1 ⟨rfl, rfl⟩)
      go_round
      case rel => exact ⟨1, by omega, by go_num, by rw [if_neg (by decide)]⟩
      case measure => simp [intOf]
    | 1, _ =>
      rw [if_neg (by decide)]
      go_wp2_with fail
      go_ret
      exact ⟨rfl, rfl⟩

theorem free_ {W : World} {B b n : Nat} {x : Nat} {A : Option Addr} {c : Nat} (h : Bm W B b n [x] A c) (hx : x < 2 ^ n) (hn : n ≤ 24) :
    Calls Tryz.prog 97 #[.pointer (some ⟨b, 0, none⟩)] W fun e w' => e = .returned (.int .i64 ((n : Int) - (cnt (bitsOf x n) : Nat))) ∧ Below W.heap.size W w' := by
  have hu := Tryz.underlying182
  have k0 := cell_of h.box 0
  have HC : Hid (∀ j, Calls Tryz.prog 55 #[.pointer (some ⟨b, 0, none⟩)] (W.drewN j) fun e w' => e = .returned (.int .i64 (cnt (bitsOf x n) : Nat)) ∧ w' = W.drewN j) := fun j => count_ (h.keep (bl_drewN (Below.refl _ _) j)) hx hn
  have hcl := cnt_le (bitsOf x n)
  rw [bitsOf_length] at hcl
  generalize cnt (bitsOf x n) = r at *
  clear h hx
  go_enter Tryz.func97, Tryz.ntmps97
  go_wp2_with fail
  go_region_held3 (fun w' => w'.cell? ⟨b, 0, none⟩ = some (.int .i64 n) ∧ Bk W w')
    (first | assumption | exact ⟨k0, ⟨1, rfl⟩⟩ | exact ⟨k0, ⟨_, rfl⟩⟩)
    ((go_at_call 55; refine (HC.out 1).mono ?_; rintro e w1 ⟨rfl, rfl⟩))
  all_goals
    go_wp2
    go_ret
    refine ⟨ret_int ?_, bl_drewN (Below.refl _ _) _⟩
    first | rfl | exact wi64 _ (by omega) (by omega)

theorem rcount_ {W : World} {A : Option Addr} {l : List Bool} (h : RB W A l) (c : Nat) (hl : l.length ≤ 1000000000) :
    Calls Tryz.prog 96 #[.slice A l.length c] W fun e w' => e = .returned (.int .i64 (cnt l : Nat)) ∧ w' = W := by
  have H := Lib.hid h
  obtain ⟨n, hn⟩ : ∃ n, n = l.length := ⟨_, rfl⟩
  rw [← hn] at hl
  rw [← hn]
  have HN := Lib.hid hn
  clear h hn
  go_enter Tryz.func96, Tryz.ntmps96
  go_wp2_with fail
  go_loop [8, 3] (fun c8 c3 => ∃ i r : Nat, i ≤ n ∧ r ≤ i ∧ c8 = .int .i64 i ∧ c3 = .int .i64 r ∧ Hid (r = cnt (l.take i))) (fun c8 _ => n - (intOf c8).toNat)
  case atStart => exact ⟨0, 0, by omega, by omega, rfl, rfl, by show _ = _; simp [cnt]⟩
  case round =>
    obtain ⟨i, r, hi, hr, rfl, rfl, HR⟩ := hrel
    by_cases hlt : i < n
    · obtain ⟨x, hx⟩ := some_at (l := l) (i := i) (by rw [← HN.out]; exact hlt)
      obtain ⟨a, rfl, ha0, ha⟩ := H.out i x hx
      have HX : Hid (cnt (l.take (i + 1)) = r + if x then 1 else 0) := by
        show _ = _
        rw [take_next hx, cnt_append, ← HR.out]
        simp [cnt]
      clear hx
      cases x with
      | false =>
        go_wp2_with fail
        go_round
        case rel => exact ⟨i + 1, r, by omega, by omega, by go_num, rfl, by show _ = _; rw [HX.out]; simp⟩
        case measure => simp [intOf]; omega
      | true =>
        go_wp2_with fail
        go_round
        case rel => exact ⟨i + 1, r + 1, by omega, by omega, by go_num, by go_num, by show _ = _; rw [HX.out]; simp⟩
        case measure => simp [intOf]; omega
    · obtain rfl : i = n := by omega
      go_wp2_with fail
      go_ret
      refine ⟨?_, rfl⟩
      rw [HR.out, List.take_of_length_le (by rw [← HN.out]; exact Nat.le_refl _)]
      rfl

end Go.Proofs.YtgnagbbdnlmgeaaGreat.Jd
end

/- The document's answers of a volume: Inode, Slot. -/
section
set_option linter.unusedVariables false
set_option linter.unusedSimpArgs false
set_option maxHeartbeats 2000000
set_option maxRecDepth 100000
namespace Go.Proofs.YtgnagbbdnlmgeaaGreat.Je
open Go Go.RowKit
open Go.Proofs.YtgnagbbdnlmgeaaGreat.Ob Go.Proofs.YtgnagbbdnlmgeaaGreat.Ba Go.Proofs.YtgnagbbdnlmgeaaGreat.Oc Go.Proofs.YtgnagbbdnlmgeaaGreat.Pk Go.Proofs.YtgnagbbdnlmgeaaGreat.Su Go.Proofs.YtgnagbbdnlmgeaaGreat.Cc Go.Proofs.YtgnagbbdnlmgeaaGreat.Cr Go.Proofs.YtgnagbbdnlmgeaaGreat.Ge Go.Proofs.YtgnagbbdnlmgeaaGreat.In Go.Proofs.YtgnagbbdnlmgeaaGreat.Iq Go.Proofs.YtgnagbbdnlmgeaaGreat.Lo

theorem two_new (w : World) (o p : Obj) : ((w.alloc o).alloc p).heap[w.heap.size + 1]? = some p := by
  have := alloc_new (w.alloc o) p
  rw [World.size_alloc] at this
  exact this

theorem ints_dt (ws : List Nat) (k j : Nat) : ((ints ws).drop k).take j = ints ((ws.drop k).take j) := by
  simp [ints, List.map_drop, List.map_take]

theorem r15inode_get {w : World} {a : Addr} {ws : List Nat} {T c8 : Nat} (h : Rk .u64 w (some a) (ints ws)) (hT : ws.length = T) (hc : T ≤ c8) (hlt : ∀ x ∈ ws, x < 18446744073709551616) (n m s p2 p3 p4 p5 i : Int) (hi : 0 ≤ i ∧ i < m) (k : Nat) (hk : (k : Int) = 16 + 8 * i) (hk8 : k + 8 ≤ T) (hT9 : T ≤ 1000000000) :
    Calls Tryz.prog 20 #[.agg #[.int .i64 n, .int .i64 m, .int .i64 s, .int .i64 16, .int .i64 p2, .int .i64 p3, .int .i64 p4, .int .i64 p5, .slice (some a) T c8], .int .i64 i] w fun e w' => R6 ((ws.drop k).take 8) e ∧ Below w.heap.size w w' := by
  have hu := Tryz.underlying30
  have hu2 := Tryz.underlying47
  have hsub : Rk .u64 w (some (a.add k)) (ints ((ws.drop k).take 8)) := by rw [← ints_dt]; exact (h.drop k).take 8
  have hl8 : ((ws.drop k).take 8).length = 8 := by simp; omega
  have HD : Hid (∀ {W : World}, Below w.heap.size w W → ∀ c, Calls Tryz.prog 79 #[.slice (some (a.add k)) 8 c] W fun e w' => R6 ((ws.drop k).take 8) e ∧ Below W.heap.size W w') := by
    intro W hb c
    exact rdec_ (hsub.below hb) c hl8 (fun x hx => hlt x (List.mem_of_mem_drop (List.mem_of_mem_take hx)))
  generalize (ws.drop k).take 8 = l8 at *
  unfold R6 at HD
  unfold R6
  generalize (n6 l8).1 = x at *
  generalize (n6 l8).2.1 = y at *
  generalize (n6 l8).2.2 = z at *
  generalize ok6 l8 = t at *
  have hk1 : (16 : Int) + 8 * i = (k : Int) := by omega
  have hi9 : i ≤ 1000000000 := by omega
  clear hk
  obtain ⟨W2, hW2⟩ : ∃ W2, W2 = (w.alloc (.cells #[.int .i64 n, .int .i64 m, .int .i64 s, .int .i64 16, .int .i64 p2, .int .i64 p3, .int .i64 p4, .int .i64 p5, .slice (some a) T c8] 30)).alloc (.cells #[.int .i64 0, .int .i64 0, .int .i64 0] 47) := ⟨_, rfl⟩
  have hv := alloc_old (alloc_new w (.cells #[.int .i64 n, .int .i64 m, .int .i64 s, .int .i64 16, .int .i64 p2, .int .i64 p3, .int .i64 p4, .int .i64 p5, .slice (some a) T c8] 30)) (.cells #[.int .i64 0, .int .i64 0, .int .i64 0] 47)
  have hr := alloc_new (w.alloc (.cells #[.int .i64 n, .int .i64 m, .int .i64 s, .int .i64 16, .int .i64 p2, .int .i64 p3, .int .i64 p4, .int .i64 p5, .slice (some a) T c8] 30)) (.cells #[.int .i64 0, .int .i64 0, .int .i64 0] 47)
  rw [World.size_alloc] at hr
  have hb2 : Below w.heap.size w W2 := by rw [hW2]; exact bl_alloc (bl_alloc (Below.refl _ _) _) _
  rw [← hW2] at hv hr
  have HW2 := Lib.hid hW2
  have HR2 := Lib.hid hr
  have HB2 := Lib.hid hb2
  obtain ⟨hi0, him⟩ := hi
  have m1 := cell_of hv 1
  have m3 := cell_of hv 3
  have m8 := cell_of hv 8
  clear h hsub hl8 hW2 hv hr hb2 hlt hT
  go_enter Tryz.func20, Tryz.ntmps20
  go_wp2_with fail
  rw [← HW2.out]
  go_wp2_with (go_at_call 79; refine (HD.out HB2.out _).mono ?_; rintro e w3 ⟨rfl, hb⟩; (have hq3 := blk_bl HR2.out hb); (have HB3 := Lib.hid (bl_then HB2.out hb)); (have l0 := cell_of hq3 0); (have l1 := cell_of hq3 1); (have l2 := cell_of hq3 2); (have f0 := free_of hq3 0); (have f1 := free_of hq3 1); (have f2 := free_of hq3 2); (have HQ3 := Lib.hid hq3); clear hb hq3)
  exact bodyPost_ret (res_ct (u := 5) rfl _ _ (w.heap.size + 1) 47 #[.int .i64 x, .int .i64 y, .int .i64 z] (0, 0) _ rfl (put3 HQ3.out _ _ _) hu2 rfl (by kernel_rfl)) rfl ⟨rfl, bl_put3 HB3.out (by omega) _ _ _⟩

theorem r15inode_out {w : World} {A : Option Addr} {T c8 : Nat} (n m s p2 p3 p4 p5 i : Int) (hi : i < 0 ∨ m ≤ i) :
    Calls Tryz.prog 20 #[.agg #[.int .i64 n, .int .i64 m, .int .i64 s, .int .i64 16, .int .i64 p2, .int .i64 p3, .int .i64 p4, .int .i64 p5, .slice A T c8], .int .i64 i] w fun e w' => e = .returned (.tuple #[.agg #[.int .i64 0, .int .i64 (-1), .int .i64 0], .bool false]) ∧ Below w.heap.size w w' := by
  have hu := Tryz.underlying30
  have hu2 := Tryz.underlying47
  rcases hi with hi | hi
  · go_enter Tryz.func20, Tryz.ntmps20
    go_wp2_with fail
    exact bodyPost_ret (res_ct (u := 5) rfl _ _ (w.heap.size + 1) 47 #[.int .i64 0, .int .i64 (-1), .int .i64 0] (0, 0) _ rfl (two_new _ _ _) hu2 rfl (by kernel_rfl)) rfl ⟨rfl, bl_alloc (bl_alloc (Below.refl _ _) _) _⟩
  · by_cases h0 : i < 0
    all_goals
      go_enter Tryz.func20, Tryz.ntmps20
      go_wp2_with fail
      exact bodyPost_ret (res_ct (u := 5) rfl _ _ (w.heap.size + 1) 47 #[.int .i64 0, .int .i64 (-1), .int .i64 0] (0, 0) _ rfl (two_new _ _ _) hu2 rfl (by kernel_rfl)) rfl ⟨rfl, bl_alloc (bl_alloc (Below.refl _ _) _) _⟩

theorem r15slot_get {w : World} {a : Addr} {ws : List Nat} {T c8 : Nat} (h : Rk .u64 w (some a) (ints ws)) (hT : ws.length = T) (hc : T ≤ c8) (hlt : ∀ x ∈ ws, x < 18446744073709551616) (n m s p2 p3 p4 p5 i : Int) (hi : 0 ≤ i ∧ i < n) (k : Nat) (hk : (k : Int) = p2 + i) (hkT : k < T) (hT9 : T ≤ 1000000000) (hp2 : 0 ≤ p2) (x : Nat) (hx : ws[k]? = some x) :
    Calls Tryz.prog 22 #[.agg #[.int .i64 n, .int .i64 m, .int .i64 s, .int .i64 16, .int .i64 p2, .int .i64 p3, .int .i64 p4, .int .i64 p5, .slice (some a) T c8], .int .i64 i] w fun e w' => R7 x e ∧ Below w.heap.size w w' := by
  have hu := Tryz.underlying30
  have hu2 := Tryz.underlying54
  have HD : Hid (∀ W, Calls Tryz.prog 83 #[.int .u64 x] W fun e w' => R7 x e ∧ Below W.heap.size W w') := fun W => rdecode_ x (hlt x (List.mem_of_getElem? hx)) W
  unfold R7 at HD
  unfold R7
  obtain ⟨x0, hx0⟩ : ∃ y, y = (s7 x).1 := ⟨_, rfl⟩
  obtain ⟨x1, hx1⟩ : ∃ y, y = (s7 x).2.1 := ⟨_, rfl⟩
  obtain ⟨x2, hx2⟩ : ∃ y, y = (s7 x).2.2 := ⟨_, rfl⟩
  obtain ⟨t, ht⟩ : ∃ y, y = ok7 x := ⟨_, rfl⟩
  rw [← hx0, ← hx1, ← hx2, ← ht] at HD
  rw [← hx0, ← hx1, ← hx2, ← ht]
  obtain ⟨_, e0, ha0, ha⟩ := h k x (ints_get hx)
  cases e0
  have hk1 : p2 + i = (k : Int) := by omega
  have hi9 : i ≤ 1000000000 := by omega
  have hp9 : p2 ≤ 1000000000 := by omega
  obtain ⟨W2, hW2⟩ : ∃ W2, W2 = (w.alloc (.cells #[.int .i64 n, .int .i64 m, .int .i64 s, .int .i64 16, .int .i64 p2, .int .i64 p3, .int .i64 p4, .int .i64 p5, .slice (some a) T c8] 30)).alloc (.cells #[.int .i64 0, .int .i64 0, .int .i64 0] 54) := ⟨_, rfl⟩
  have hv := alloc_old (alloc_new w (.cells #[.int .i64 n, .int .i64 m, .int .i64 s, .int .i64 16, .int .i64 p2, .int .i64 p3, .int .i64 p4, .int .i64 p5, .slice (some a) T c8] 30)) (.cells #[.int .i64 0, .int .i64 0, .int .i64 0] 54)
  have hr := alloc_new (w.alloc (.cells #[.int .i64 n, .int .i64 m, .int .i64 s, .int .i64 16, .int .i64 p2, .int .i64 p3, .int .i64 p4, .int .i64 p5, .slice (some a) T c8] 30)) (.cells #[.int .i64 0, .int .i64 0, .int .i64 0] 54)
  rw [World.size_alloc] at hr
  have hb2 : Below w.heap.size w W2 := by rw [hW2]; exact bl_alloc (bl_alloc (Below.refl _ _) _) _
  rw [← hW2] at hv hr
  have HW2 := Lib.hid hW2
  have HR2 := Lib.hid hr
  have HB2 := Lib.hid hb2
  obtain ⟨hi0, him⟩ := hi
  have m0 := cell_of hv 0
  have m4 := cell_of hv 4
  have m8 := cell_of hv 8
  have ha2 : W2.cell? (a.add k) = some (.int .u64 x) := (hb2.cell (p := a.add k) (by rw [add_block]; exact ha0)).trans ha
  rw [hW2] at ha2
  clear h hW2 hv hr hb2 hlt hT hx ha hx0 hx1 hx2 ht hk
  go_enter Tryz.func22, Tryz.ntmps22
  go_wp2_with fail
  rw [← HW2.out]
  go_wp2_with (go_at_call 83; refine (HD.out _).mono ?_; rintro e w3 ⟨rfl, hb⟩; (have hq3 := blk_bl HR2.out hb); (have HB3 := Lib.hid (bl_then HB2.out hb)); (have l0 := cell_of hq3 0); (have l1 := cell_of hq3 1); (have l2 := cell_of hq3 2); (have f0 := free_of hq3 0); (have f1 := free_of hq3 1); (have f2 := free_of hq3 2); (have HQ3 := Lib.hid hq3); clear hb hq3)
  exact bodyPost_ret (res_ct (u := 5) rfl _ _ (w.heap.size + 1) 54 #[.int .i64 x0, .int .i64 x1, .int .i64 x2] (0, 0) _ rfl (put3 HQ3.out _ _ _) hu2 rfl (by kernel_rfl)) rfl ⟨rfl, bl_put3 HB3.out (by omega) _ _ _⟩

theorem r15slot_out {w : World} {A : Option Addr} {T c8 : Nat} (n m s p2 p3 p4 p5 i : Int) (hi : i < 0 ∨ n ≤ i) :
    Calls Tryz.prog 22 #[.agg #[.int .i64 n, .int .i64 m, .int .i64 s, .int .i64 16, .int .i64 p2, .int .i64 p3, .int .i64 p4, .int .i64 p5, .slice A T c8], .int .i64 i] w fun e w' => e = .returned (.tuple #[.agg #[.int .i64 0, .int .i64 0, .int .i64 0], .bool false]) ∧ Below w.heap.size w w' := by
  have hu := Tryz.underlying30
  have hu2 := Tryz.underlying54
  rcases hi with hi | hi
  · go_enter Tryz.func22, Tryz.ntmps22
    go_wp2_with fail
    exact bodyPost_ret (res_ct (u := 5) rfl _ _ (w.heap.size + 1) 54 #[.int .i64 0, .int .i64 0, .int .i64 0] (0, 0) _ rfl (two_new _ _ _) hu2 rfl (by kernel_rfl)) rfl ⟨rfl, bl_alloc (bl_alloc (Below.refl _ _) _) _⟩
  · by_cases h0 : i < 0
    all_goals
      go_enter Tryz.func22, Tryz.ntmps22
      go_wp2_with fail
      exact bodyPost_ret (res_ct (u := 5) rfl _ _ (w.heap.size + 1) 54 #[.int .i64 0, .int .i64 0, .int .i64 0] (0, 0) _ rfl (two_new _ _ _) hu2 rfl (by kernel_rfl)) rfl ⟨rfl, bl_alloc (bl_alloc (Below.refl _ _) _) _⟩

end Go.Proofs.YtgnagbbdnlmgeaaGreat.Je
end

/- The document's bitmap of a word (cantleref10.Of); the document's Record, Bitmap, Block of a volume. -/
section
set_option linter.unusedVariables false
set_option linter.unusedSimpArgs false
set_option maxHeartbeats 2000000
set_option maxRecDepth 100000
namespace Go.Proofs.YtgnagbbdnlmgeaaGreat.Je
open Go Go.RowKit
open Go.Proofs.YtgnagbbdnlmgeaaGreat.Ob Go.Proofs.YtgnagbbdnlmgeaaGreat.Ba Go.Proofs.YtgnagbbdnlmgeaaGreat.Oc Go.Proofs.YtgnagbbdnlmgeaaGreat.Pk Go.Proofs.YtgnagbbdnlmgeaaGreat.Su Go.Proofs.YtgnagbbdnlmgeaaGreat.Cc Go.Proofs.YtgnagbbdnlmgeaaGreat.Cr Go.Proofs.YtgnagbbdnlmgeaaGreat.Ge Go.Proofs.YtgnagbbdnlmgeaaGreat.In Go.Proofs.YtgnagbbdnlmgeaaGreat.Iq Go.Proofs.YtgnagbbdnlmgeaaGreat.Lo Go.Proofs.YtgnagbbdnlmgeaaGreat.R0 Go.Proofs.YtgnagbbdnlmgeaaGreat.Jd Go.Proofs.YtgnagbbdnlmgeaaGreat.Bm Go.Proofs.YtgnagbbdnlmgeaaGreat.Rj

theorem no_high {x n : Nat} (hx : x < 2 ^ 64) (h : ∀ j, n ≤ j → j < 64 → x.testBit j = false) : x / 2 ^ n = 0 := by
  apply Nat.eq_of_testBit_eq
  intro i
  rw [Nat.testBit_div_two_pow, Nat.zero_testBit]
  by_cases hi : n + i < 64
  · rw [Nat.add_comm]; exact h _ (by omega) (by omega)
  · exact Nat.testBit_lt_two_pow (Nat.lt_of_lt_of_le hx (Nat.pow_le_pow_right (by decide) (by omega)))
theorem high {x n j : Nat} (hj : n ≤ j) (hb : x.testBit j = true) : x / 2 ^ n ≠ 0 := by
  intro h
  have h2 : (x / 2 ^ n).testBit (j - n) = true := by
    rw [Nat.testBit_div_two_pow, show j - n + n = j from by omega]
    exact hb
  rw [h] at h2
  simp at h2

theorem rof_ {w : World} {a : Addr} {x : Nat} (h : Rk .u64 w (some a) (ints [x])) (hx : x < 18446744073709551616) (c n : Nat) (h1 : 1 ≤ n) (h2 : n ≤ 63) :
    Calls Tryz.prog 90 #[.int .i64 n, .slice (some a) 1 c] w fun e w' =>
      (x / 2 ^ n = 0 → ∃ v, e = .returned (.tuple #[v, .bool true]) ∧ w'.ownsRow w.heap.size 4 1 v n (bvs (bitsOf x n))) ∧ (x / 2 ^ n ≠ 0 → e = .returned (.tuple #[.slice none 0 0, .bool false])) ∧ Below w.heap.size w w' := by
  obtain ⟨_, e0, ha0, ha⟩ := h 0 x rfl
  cases e0
  have HA : Hid (∀ {W : World}, Below w.heap.size w W → W.cell? a = some (.int .u64 x)) := fun {W} hb => (hb.cell (p := a) ha0).trans ha
  obtain ⟨i0, hinf, hz0, hz1, hz2⟩ := info_parts info_bool
  have hq : ((n : Int) + 63) / 64 = 1 := by omega
  have HX := Lib.hid hx
  clear h ha
  go_enter Tryz.func90, Tryz.ntmps90
  go_wp2_with fail
  clear hq
  go_loopw [26, 6] (fun c26 c6 wr => ∃ i : Nat, i ≤ 64 ∧ c26 = .int .i64 i ∧ Hid (Below w.heap.size w wr ∧ wr.ownsRow w.heap.size 4 1 c6 (min i n) (bvs (bitsOf x (min i n))) ∧ ∀ j, n ≤ j → j < i → x.testBit j = false)) (fun c26 _ _ => 64 - (intOf c26).toNat)
  case atStart => exact ⟨0, Nat.zero_le _, rfl, Below.refl _ _, by rw [Nat.zero_min]; exact own_nil0 _ _ _ _, fun j _ h => absurd h (Nat.not_lt_zero _)⟩
  case round =>
    obtain ⟨i, hi, rfl, HR⟩ := hrel
    by_cases hlt : i < 64
    · have ha := HA.out HR.out.1
      have hb := bit_and x i HX.out
      have hd1 : (i : Int) / 64 = 0 := by omega
      have hd2 : (i : Int) % 64 = i := by omega
      by_cases hin : i < n
      · have hin2 : (i : Int) < n := by omega
        obtain ⟨A6, c6', e6⟩ := own_slice HR.out.2.1
        subst e6
        have hown := HR.out.2.1
        rw [Nat.min_eq_left (by omega)] at hown
        have HOW := Lib.hid (fun o => own_kp (W' := wr.alloc o) hown (fun k _ hk => Below.heap_alloc _ _ k hk))
        rw [Nat.min_eq_left (by omega)]
        obtain ⟨r, hr⟩ : ∃ r, r = x.testBit i := ⟨_, rfl⟩
        rw [← hr] at hb
        have HRB := Lib.hid hr
        have HLO := Lib.hid (own_lo hown)
        clear hown hr
        go_wp2_with (at_builtin; refine wpList_append_own _ rfl (.tmp 43) (.tmp 45) 66 rfl w.heap.size 4 i0 (.bool false) 1 1 Tryz.underlying66 hinf hz0 hz1 hz2 rfl (by decide) _ i _ rfl (HOW.out _) ⟨wr.heap.size, 0, none⟩ 1 1 [.bool r] rfl rfl (one_at _ _ _) (by intro u hu; simp at hu; subst hu; rfl) (by unfold maxLen; omega) (by omega) (by have h1 := HR.out.1.size; simp; omega) ?_; intro v' w7 hown' hgrow _; (have HO := Lib.hid hown'); (have HG := Lib.hid hgrow); clear hown' hgrow)
        go_roundw
        case rel =>
          refine ⟨i + 1, by omega, by go_num, bl_grown (bl_alloc HR.out.1 _) HG.out HLO.out, ?_, fun j h1 h2 => by omega⟩
          rw [Nat.min_eq_left (by omega), bitsOf, ← HRB.out]
          have h9 := HO.out
          have e9 : bvs (bitsOf x i) ++ [Value.bool r] = bvs (bitsOf x i ++ [r]) := by simp [bvs]
          rw [e9] at h9
          exact h9
        case measure => simp [intOf]; omega
      · have hin2 : (n : Int) ≤ i := by omega
        by_cases hbt : x.testBit i = true
        · rw [hbt] at hb
          have HN := Lib.hid (high (by omega : n ≤ i) hbt)
          clear hbt
          go_wp2_with fail
          go_ret2
          exact ⟨fun h => absurd h HN.out, fun _ => rfl, HR.out.1⟩
        · have hbf : x.testBit i = false := by simpa using hbt
          rw [hbf] at hb
          have HBF := Lib.hid hbf
          clear hbt hbf
          go_wp2_with fail
          go_roundw
          case rel =>
            refine ⟨i + 1, by omega, by go_num, HR.out.1, ?_, fun j h1 h2 => ?_⟩
            · rw [Nat.min_eq_right (by omega)]
              have h9 := HR.out.2.1
              rw [Nat.min_eq_right (by omega)] at h9
              exact h9
            · by_cases hj : j < i
              · exact HR.out.2.2 j h1 hj
              · obtain rfl : j = i := by omega
                exact HBF.out
          case measure => simp [intOf]; omega
    · obtain rfl : i = 64 := by omega
      have hown := HR.out.2.1
      rw [Nat.min_eq_right (by omega)] at hown
      have HO := Lib.hid (And.intro hown (no_high HX.out HR.out.2.2))
      clear hown
      go_wp2_with fail
      go_ret2
      exact ⟨fun _ => ⟨_, rfl, HO.out.1⟩, fun h => absurd HO.out.2 h, HR.out.1⟩

theorem r15record_ {w : World} {a : Addr} {ws : List Nat} {T c8 : Nat} (h : Rk .u64 w (some a) (ints ws)) (hT : ws.length = T) (hc : T ≤ c8) (hlt : ∀ x ∈ ws, x < 18446744073709551616) (n m s p2 p3 p4 p5 : Int) (hk8 : 16 ≤ T) (hT9 : T ≤ 1000000000) :
    Calls Tryz.prog 30 #[.agg #[.int .i64 n, .int .i64 m, .int .i64 s, .int .i64 16, .int .i64 p2, .int .i64 p3, .int .i64 p4, .int .i64 p5, .slice (some a) T c8]] w fun e w' => D9 ((ws.drop 8).take 8) e ∧ Below w.heap.size w w' := by
  have hu := Tryz.underlying30
  have hu2 := Tryz.underlying74
  have hsub : Rk .u64 w (some (a.add 8)) (ints ((ws.drop 8).take 8)) := by rw [← ints_dt]; exact (h.drop 8).take 8
  have hl8 : ((ws.drop 8).take 8).length = 8 := by simp; omega
  have HD : Hid (∀ {W : World}, Below w.heap.size w W → ∀ c, Calls Tryz.prog 93 #[.slice (some (a.add 8)) 8 c] W fun e w' => D9 ((ws.drop 8).take 8) e ∧ Below W.heap.size W w') := by
    intro W hb c
    exact R9.rdec_ (hsub.below hb) c hl8 (fun x hx => hlt x (List.mem_of_mem_drop (List.mem_of_mem_take hx)))
  generalize (ws.drop 8).take 8 = l8 at *
  unfold D9 at HD
  unfold D9
  generalize (r9 l8).1 = x at *
  generalize (r9 l8).2.1 = y at *
  generalize (r9 l8).2.2.1 = z at *
  generalize (r9 l8).2.2.2 = t at *
  generalize st9 l8 = u at *
  obtain ⟨W2, hW2⟩ : ∃ W2, W2 = (w.alloc (.cells #[.int .i64 n, .int .i64 m, .int .i64 s, .int .i64 16, .int .i64 p2, .int .i64 p3, .int .i64 p4, .int .i64 p5, .slice (some a) T c8] 30)).alloc (.cells #[.int .i64 0, .int .i64 0, .int .i64 0, .int .i64 0] 74) := ⟨_, rfl⟩
  have hv := alloc_old (alloc_new w (.cells #[.int .i64 n, .int .i64 m, .int .i64 s, .int .i64 16, .int .i64 p2, .int .i64 p3, .int .i64 p4, .int .i64 p5, .slice (some a) T c8] 30)) (.cells #[.int .i64 0, .int .i64 0, .int .i64 0, .int .i64 0] 74)
  have hr := two_new w (.cells #[.int .i64 n, .int .i64 m, .int .i64 s, .int .i64 16, .int .i64 p2, .int .i64 p3, .int .i64 p4, .int .i64 p5, .slice (some a) T c8] 30) (.cells #[.int .i64 0, .int .i64 0, .int .i64 0, .int .i64 0] 74)
  have hb2 : Below w.heap.size w W2 := by rw [hW2]; exact bl_alloc (bl_alloc (Below.refl _ _) _) _
  rw [← hW2] at hv hr
  have HW2 := Lib.hid hW2
  have HR2 := Lib.hid hr
  have HB2 := Lib.hid hb2
  clear h hsub hl8 hW2 hv hr hb2 hlt hT
  go_enter Tryz.func30, Tryz.ntmps30
  go_wp2_with fail
  rw [← HW2.out]
  go_wp2_with (go_at_call 93; refine (HD.out HB2.out _).mono ?_; rintro e w3 ⟨rfl, hb⟩; (have hq3 := blk_bl HR2.out hb); (have HB3 := Lib.hid (bl_then HB2.out hb)); (have l0 := cell_of hq3 0); (have l1 := cell_of hq3 1); (have l2 := cell_of hq3 2); (have l3 := cell_of hq3 3); (have f0 := free_of hq3 0); (have f1 := free_of hq3 1); (have f2 := free_of hq3 2); (have f3 := free_of hq3 3); (have HQ3 := Lib.hid hq3); clear hb hq3)
  exact bodyPost_ret (res_ct (u := 3) rfl _ _ (w.heap.size + 1) 74 #[.int .i64 x, .int .i64 y, .int .i64 z, .int .i64 t] (0, 0) _ rfl (put4 HQ3.out _ _ _ _) hu2 rfl (by kernel_rfl)) rfl ⟨rfl, bl_put4 HB3.out (by omega) _ _ _ _⟩

structure Vb (q : Nat) (W : World) : Prop where
  lt : q < W.heap.size
theorem vb_keep {W W' : World} {q : Nat} {x y z : Option Value} (h : W.cell? ⟨q, 0, none⟩ = x ∧ W.cell? ⟨q, 5, none⟩ = y ∧ W.cell? ⟨q, 8, none⟩ = z ∧ Vb q W) (hb : Below W.heap.size W W') :
    W'.cell? ⟨q, 0, none⟩ = x ∧ W'.cell? ⟨q, 5, none⟩ = y ∧ W'.cell? ⟨q, 8, none⟩ = z ∧ Vb q W' := by
  obtain ⟨h0, h1, h2, ⟨h4⟩⟩ := h
  exact ⟨(hb.cell (p := ⟨q, 0, none⟩) h4).trans h0, (hb.cell (p := ⟨q, 5, none⟩) h4).trans h1, (hb.cell (p := ⟨q, 8, none⟩) h4).trans h2, ⟨Nat.lt_of_lt_of_le h4 hb.size⟩⟩
structure BofW (x n B : Nat) (A1 : Option Addr) (ln c1 : Nat) (w' : World) : Prop where
  yes : x / 2 ^ n = 0 → ln = n ∧ w'.ownsRow B 4 1 (.slice A1 ln c1) n (bvs (bitsOf x n))
  no : x / 2 ^ n ≠ 0 → A1 = none ∧ ln = 0 ∧ c1 = 0
theorem r15bitmap_ {w : World} {a : Addr} {ws : List Nat} {T c8 : Nat} (h : Rk .u64 w (some a) (ints ws)) (hT : ws.length = T) (hc : T ≤ c8) (hlt : ∀ x ∈ ws, x < 18446744073709551616) (n : Nat) (m s p2 : Int) (p3 : Nat) (p4 p5 : Int) (h1 : 1 ≤ n) (h2 : n ≤ 63) (hk8 : p3 + 1 ≤ T) (hT9 : T ≤ 1000000000) (x : Nat) (hx : ws[p3]? = some x) :
    Calls Tryz.prog 28 #[.agg #[.int .i64 n, .int .i64 m, .int .i64 s, .int .i64 16, .int .i64 p2, .int .i64 p3, .int .i64 p4, .int .i64 p5, .slice (some a) T c8]] w fun e w' =>
      (x / 2 ^ n = 0 → ∃ v, e = .returned (.tuple #[v, .bool true]) ∧ w'.ownsRow w.heap.size 4 1 v n (bvs (bitsOf x n))) ∧ (x / 2 ^ n ≠ 0 → e = .returned (.tuple #[.slice none 0 0, .bool false])) ∧ Below w.heap.size w w' := by
  have hu := Tryz.underlying30
  have hx9 := hlt x (List.mem_of_getElem? hx)
  have hsub : Rk .u64 w (some (a.add p3)) (ints [x]) := by
    have h9 := (h.drop p3).take 1
    rw [ints_dt] at h9
    have e9 : (ws.drop p3).take 1 = [x] := by
      obtain ⟨q1, q2⟩ := List.getElem?_eq_some_iff.1 hx
      rw [List.drop_eq_getElem_cons q1, q2]
      rfl
    rw [e9] at h9
    exact h9
  have hq : ((n : Int) + 63) / 64 = 1 := by omega
  have hq2 : IntKind.i64.wrap (((n : Int) + 63).tdiv 64) = 1 := by rw [Int.tdiv_eq_ediv_of_nonneg (by omega), hq]; rfl
  obtain ⟨W1, hW1⟩ : ∃ W1, W1 = w.alloc (.cells #[.int .i64 n, .int .i64 m, .int .i64 s, .int .i64 16, .int .i64 p2, .int .i64 p3, .int .i64 p4, .int .i64 p5, .slice (some a) T c8] 30) := ⟨_, rfl⟩
  have hv := alloc_new w (.cells #[.int .i64 n, .int .i64 m, .int .i64 s, .int .i64 16, .int .i64 p2, .int .i64 p3, .int .i64 p4, .int .i64 p5, .slice (some a) T c8] 30)
  have hb1 : Below w.heap.size w W1 := by rw [hW1]; exact bl_alloc (Below.refl _ _) _
  rw [← hW1] at hv
  have HOF : Hid (∀ {W : World} (c : Nat), Below w.heap.size w W → Calls Tryz.prog 90 #[.int .i64 n, .slice (some (a.add p3)) 1 c] W fun e w' => ∃ A1 ln c1, e = .returned (.tuple #[.slice A1 ln c1, .bool (decide (x / 2 ^ n = 0))]) ∧ BofW x n w.heap.size A1 ln c1 w' ∧ Below W.heap.size W w') := fun {W} c hb => (rof_ (w := W) (hsub.below hb) hx9 c n h1 h2).mono (by
    rintro e w' ⟨q1, q2, q3⟩
    by_cases hz : x / 2 ^ n = 0
    · obtain ⟨v, rfl, hown⟩ := q1 hz
      obtain ⟨A1, c1, rfl⟩ := own_slice hown
      exact ⟨A1, n, c1, by rw [decide_eq_true hz], ⟨fun _ => ⟨rfl, own_base hown hb.size⟩, fun h => absurd hz h⟩, q3⟩
    · exact ⟨none, 0, 0, by rw [q2 hz, decide_eq_false hz], ⟨fun h => absurd h hz, fun _ => ⟨rfl, rfl, rfl⟩⟩, q3⟩)
  have fin : ∀ {A1 : Option Addr} {ln c1 : Nat} {w' : World}, BofW x n w.heap.size A1 ln c1 w' → Below w.heap.size w w' → (x / 2 ^ n = 0 → ∃ v, Ending.returned (.tuple #[.slice A1 ln c1, .bool (decide (x / 2 ^ n = 0))]) = .returned (.tuple #[v, .bool true]) ∧ w'.ownsRow w.heap.size 4 1 v n (bvs (bitsOf x n))) ∧ (x / 2 ^ n ≠ 0 → Ending.returned (.tuple #[.slice A1 ln c1, .bool (decide (x / 2 ^ n = 0))]) = .returned (.tuple #[.slice none 0 0, .bool false])) ∧ Below w.heap.size w w' := by
    intro A1 ln c1 w' hq hb
    refine ⟨fun hz => ?_, fun hz => ?_, hb⟩
    · obtain ⟨rfl, hown⟩ := hq.yes hz
      exact ⟨_, by rw [decide_eq_true hz], hown⟩
    · obtain ⟨rfl, rfl, rfl⟩ := hq.no hz
      rw [decide_eq_false hz]
  have FIN : Hid (∀ (A1 : Option Addr) (ln c1 : Nat) (w' : World), BofW x n w.heap.size A1 ln c1 w' → Below w.heap.size w w' → _) := fun A1 ln c1 w' => fin (A1 := A1) (ln := ln) (c1 := c1) (w' := w')
  clear fin
  generalize decide (x / 2 ^ n = 0) = t at HOF FIN
  have m0 := cell_of hv 0
  have m5 := cell_of hv 5
  have m8 := cell_of hv 8
  have hw1 : IntKind.i64.wrap ((n : Int) + 63) = (n : Int) + 63 := wi64 _ (by omega) (by omega)
  have hw2 : IntKind.i64.wrap ((p3 : Int) + 1) = (p3 : Int) + 1 := wi64 _ (by omega) (by omega)
  have hp0 : (0 : Int) ≤ (p3 : Int) := by omega
  have hne : ¬ (c8 = p3) := by omega
  have hp1 : (p3 : Int) + 1 ≤ (c8 : Int) := by omega
  have hp2 : (p3 : Int) ≤ (p3 : Int) + 1 := by omega
  have hp9 : (p3 : Int) + 1 - (p3 : Int) = 1 := by omega
  have HB1 := Lib.hid hb1
  have HW1 := Lib.hid hW1
  have HLT := Lib.hid (lt_of hv)
  clear h hT hlt hx hsub hW1 hv hb1
  go_enter Tryz.func28, Tryz.ntmps28
  go_wp2_with fail
  rw [← HW1.out]
  go_region_held3 (fun w' => w'.cell? ⟨w.heap.size, 0, none⟩ = some (.int .i64 n) ∧ w'.cell? ⟨w.heap.size, 5, none⟩ = some (.int .i64 p3) ∧ w'.cell? ⟨w.heap.size, 8, none⟩ = some (.slice (some a) T c8) ∧ Vb w.heap.size w')
    (first | assumption | exact ⟨m0, m5, m8, ⟨HLT.out⟩⟩ | exact vb_keep ‹_› ‹_›)
    ((go_at_call 90; refine (HOF.out _ (bl_drew HB1.out)).mono ?_; rintro e w2 ⟨A1, ln, c1, rfl, q1, q2⟩; (have HQ := Lib.hid (And.intro q1 (bl_then (w1 := W1.drew) (bl_drew HB1.out) q2))); clear q1))
  all_goals
    go_wp2
    go_ret2
    exact FIN.out _ _ _ _ HQ.out.1 HQ.out.2

theorem r15block_ {w : World} {a : Addr} {ws : List Nat} {T c8 : Nat} (h : Rk .u64 w (some a) (ints ws)) (hT : ws.length = T) (hc : T ≤ c8) (hlt : ∀ x ∈ ws, x < 18446744073709551616) (n m p2 p3 : Int) (p4 : Nat) (p5 : Int) (s : Nat) (hs : s = 64 ∨ s = 128) (i : Nat) (hi : i ≤ 100000) (k : Nat) (hk : k = p4 + i * (s / 8)) (hk8 : k + s / 8 ≤ T) (hT9 : T ≤ 1000000) :
    Calls Tryz.prog 26 #[.agg #[.int .i64 n, .int .i64 m, .int .i64 s, .int .i64 16, .int .i64 p2, .int .i64 p3, .int .i64 p4, .int .i64 p5, .slice (some a) T c8], .int .i64 i] w fun e w' => e = .returned (.string (txt (octs ((ws.drop k).take (s / 8))))) ∧ Below w.heap.size w w' := by
  have hu := Tryz.underlying30
  obtain ⟨l, hl⟩ : ∃ l, l = s / 8 := ⟨_, rfl⟩
  rw [← hl] at hk hk8
  rw [← hl]
  have hsub : Rk .u64 w (some (a.add k)) (ints ((ws.drop k).take l)) := by rw [← ints_dt]; exact (h.drop k).take l
  have hl8 : ((ws.drop k).take l).length = l := by simp; omega
  have HD : Hid (∀ {W : World}, Below w.heap.size w W → ∀ c, Calls Tryz.prog 87 #[.slice (some (a.add k)) l c] W fun e w' => e = .returned (.string (txt (octs ((ws.drop k).take l)))) ∧ Below W.heap.size W w') := by
    intro W hb c
    have := rbytes_ (hsub.below hb) (fun x hx => hlt x (List.mem_of_mem_drop (List.mem_of_mem_take hx))) c (by rw [hl8]; omega)
    rw [hl8] at this
    exact this
  generalize txt (octs ((ws.drop k).take l)) = R at *
  have hl0 : 8 ≤ l ∧ l ≤ 16 := by omega
  obtain ⟨hl1, hl2⟩ := hl0
  have hv := alloc_new w (.cells #[.int .i64 n, .int .i64 m, .int .i64 s, .int .i64 16, .int .i64 p2, .int .i64 p3, .int .i64 p4, .int .i64 p5, .slice (some a) T c8] 30)
  have hb1 := bl_alloc (Below.refl w.heap.size w) (.cells #[.int .i64 n, .int .i64 m, .int .i64 s, .int .i64 16, .int .i64 p2, .int .i64 p3, .int .i64 p4, .int .i64 p5, .slice (some a) T c8] 30)
  have HB1 := Lib.hid hb1
  have hk1 : (p4 : Int) + (i : Int) * s / 8 = (k : Int) := by
    rcases hs with rfl | rfl
    · obtain rfl : l = 8 := by omega
      omega
    · obtain rfl : l = 16 := by omega
      omega
  have hmul : 0 ≤ (i : Int) * s ∧ (i : Int) * s ≤ 100000000 := by
    rcases hs with rfl | rfl <;> omega
  have hs8 : (s : Int) / 8 = (l : Int) := by omega
  have hp9 : p4 ≤ 1000000 := by omega
  have hk9 : k ≤ 1000000 := by omega
  have hkc : k + l ≤ c8 := by omega
  have hne : ¬ (c8 = k) := by omega
  obtain rfl : k = p4 + i * s / 8 := by
    have : ((p4 + i * s / 8 : Nat) : Int) = (k : Int) := by rw [← hk1]; norm_cast
    omega
  obtain ⟨hm0, hm1⟩ := hmul
  clear h hsub hl8 hlt hT hs hk hl hk8 hT9 hb1 hc hk1
  go_enter Tryz.func26, Tryz.ntmps26
  go_wp2_with (go_at_call 87; refine (HD.out HB1.out _).mono ?_; rintro e w3 ⟨rfl, hb⟩; (have HB3 := Lib.hid (bl_then HB1.out hb)); clear hb)
  go_ret
  exact ⟨rfl, HB3.out⟩

end Go.Proofs.YtgnagbbdnlmgeaaGreat.Je
end

/- Words compared by the law (cantlelaw03.Same). -/
section
set_option linter.unusedVariables false
set_option linter.unusedSimpArgs false
set_option maxHeartbeats 1000000
namespace Go.Proofs.YtgnagbbdnlmgeaaGreat.Pm
open Go Go.RowKit
open Go.ChangeMaps (setBlock)
open Go.Proofs.YtgnagbbdnlmgeaaGreat.Ob Go.Proofs.YtgnagbbdnlmgeaaGreat.Mp Go.Proofs.YtgnagbbdnlmgeaaGreat.Dv Go.Proofs.YtgnagbbdnlmgeaaGreat.Wl

set_option maxRecDepth 100000 in
theorem same_words {w : World} {A B : Option Addr} {l m : List Int} (h : Rd w A l) (k : Rd w B m) (c1 c2 : Nat) (hl : l.length ≤ 9223372036854775807) (hm : m.length ≤ 9223372036854775807) :
    Calls Tryz.prog 17 #[.slice A l.length c1, .slice B m.length c2] w fun e w' => e = .returned (.bool (decide (l = m))) ∧ ∃ n, w' = w.drewN n := by
  have H := Lib.hid h
  have K := Lib.hid k
  clear h k
  by_cases he : l.length = m.length
  · obtain ⟨n, hn⟩ : ∃ n, n = l.length := ⟨_, rfl⟩
    rw [← he, ← hn]
    rw [← hn] at hl
    have HN : Hid (n = l.length ∧ n = m.length) := ⟨hn, by rw [hn, he]⟩
    clear hn he hm
    go_enter Tryz.func17, Tryz.ntmps17
    go_wp2_with fail
    go_loopw [13] (fun c13 wr => ∃ i : Nat, i ≤ n ∧ c13 = .int .i64 i ∧ ∃ q, Hid (wr = w.drewN q ∧ l.take i = m.take i)) (fun c13 _ => n - (intOf c13).toNat)
    case atStart => exact ⟨0, Nat.zero_le _, rfl, 0, rfl, rfl⟩
    case round =>
      obtain ⟨i, hi, rfl, q, HR⟩ := hrel
      by_cases hlt : i < n
      · obtain ⟨x, hx⟩ : ∃ x, l[i]? = some x := ⟨_, List.getElem?_eq_getElem (by rw [← HN.out.1]; exact hlt)⟩
        obtain ⟨y, hy⟩ : ∃ y, m[i]? = some y := ⟨_, List.getElem?_eq_getElem (by rw [← HN.out.2]; exact hlt)⟩
        have hl2 : Rd wr A l := by rw [HR.out.1]; exact H.out.drewN q
        have hm2 : Rd wr B m := by rw [HR.out.1]; exact K.out.drewN q
        obtain ⟨a, rfl, -, ha⟩ := hl2 i x hx
        obtain ⟨b, rfl, -, hb⟩ := hm2 i y hy
        have HX := Lib.hid (And.intro hx hy)
        clear hx hy hl2 hm2
        by_cases hxy : x = y
        · have e1 : (x != y) = false := by simp [hxy]
          have EX := Lib.hid hxy
          clear hxy
          go_wp2
          go_quiet (fail)
          go_wp2
          go_roundw
          case rel => exact ⟨i + 1, by omega, by go_num, q + nq, by show _ ∧ _; rw [HR.out.1]; exact ⟨drewN_two _ _ _, eq_step HX.out.1 HX.out.2 HR.out.2 EX.out⟩⟩
          case measure => simp [intOf]; omega
        · have e1 : (x != y) = true := bne_iff_ne.2 hxy
          have EX := Lib.hid hxy
          clear hxy
          go_wp2
          go_quiet (fail)
          go_wp2
          go_ret
          have hd : decide (l = m) = false := by
            apply decide_eq_false
            rintro rfl
            have := HX.out.1.symm.trans HX.out.2
            simp at this
            exact EX.out this
          rw [hd]
          exact ⟨rfl, _, by rw [HR.out.1]; exact drewN_two _ _ _⟩
      · obtain rfl : i = n := by omega
        go_wp2
        go_ret
        have hd : decide (l = m) = true := by
          apply decide_eq_true
          have h1 := HR.out.2
          rw [List.take_of_length_le (by rw [← HN.out.1]; omega), List.take_of_length_le (by rw [← HN.out.2]; omega)] at h1
          exact h1
        rw [hd]
        exact ⟨rfl, q, HR.out.1⟩
  · have hd : decide (l = m) = false := by
      apply decide_eq_false
      intro e
      exact he (by rw [e])
    rw [hd]
    have e1 : ((l.length : Int) != (m.length : Int)) = true := by rw [bne_iff_ne]; omega
    clear hd he
    generalize l.length = x at *
    generalize m.length = y at *
    go_enter Tryz.func17, Tryz.ntmps17
    go_wp2
    go_ret
    exact ⟨rfl, 0, rfl⟩

end Go.Proofs.YtgnagbbdnlmgeaaGreat.Pm
end
