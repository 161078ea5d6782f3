/- Parts of the proof, one behind the other: Cr, Cc, C6, Oc, Cd, Ce, Pk, Ps, Wd. -/
import Derived.Laws.BitsLemmas
import Derived.Test.YtgnagbbdnlmgeaaGreatG01
import Derived.Test.YtgnagbbdnlmgeaaGreatProg
import Derived.LoopTactic
import Derived.WalkSpells
import Derived.RegionTactic
import Derived.ChangeAlike

/- The sum of 32 bits as a function on numbers; it is one to one in each byte and in what was there before. No program is named. -/
section
set_option linter.unusedVariables false
set_option linter.unusedSimpArgs false
namespace Go.Proofs.YtgnagbbdnlmgeaaGreat.Cr
open Go

def P32 : Nat := 3988292384
def bst (r : Nat) : Nat := if r % 2 = 1 then (r / 2) ^^^ P32 else r / 2
def rbit (r b : Nat) : Nat := if b = r % 2 then r / 2 else (r / 2) ^^^ P32
def itb : Nat → Nat → Nat
  | 0, r => r
  | n + 1, r => itb n (bst r)
def itr : Nat → Nat → Nat → Nat
  | 0, r, _ => r
  | n + 1, r, x => itr n (rbit r (x % 2)) (x / 2)
def stp (s x : Nat) : Nat := itb 8 (s ^^^ x)
def sumB (s : Nat) (l : List Nat) : Nat := l.foldl stp s

theorem xor_half (a b : Nat) : (a ^^^ b) / 2 = a / 2 ^^^ b / 2 := by
  apply Nat.eq_of_testBit_eq
  intro i
  simp [Nat.testBit_div_two, Nat.testBit_xor]
theorem xor_par (a b : Nat) : (a ^^^ b) % 2 = (a + b) % 2 := by
  have h := Nat.testBit_xor a b 0
  simp only [Nat.testBit_zero] at h
  have h1 : (a ^^^ b) % 2 < 2 := Nat.mod_lt _ (by decide)
  have h2 : a % 2 < 2 := Nat.mod_lt _ (by decide)
  have h3 : b % 2 < 2 := Nat.mod_lt _ (by decide)
  by_cases e1 : a % 2 = 1
  · by_cases e2 : b % 2 = 1
    · rw [decide_eq_true e1, decide_eq_true e2, Bool.xor_self, decide_eq_false_iff_not] at h
      omega
    · rw [decide_eq_true e1, decide_eq_false e2, Bool.xor_false, decide_eq_true_iff] at h
      omega
  · by_cases e2 : b % 2 = 1
    · rw [decide_eq_false e1, decide_eq_true e2, Bool.false_xor, decide_eq_true_iff] at h
      omega
    · rw [decide_eq_false e1, decide_eq_false e2, Bool.xor_self, decide_eq_false_iff_not] at h
      omega
theorem bst_xor (r x : Nat) : bst (r ^^^ x) = rbit r (x % 2) ^^^ (x / 2) := by
  unfold bst rbit
  rw [xor_par, xor_half]
  by_cases h : x % 2 = r % 2
  · rw [if_neg (by omega), if_pos h]
  · rw [if_pos (by omega), if_neg h, Nat.xor_assoc, Nat.xor_assoc, Nat.xor_comm (x / 2)]
theorem itb_xor : ∀ (n r x : Nat), itb n (r ^^^ x) = itr n r x ^^^ (x / 2 ^ n)
  | 0, r, x => by simp [itb, itr]
  | n + 1, r, x => by
    simp only [itb, itr]
    rw [bst_xor, itb_xor n, Nat.div_div_eq_div_mul, Nat.pow_succ, Nat.mul_comm 2]
theorem stp_eq (s x : Nat) (hx : x < 256) : stp s x = itr 8 s x := by
  unfold stp
  rw [itb_xor, show x / 2 ^ 8 = 0 from Nat.div_eq_of_lt (by omega), Nat.xor_zero]

theorem bst_lt (r : Nat) (h : r < 4294967296) : bst r < 4294967296 := by
  unfold bst
  split
  · exact Nat.xor_lt_two_pow (n := 32) (by omega) (by decide)
  · omega
theorem bst_top (r : Nat) (h : r < 4294967296) : (bst r).testBit 31 = decide (r % 2 = 1) := by
  have hz : (r / 2).testBit 31 = false := Nat.testBit_lt_two_pow (by omega)
  unfold bst
  split
  · rename_i h1
    rw [Nat.testBit_xor, hz, h1]
    decide
  · rename_i h1
    rw [hz]
    simp [h1]
theorem xor_cancel {a b c : Nat} (h : a ^^^ c = b ^^^ c) : a = b := by
  have := congrArg (· ^^^ c) h
  simpa [Nat.xor_assoc, Nat.xor_self] using this
theorem bst_inj {r r' : Nat} (h : r < 4294967296) (h' : r' < 4294967296) (e : bst r = bst r') : r = r' := by
  have ht := bst_top r h
  rw [e, bst_top r' h'] at ht
  have hp : r % 2 = r' % 2 := by
    have h1 : r % 2 < 2 := Nat.mod_lt _ (by decide)
    have h2 : r' % 2 < 2 := Nat.mod_lt _ (by decide)
    by_cases c1 : r % 2 = 1 <;> by_cases c2 : r' % 2 = 1 <;> simp [c1, c2] at ht <;> omega
  unfold bst at e
  have hq : r / 2 = r' / 2 := by
    by_cases c1 : r % 2 = 1
    · rw [if_pos c1, if_pos (by omega)] at e
      exact xor_cancel e
    · rw [if_neg c1, if_neg (by omega)] at e
      exact e
  omega
theorem itb_lt : ∀ (n r : Nat), r < 4294967296 → itb n r < 4294967296
  | 0, _, h => h
  | n + 1, r, h => itb_lt n _ (bst_lt r h)
theorem itb_inj : ∀ (n r r' : Nat), r < 4294967296 → r' < 4294967296 → itb n r = itb n r' → r = r'
  | 0, _, _, _, _, e => e
  | n + 1, r, r', h, h', e => bst_inj h h' (itb_inj n _ _ (bst_lt r h) (bst_lt r' h') e)
theorem xor_lt32 {a b : Nat} (h : a < 4294967296) (h' : b < 4294967296) : a ^^^ b < 4294967296 := Nat.xor_lt_two_pow (n := 32) h h'
theorem stp_lt (s x : Nat) (h : s < 4294967296) (h' : x < 256) : stp s x < 4294967296 := itb_lt 8 _ (xor_lt32 h (by omega))
theorem stp_inj {s s' x x' : Nat} (h : s < 4294967296) (h' : s' < 4294967296) (hx : x < 256) (hx' : x' < 256) (e : stp s x = stp s' x') : s ^^^ x = s' ^^^ x' :=
  itb_inj 8 _ _ (xor_lt32 h (by omega)) (xor_lt32 h' (by omega)) e
theorem sumB_lt : ∀ (l : List Nat) (s : Nat), s < 4294967296 → (∀ x ∈ l, x < 256) → sumB s l < 4294967296
  | [], _, h, _ => h
  | x :: l, s, h, hl => sumB_lt l _ (stp_lt s x h (hl x (by simp))) (fun y hy => hl y (by simp [hy]))
theorem sumB_inj : ∀ (l : List Nat) (s s' : Nat), s < 4294967296 → s' < 4294967296 → (∀ x ∈ l, x < 256) → sumB s l = sumB s' l → s = s'
  | [], _, _, _, _, _, e => e
  | x :: l, s, s', h, h', hl, e => by
    have hx := hl x (by simp)
    have := sumB_inj l _ _ (stp_lt s x h hx) (stp_lt s' x h' hx) (fun y hy => hl y (by simp [hy])) e
    exact xor_cancel (stp_inj h h' hx hx this)
/-- Lists that differ in just one byte have not one sum. -/
theorem sumB_one (pre post : List Nat) (x x' s : Nat) (h : s < 4294967296) (hp : ∀ y ∈ pre, y < 256) (hq : ∀ y ∈ post, y < 256) (hx : x < 256) (hx' : x' < 256)
    (e : sumB s (pre ++ x :: post) = sumB s (pre ++ x' :: post)) : x = x' := by
  unfold sumB at e
  rw [List.foldl_append, List.foldl_append] at e
  have hs := sumB_lt pre s h hp
  unfold sumB at hs
  have := sumB_inj post _ _ (stp_lt _ x hs hx) (stp_lt _ x' hs hx') hq e
  have := stp_inj hs hs hx hx' this
  rw [Nat.xor_comm _ x, Nat.xor_comm _ x'] at this
  exact xor_cancel this

/-! ### on integers -/
theorem bits_xor32 (a b : Nat) (ha : a < 4294967296) (hb : b < 4294967296) : bits .xor .u32 a b = ((a ^^^ b : Nat) : Int) := by
  have ha' : a % 4294967296 = a := Nat.mod_eq_of_lt ha
  have hb' : b % 4294967296 = b := Nat.mod_eq_of_lt hb
  have hl := xor_lt32 ha hb
  have hk : IntKind.u32.bits = 32 := rfl
  simp only [bits, hk, BitVec.ofInt_natCast, BitVec.toNat_xor, BitVec.toNat_ofNat]
  rw [show (2 : Nat) ^ 32 = 4294967296 from rfl, ha', hb', IntKind.wrap_u32]
  omega
theorem bits_and1 (a : Nat) (ha : a < 4294967296) : bits .and .u32 a 1 = ((a % 2 : Nat) : Int) := by
  have := bits_mask .u32 32 (by decide) (fun n h0 h1 => by rw [IntKind.wrap_u32]; omega) 1 (by decide) a (by omega) (by omega)
  simpa using this
theorem not32 (x : Nat) (h : x < 4294967296) : 4294967295 ^^^ x = 4294967295 - x := by
  apply Nat.eq_of_testBit_eq
  intro i
  have h1 := Nat.testBit_two_pow_sub_succ (n := 32) (x := x) (by omega) i
  have h2 := Nat.testBit_two_pow_sub_succ (n := 32) (x := 0) (by omega) i
  rw [Nat.testBit_xor]
  rw [show (4294967295 : Nat) - x = 2 ^ 32 - (x + 1) from by omega, h1]
  rw [show (4294967295 : Nat) = 2 ^ 32 - (0 + 1) from by omega, h2]
  by_cases hi : i < 32
  · simp [hi]
  · have : x.testBit i = false := Nat.testBit_lt_two_pow (Nat.lt_of_lt_of_le h (by
      have : 2 ^ 32 ≤ 2 ^ i := Nat.pow_le_pow_right (by decide) (by omega)
      omega))
    simp [hi, this]

end Go.Proofs.YtgnagbbdnlmgeaaGreat.Cr
end

/- The second chapter's steps: one byte more, in both sums. -/
section
set_option linter.unusedVariables false
set_option linter.unusedSimpArgs false
set_option maxHeartbeats 1000000
set_option maxRecDepth 100000
namespace Go.Proofs.YtgnagbbdnlmgeaaGreat.Cc
open Go Go.RowKit
open Go.Proofs.YtgnagbbdnlmgeaaGreat.Ob Go.Proofs.YtgnagbbdnlmgeaaGreat.Ba Go.Proofs.YtgnagbbdnlmgeaaGreat.Cr

theorem step32_ (s x : Nat) (hs : s < 4294967296) (hx : x < 256) (w : World) :
    Calls Tryz.prog 187 #[.int .u32 s, .int .u8 x] w fun e w' => e = .returned (.int .u32 (stp s x)) ∧ w = w' := by
  have hwx : IntKind.u32.wrap (x : Int) = x := by rw [IntKind.wrap_u32]; omega
  have hx0 : Go.bits .xor .u32 (s : Int) (x : Int) = ((s ^^^ x : Nat) : Int) := bits_xor32 s x hs (by omega)
  have hr0 : s ^^^ x < 4294967296 := xor_lt32 hs (by omega)
  go_enter Tryz.func187, Tryz.ntmps187
  go_wp2_with fail
  have HS : Hid (itb 8 (s ^^^ x) = stp s x) := rfl
  clear hwx hx0
  generalize s ^^^ x = r0 at *
  go_loop [9, 0] (fun c9 c0 => ∃ (i r : Nat), i ≤ 8 ∧ c9 = .int .i64 i ∧ c0 = .int .u32 r ∧ r < 4294967296 ∧ Hid (itb (8 - i) r = stp s x)) (fun c9 _ => 8 - (intOf c9).toNat)
  case atStart => exact ⟨0, r0, by omega, rfl, rfl, hr0, HS⟩
  case round =>
    obtain ⟨i, r, hi, rfl, rfl, hr, HR⟩ := hrel
    by_cases hlt : i < 8
    · have hn : itb (8 - (i + 1)) (bst r) = stp s x := by
        have := HR.out
        rw [show 8 - i = (8 - (i + 1)) + 1 from by omega, itb] at this
        exact this
      have HN := Lib.hid hn
      have hl := bst_lt r hr
      clear hn
      by_cases hp : r % 2 = 1
      · have e1 : Go.bits .and .u32 (r : Int) 1 = 1 := by rw [bits_and1 r hr, hp]; rfl
        have e3 : Go.bits .xor .u32 ((r : Int) / 2) 3988292384 = ((bst r : Nat) : Int) := by
          have := bits_xor32 (r / 2) P32 (by omega) (by decide)
          unfold bst
          rw [if_pos hp]
          exact this
        clear hp
        generalize bst r = z at *
        go_wp2
        go_round
        case rel => exact ⟨i + 1, z, by omega, by go_num, rfl, hl, HN⟩
        case measure => simp [intOf]; omega
      · have e1 : Go.bits .and .u32 (r : Int) 1 = 0 := by rw [bits_and1 r hr, show r % 2 = 0 from by omega]; rfl
        have e3 : (r : Int) / 2 = ((bst r : Nat) : Int) := by
          unfold bst
          rw [if_neg hp]
          rfl
        clear hp
        generalize bst r = z at *
        go_wp2
        go_round
        case rel => exact ⟨i + 1, z, by omega, by go_num, rfl, hl, HN⟩
        case measure => simp [intOf]; omega
    · obtain rfl : i = 8 := by omega
      go_wp2
      go_ret
      have := HR.out
      simp only [Nat.sub_self, itb] at this
      exact ⟨by rw [← this]; rfl, rfl⟩

end Go.Proofs.YtgnagbbdnlmgeaaGreat.Cc
end

/- The sum of 16 bits, plain. -/
section
set_option linter.unusedVariables false
set_option linter.unusedSimpArgs false
namespace Go.Proofs.YtgnagbbdnlmgeaaGreat.C6
open Go Go.Proofs.YtgnagbbdnlmgeaaGreat.Cr

def P16 : Nat := 4129
def dbl (r : Nat) : Nat := 2 * r % 65536
def bst6 (r : Nat) : Nat := if r.testBit 15 then dbl r ^^^ P16 else dbl r
def rbit6 (r : Nat) (b : Bool) : Nat := if b = r.testBit 15 then dbl r else dbl r ^^^ P16
def itb6 : Nat → Nat → Nat
  | 0, r => r
  | n + 1, r => itb6 n (bst6 r)
def itr6 : Nat → Nat → Nat → Nat
  | 0, r, _ => r
  | n + 1, r, y => itr6 n (rbit6 r (y.testBit 15)) (dbl y)
def dbls : Nat → Nat → Nat
  | 0, y => y
  | n + 1, y => dbls n (dbl y)
def stp6 (s x : Nat) : Nat := itb6 8 (s ^^^ 256 * x)
def sum6 (s : Nat) (l : List Nat) : Nat := l.foldl stp6 s

theorem dbl_bit (r i : Nat) : (dbl r).testBit i = (decide (i < 16) && decide (1 ≤ i) && r.testBit (i - 1)) := by
  unfold dbl
  rw [show (65536 : Nat) = 2 ^ 16 from rfl, Nat.testBit_mod_two_pow, show 2 * r = 2 ^ 1 * r from by omega, Nat.testBit_two_pow_mul, Bool.and_assoc]
theorem dbl_xor (a b : Nat) : dbl (a ^^^ b) = dbl a ^^^ dbl b := by
  apply Nat.eq_of_testBit_eq
  intro i
  rw [Nat.testBit_xor, dbl_bit, dbl_bit, dbl_bit, Nat.testBit_xor]
  cases decide (i < 16) <;> cases decide (1 ≤ i) <;> simp
theorem bst_xor6 (r y : Nat) : bst6 (r ^^^ y) = rbit6 r (y.testBit 15) ^^^ dbl y := by
  unfold bst6 rbit6
  rw [Nat.testBit_xor, dbl_xor]
  cases r.testBit 15 <;> cases y.testBit 15 <;> simp [Nat.xor_assoc, Nat.xor_comm (dbl y) P16]
theorem itb_xor6 : ∀ (n r y : Nat), itb6 n (r ^^^ y) = itr6 n r y ^^^ dbls n y
  | 0, r, y => rfl
  | n + 1, r, y => by
    rw [itb6, itr6, dbls, bst_xor6, itb_xor6 n]
theorem dbls_bit : ∀ (n y i : Nat), (dbls n y).testBit i = (if n = 0 then y.testBit i else decide (i < 16) && decide (n ≤ i) && y.testBit (i - n))
  | 0, y, i => rfl
  | n + 1, y, i => by
    rw [dbls, dbls_bit n (dbl y) i, if_neg (show ¬ (n + 1 = 0) by omega)]
    by_cases h0 : n = 0
    · subst h0
      rw [if_pos rfl, dbl_bit]
    · rw [if_neg h0, dbl_bit]
      by_cases h1 : i < 16 <;> by_cases h2 : n + 1 ≤ i
      · rw [show i - n - 1 = i - (n + 1) from by omega]
        simp [h1, h2, show n ≤ i from by omega, show i - n < 16 from by omega, show 1 ≤ i - n from by omega]
      · by_cases h3 : n ≤ i
        · simp [h1, h2, h3, show ¬ 1 ≤ i - n from by omega]
        · simp [h2, h3]
      · simp [h1]
      · simp [h1]
theorem stp_eq6 (s x : Nat) (hx : x < 256) : stp6 s x = itr6 8 s (256 * x) := by
  unfold stp6
  rw [itb_xor6]
  have : dbls 8 (256 * x) = 0 := by
    apply Nat.eq_of_testBit_eq
    intro i
    rw [dbls_bit, if_neg (by omega), Nat.zero_testBit]
    by_cases h : i < 16 <;> by_cases h2 : 8 ≤ i
    · rw [show (256 : Nat) = 2 ^ 8 from rfl, Nat.testBit_two_pow_mul]
      by_cases h3 : 8 ≤ i - 8
      · omega
      · simp [h3]
    · simp [h2]
    · simp [h]
    · simp [h]
  rw [this, Nat.xor_zero]
/-- the bit that the reference reads -/
theorem bit_at (x j : Nat) (hj : j < 8) : (dbls j (256 * x)).testBit 15 = x.testBit (7 - j) := by
  rw [dbls_bit]
  split
  · rename_i h
    subst h
    rw [show (256 : Nat) = 2 ^ 8 from rfl, Nat.testBit_two_pow_mul]
    simp
  · rw [show (256 : Nat) = 2 ^ 8 from rfl, Nat.testBit_two_pow_mul]
    simp [show j ≤ 15 from by omega, show 8 ≤ 15 - j from by omega, show 15 - j - 8 = 7 - j from by omega]

theorem xor_lt16 {a b : Nat} (h : a < 65536) (h' : b < 65536) : a ^^^ b < 65536 := Nat.xor_lt_two_pow (n := 16) h h'
theorem dbl_lt (r : Nat) : dbl r < 65536 := Nat.mod_lt _ (by decide)
theorem bst6_lt (r : Nat) : bst6 r < 65536 := by
  unfold bst6
  split
  · exact xor_lt16 (dbl_lt r) (by decide)
  · exact dbl_lt r
theorem rbit6_lt (r : Nat) (b : Bool) : rbit6 r b < 65536 := by
  unfold rbit6
  split
  · exact dbl_lt r
  · exact xor_lt16 (dbl_lt r) (by decide)
theorem itb6_lt : ∀ (n r : Nat), r < 65536 → itb6 n r < 65536
  | 0, _, h => h
  | n + 1, r, _ => itb6_lt n _ (bst6_lt r)
theorem stp6_lt (s x : Nat) (h : s < 65536) (hx : x < 256) : stp6 s x < 65536 := itb6_lt 8 _ (xor_lt16 h (by omega))
theorem sum6_lt : ∀ (l : List Nat) (s : Nat), s < 65536 → (∀ x ∈ l, x < 256) → sum6 s l < 65536
  | [], _, h, _ => h
  | x :: l, s, h, hl => sum6_lt l _ (stp6_lt s x h (hl x (by simp))) (fun y hy => hl y (by simp [hy]))
theorem top16 (r : Nat) (h : r < 65536) : r.testBit 15 = decide (32768 ≤ r) := by
  rw [Nat.testBit_eq_decide_div_mod_eq]
  congr 1
  apply propext
  omega

/-! ### on integers -/
theorem bits_xor16 (a b : Nat) (ha : a < 65536) (hb : b < 65536) : bits .xor .u16 a b = ((a ^^^ b : Nat) : Int) := by
  have ha' : a % 65536 = a := Nat.mod_eq_of_lt ha
  have hb' : b % 65536 = b := Nat.mod_eq_of_lt hb
  have hl := xor_lt16 ha hb
  have hk : IntKind.u16.bits = 16 := rfl
  simp only [bits, hk, BitVec.ofInt_natCast, BitVec.toNat_xor, BitVec.toNat_ofNat]
  rw [show (2 : Nat) ^ 16 = 65536 from rfl, ha', hb']
  simp [IntKind.wrap, IntKind.bits, IntKind.signed]
  omega
theorem bits_and16 (a b : Nat) (ha : a < 65536) (hb : b < 65536) : bits .and .u16 a b = ((a &&& b : Nat) : Int) := by
  have ha' : a % 65536 = a := Nat.mod_eq_of_lt ha
  have hb' : b % 65536 = b := Nat.mod_eq_of_lt hb
  have hl : a &&& b < 65536 := Nat.lt_of_le_of_lt Nat.and_le_left ha
  have hk : IntKind.u16.bits = 16 := rfl
  simp only [bits, hk, BitVec.ofInt_natCast, BitVec.toNat_and, BitVec.toNat_ofNat]
  rw [show (2 : Nat) ^ 16 = 65536 from rfl, ha', hb']
  simp [IntKind.wrap, IntKind.bits, IntKind.signed]
  omega
theorem and_top (r : Nat) (h : r < 65536) : (r &&& 32768 = 0) ↔ r.testBit 15 = false := by
  constructor
  · intro e
    have := congrArg (fun z => z.testBit 15) e
    simp only [Nat.testBit_and, Nat.zero_testBit] at this
    have h2 : (32768 : Nat).testBit 15 = true := by decide
    rw [h2, Bool.and_true] at this
    exact this
  · intro e
    apply Nat.eq_of_testBit_eq
    intro i
    rw [Nat.testBit_and, Nat.zero_testBit]
    by_cases hi : i = 15
    · subst hi; simp [e]
    · have : (32768 : Nat).testBit i = false := by
        rw [show (32768 : Nat) = 2 ^ 15 from rfl, Nat.testBit_two_pow]
        simp
        omega
      simp [this]

end Go.Proofs.YtgnagbbdnlmgeaaGreat.C6
end

/- Words in bytes, plain. -/
section
set_option linter.unusedVariables false
set_option linter.unusedSimpArgs false
namespace Go.Proofs.YtgnagbbdnlmgeaaGreat.Oc
open Go Go.RowKit Go.Proofs.YtgnagbbdnlmgeaaGreat.Ba

def ints (l : List Nat) : List Int := l.map Int.ofNat
theorem ints_length (l : List Nat) : (ints l).length = l.length := by simp [ints]
theorem ints_get {l : List Nat} {i x : Nat} (h : l[i]? = some x) : (ints l)[i]? = some (x : Int) := by simp [ints, h]
theorem ints_take (l : List Nat) (n : Nat) : ints (l.take n) = (ints l).take n := by simp [ints, List.map_take]
theorem ints_inj {a b : List Nat} : ints a = ints b ↔ a = b := by
  constructor
  · intro h
    have := congrArg (List.map Int.toNat) h
    simpa [ints, Function.comp_def] using this
  · rintro rfl; rfl
def oct (w : Nat) : List Nat := (List.range 8).map fun i => w / 256 ^ i % 256
def octs (l : List Nat) : List Nat := l.flatMap oct
theorem oct_lt (w : Nat) : ∀ x ∈ oct w, x < 256 := by
  intro x hx
  simp only [oct, List.mem_map] at hx
  obtain ⟨i, _, rfl⟩ := hx
  exact Nat.mod_lt _ (by decide)
theorem octs_lt (l : List Nat) : ∀ x ∈ octs l, x < 256 := by
  intro x hx
  simp only [octs, List.mem_flatMap] at hx
  obtain ⟨w, _, h⟩ := hx
  exact oct_lt w x h
theorem octs_length (l : List Nat) : (octs l).length = 8 * l.length := by
  induction l with
  | nil => rfl
  | cons w l ih =>
    have : octs (w :: l) = oct w ++ octs l := rfl
    rw [this, List.length_append, ih]
    simp [oct]
    omega
theorem oct_drop (w i : Nat) (hi : i < 8) : (oct w).drop i = (w / 256 ^ i % 256) :: (oct w).drop (i + 1) := by
  rw [List.drop_eq_getElem_cons (by simp [oct]; omega)]
  simp [oct]
theorem ints_append (a b : List Nat) : ints (a ++ b) = ints a ++ ints b := by simp [ints]


end Go.Proofs.YtgnagbbdnlmgeaaGreat.Oc
end

/- The second chapter: the sums. -/
section
set_option linter.unusedVariables false
set_option linter.unusedSimpArgs false
set_option maxHeartbeats 1000000
set_option maxRecDepth 100000
namespace Go.Proofs.YtgnagbbdnlmgeaaGreat.Cc
open Go Go.RowKit
open Go.Proofs.YtgnagbbdnlmgeaaGreat.Ob Go.Proofs.YtgnagbbdnlmgeaaGreat.Ba Go.Proofs.YtgnagbbdnlmgeaaGreat.Cr Go.Proofs.YtgnagbbdnlmgeaaGreat.C6 Go.Proofs.YtgnagbbdnlmgeaaGreat.Oc

theorem step16_ (s x : Nat) (hs : s < 65536) (hx : x < 256) (w : World) :
    Calls Tryz.prog 183 #[.int .u16 s, .int .u8 x] w fun e w' => e = .returned (.int .u16 (stp6 s x)) ∧ w = w' := by
  have hx0 : Go.bits .xor .u16 (s : Int) ((x : Int) * 256) = ((s ^^^ 256 * x : Nat) : Int) := by
    have := bits_xor16 s (256 * x) hs (by omega)
    rw [← this]
    congr 1
    omega
  have hr0 : s ^^^ 256 * x < 65536 := xor_lt16 hs (by omega)
  have HX := Lib.hid hx0
  go_enter Tryz.func183, Tryz.ntmps183
  go_wp2_with fail
  have HS : Hid (itb6 8 (s ^^^ 256 * x) = stp6 s x) := rfl
  clear hx0
  generalize s ^^^ 256 * x = r0 at *
  go_loop [10, 0] (fun c9 c0 => ∃ (i r : Nat), i ≤ 8 ∧ c9 = .int .i64 i ∧ c0 = .int .u16 r ∧ r < 65536 ∧ Hid (itb6 (8 - i) r = stp6 s x)) (fun c9 _ => 8 - (intOf c9).toNat)
  case atStart => exact ⟨0, r0, by omega, rfl, rfl, hr0, HS⟩
  case round =>
    obtain ⟨i, r, hi, rfl, rfl, hr, HR⟩ := hrel
    by_cases hlt : i < 8
    · have hn : itb6 (8 - (i + 1)) (bst6 r) = stp6 s x := by
        have := HR.out
        rw [show 8 - i = (8 - (i + 1)) + 1 from by omega, itb6] at this
        exact this
      have HN := Lib.hid hn
      have hl := bst6_lt r
      have hd := dbl_lt r
      have e0 : IntKind.u16.wrap ((r : Int) * 2) = ((dbl r : Nat) : Int) := by unfold dbl; simp [IntKind.wrap, IntKind.bits, IntKind.signed]; omega
      clear hn
      cases hp : r.testBit 15 with
      | true =>
        have e1 : (Go.bits .and .u16 (r : Int) 32768 != 0) = true := by
          rw [show (32768 : Int) = ((32768 : Nat) : Int) from rfl, bits_and16 r 32768 hr (by decide), bne_iff_ne]
          intro e
          have := (and_top r hr).1 (by omega)
          rw [hp] at this
          cases this
        have e3 : Go.bits .xor .u16 ((dbl r : Nat) : Int) 4129 = ((bst6 r : Nat) : Int) := by
          have := bits_xor16 (dbl r) P16 hd (by decide)
          unfold bst6
          rw [if_pos hp]
          exact this
        clear hp
        generalize bst6 r = z at *
        generalize dbl r = y at *
        go_wp2
        go_round
        case rel => exact ⟨i + 1, z, by omega, by go_num, rfl, hl, HN⟩
        case measure => simp [intOf]; omega
      | false =>
        have e1 : (Go.bits .and .u16 (r : Int) 32768 != 0) = false := by
          rw [show (32768 : Int) = ((32768 : Nat) : Int) from rfl, bits_and16 r 32768 hr (by decide), (and_top r hr).2 hp]
          rfl
        have e3 : bst6 r = dbl r := by unfold bst6; rw [if_neg (by simp [hp])]
        rw [e3] at HN hl
        clear hp e3
        generalize dbl r = y at *
        go_wp2
        go_round
        case rel => exact ⟨i + 1, y, by omega, by go_num, rfl, hl, HN⟩
        case measure => simp [intOf]; omega
    · obtain rfl : i = 8 := by omega
      go_wp2
      go_ret
      have := HR.out
      simp only [Nat.sub_self, itb6] at this
      exact ⟨by rw [← this]; rfl, rfl⟩

theorem octs_snoc (l : List Nat) (x : Nat) : octs (l ++ [x]) = octs l ++ oct x := by simp [octs]
theorem oct_len (x : Nat) : (oct x).length = 8 := by simp [oct]
theorem oct_at (x j : Nat) (hj : j < 8) : (oct x)[j]? = some (x / 256 ^ j % 256) := by simp [oct, hj]
theorem shr_at (x j : Nat) (hj : j < 8) : (x : Int) / 2 ^ (8 * j) % 256 = ((x / 256 ^ j % 256 : Nat) : Int) := by
  have : ∀ i < 8, (2 : Int) ^ (8 * i) = ((256 ^ i : Nat) : Int) := by decide
  rw [this j hj]
  norm_cast

set_option maxHeartbeats 2000000 in
theorem octets_ {w : World} {A : Option Addr} {l : List Nat} (h : Rk .u64 w A (ints l)) (hl : ∀ x ∈ l, x < 18446744073709551616) (c : Nat) (hn : l.length ≤ 1000000000) :
    Calls Tryz.prog 185 #[.slice A l.length c] w fun e w' => ∃ v, e = .returned v ∧ w'.ownsRow w.heap.size 5 1 v (8 * l.length) (ivs .u8 (ints (octs l))) ∧ Below w.heap.size w w' := by
  have H := Lib.hid h
  have HL := Lib.hid hl
  obtain ⟨n, hnn⟩ : ∃ n, n = l.length := ⟨_, rfl⟩
  rw [← hnn]
  rw [← hnn] at hn
  have HN := Lib.hid hnn
  clear h hl hnn
  obtain ⟨i0, hinf, hz0, hz1, hz2⟩ := info_parts (show (Tryz.prog.info? 5).map (fun i => (i.zero, i.size, i.bytes)) = some (some (.int .u8 0), 1, 1) by kernel_rfl)
  go_enter Tryz.func185, Tryz.ntmps185
  go_wp2_with fail
  go_loopw [9, 3] (fun c9 c3 wr => ∃ i : Nat, i ≤ n ∧ c9 = .int .i64 i ∧ Hid (Below w.heap.size w wr ∧ wr.ownsRow w.heap.size 5 1 c3 (8 * i) (ivs .u8 (ints (octs (l.take i)))))) (fun c9 _ _ => n - (intOf c9).toNat)
  case atStart => exact ⟨0, Nat.zero_le _, rfl, Below.refl _ _, own_nil0 _ _ _ _⟩
  case round =>
    obtain ⟨i, hi, rfl, HR⟩ := hrel
    by_cases hlt : i < n
    · obtain ⟨x, hx⟩ := some_at (l := l) (i := i) (by rw [← HN.out]; exact hlt)
      obtain ⟨a, rfl, -, ha⟩ := (H.out.below HR.out.1) i x (ints_get hx)
      have HX := Lib.hid (And.intro hx (HL.out x (List.mem_of_getElem? hx)))
      clear hx
      generalize wr = wA at *
      go_wp2_with fail
      go_loopw [13, 3] (fun c13 c3 wq => ∃ j : Nat, j ≤ 8 ∧ c13 = .int .i64 j ∧ Hid (Below w.heap.size w wq ∧ wq.ownsRow w.heap.size 5 1 c3 (8 * i + j) (ivs .u8 (ints (octs (l.take i) ++ (oct x).take j))))) (fun c13 _ _ => 8 - (intOf c13).toNat)
      case atStart => exact ⟨0, Nat.zero_le _, rfl, HR.out.1, by simpa using HR.out.2⟩
      case round =>
        obtain ⟨j, hj, rfl, HQ⟩ := hrel
        by_cases hl8 : j < 8
        · have hv := shr_at x j hl8
          have HB := Lib.hid (oct_at x j hl8)
          have hlt2 : x / 256 ^ j % 256 < 256 := Nat.mod_lt _ (by decide)
          generalize x / 256 ^ j % 256 = y at *
          have HOW := Lib.hid (fun o => own_kp (W' := wr.alloc o) HQ.out.2 (fun k _ hk => Below.heap_alloc _ _ k hk))
          go_wp2_with (at_builtin; refine wpList_append_own _ rfl (.tmp 16) (.tmp 22) 59 rfl w.heap.size 5 i0 (.int .u8 0) 1 1 Tryz.underlying59 hinf hz0 hz1 hz2 rfl (by decide) _ (8 * i + j) _ rfl (HOW.out _) ⟨wr.heap.size, 0, none⟩ 1 1 [.int .u8 y] rfl rfl (one_at _ _ _) (by intro u hu; simp at hu; subst hu; rfl) (by unfold maxLen; omega) (by omega) (by have h1 := HQ.out.1.size; simp; omega) ?_; intro v' w7 hown' hgrow _; (have HO := Lib.hid hown'); (have HG := Lib.hid hgrow); clear hown' hgrow)
          have hx1 : Below w.heap.size w w7 := bl_grown (bl_alloc HQ.out.1 _) HG.out (own_lo HQ.out.2)
          have hx2 : w7.ownsRow w.heap.size 5 1 v' (8 * i + (j + 1)) (ivs .u8 (ints (octs (l.take i) ++ (oct x).take (j + 1)))) := by
            rw [take_next HB.out, ← List.append_assoc, ints_append, ivs_append]
            exact HO.out
          have HZ := Lib.hid (And.intro hx1 hx2)
          clear hx1 hx2
          go_roundw
          case rel => exact ⟨j + 1, by omega, by go_num, HZ.out⟩
          case measure => simp [intOf]; omega
        · obtain rfl : j = 8 := by omega
          have hz : Below w.heap.size w wr ∧ wr.ownsRow w.heap.size 5 1 u3 (8 * (i + 1)) (ivs .u8 (ints (octs (l.take (i + 1))))) := by
            refine ⟨HQ.out.1, ?_⟩
            have := HQ.out.2
            rw [List.take_of_length_le (l := oct x) (by rw [oct_len]; omega), ← octs_snoc, ← take_next HX.out.1] at this
            exact this
          have HZ := Lib.hid hz
          clear hz
          go_wp2_with fail
          go_roundw
          case rel => exact ⟨i + 1, by omega, by go_num, HZ.out⟩
          case measure => simp [intOf]; omega
    · obtain rfl : i = n := by omega
      go_wp2_with fail
      go_ret
      have h2 := HR.out.2
      rw [List.take_of_length_le (by rw [← HN.out]; omega)] at h2
      exact ⟨_, rfl, h2, HR.out.1⟩

end Go.Proofs.YtgnagbbdnlmgeaaGreat.Cc
end

/- The second chapter: the sums of parts. -/
section
set_option linter.unusedVariables false
set_option linter.unusedSimpArgs false
set_option maxHeartbeats 2000000
set_option maxRecDepth 100000
namespace Go.Proofs.YtgnagbbdnlmgeaaGreat.Cc
open Go Go.RowKit
open Go.Proofs.YtgnagbbdnlmgeaaGreat.Ob Go.Proofs.YtgnagbbdnlmgeaaGreat.Ba Go.Proofs.YtgnagbbdnlmgeaaGreat.Cr Go.Proofs.YtgnagbbdnlmgeaaGreat.C6 Go.Proofs.YtgnagbbdnlmgeaaGreat.Oc

/-- bytes, and where they lie -/
structure Part where
  A : Option Addr
  c : Nat
  l : List Nat
structure Part.Ok (k : World) (p : Part) : Prop where
  rd : Rk .u8 k p.A (ints p.l)
  lt : ∀ x ∈ p.l, x < 256
  len : p.l.length ≤ 9223372036854775807
def PsAt (w : World) (A : Option Addr) (ps : List Part) : Prop := ∀ (i : Nat) p, ps[i]? = some p → p.Ok w ∧ ∃ a, A = some a ∧ w.cell? (a.add i) = some (.slice p.A p.l.length p.c)
def allOf (ps : List Part) : List Nat := ps.flatMap (·.l)
theorem allOf_next {ps : List Part} {i : Nat} {p : Part} (h : ps[i]? = some p) : allOf (ps.take (i + 1)) = allOf (ps.take i) ++ p.l := by rw [take_next h]; simp [allOf]
theorem sumB_app (s : Nat) (a b : List Nat) : sumB s (a ++ b) = sumB (sumB s a) b := List.foldl_append ..
theorem sum6_app (s : Nat) (a b : List Nat) : sum6 s (a ++ b) = sum6 (sum6 s a) b := List.foldl_append ..
theorem sumB_one_ (s x : Nat) : sumB s [x] = stp s x := rfl
theorem sum6_one_ (s x : Nat) : sum6 s [x] = stp6 s x := rfl
theorem all_lt {w : World} {A : Option Addr} {ps : List Part} (h : PsAt w A ps) : ∀ x ∈ allOf ps, x < 256 := by
  intro x hx
  simp only [allOf, List.mem_flatMap] at hx
  obtain ⟨p, hp, hx⟩ := hx
  obtain ⟨i, hi, hpi⟩ := List.getElem_of_mem hp
  exact (h i p (by rw [List.getElem?_eq_getElem hi, hpi])).1.lt x hx

theorem sum32_ {w : World} {A : Option Addr} {ps : List Part} (h : PsAt w A ps) (c : Nat) (hn : ps.length ≤ 9223372036854775807) :
    Calls Tryz.prog 166 #[.slice A ps.length c] w fun e w' => e = .returned (.int .u32 (4294967295 - (sumB 4294967295 (allOf ps) : Nat) : Int)) ∧ w = w' := by
  have H := Lib.hid h
  have HLT := Lib.hid (all_lt h)
  obtain ⟨n, hnn⟩ : ∃ n, n = ps.length := ⟨_, rfl⟩
  rw [← hnn]
  rw [← hnn] at hn
  have HN := Lib.hid hnn
  clear h hnn
  go_enter Tryz.func166, Tryz.ntmps166
  go_wp2_with fail
  go_loop [10, 3] (fun c10 c3 => ∃ (i s : Nat), i ≤ n ∧ c10 = .int .i64 i ∧ c3 = .int .u32 s ∧ s < 4294967296 ∧ Hid (s = sumB 4294967295 (allOf (ps.take i)))) (fun c10 _ => n - (intOf c10).toNat)
  case atStart => exact ⟨0, 4294967295, Nat.zero_le _, rfl, rfl, by decide, rfl⟩
  case round =>
    obtain ⟨i, s, hi, rfl, rfl, hs, HR⟩ := hrel
    by_cases hlt : i < n
    · obtain ⟨p, hp⟩ := some_at (l := ps) (i := i) (by rw [← HN.out]; exact hlt)
      obtain ⟨hok, a, rfl, ha⟩ := H.out i p hp
      obtain ⟨o1, o2, o3⟩ := hok
      have HP := Lib.hid (And.intro hp (And.intro o1 o2))
      obtain ⟨m, hm⟩ : ∃ m, m = p.l.length := ⟨_, rfl⟩
      rw [← hm] at ha o3
      have HM := Lib.hid hm
      clear hp o1 o2 hm
      go_wp2_with fail
      go_loop [16, 3] (fun c16 c3 => ∃ (j s : Nat), j ≤ m ∧ c16 = .int .i64 j ∧ c3 = .int .u32 s ∧ s < 4294967296 ∧ Hid (s = sumB 4294967295 (allOf (ps.take i) ++ p.l.take j))) (fun c16 _ => m - (intOf c16).toNat)
      case atStart => exact ⟨0, s, Nat.zero_le _, rfl, rfl, hs, by show s = _; rw [HR.out]; simp⟩
      case round =>
        obtain ⟨j, t, hj, rfl, rfl, ht, HQ⟩ := hrel
        by_cases hl : j < m
        · obtain ⟨x, hx⟩ := some_at (l := p.l) (i := j) (by rw [← HM.out]; exact hl)
          obtain ⟨b, hb, -, hcx⟩ := HP.out.2.1 j x (ints_get hx)
          rw [hb] at ha
          have hx8 : x < 256 := HP.out.2.2 x (List.mem_of_getElem? hx)
          have HX : Hid (stp t x = sumB 4294967295 (allOf (ps.take i) ++ p.l.take (j + 1))) := by
            show stp t x = _
            rw [take_next hx, ← List.append_assoc, sumB_app, ← HQ.out]
            rfl
          have hlt2 : stp t x < 4294967296 := stp_lt t x ht hx8
          have HB := Lib.hid hb
          clear hx hb
          simp only [HB.out]
          go_wp2_with (go_at_call 187; refine (step32_ t x ht hx8 _).mono ?_; rintro e w5 ⟨rfl, rfl⟩)
          go_round
          case rel => exact ⟨j + 1, _, by omega, by go_num, rfl, hlt2, HX⟩
          case measure => simp [intOf]; omega
        · obtain rfl : j = m := by omega
          have HX : Hid (t = sumB 4294967295 (allOf (ps.take (i + 1)))) := by
            have := HQ.out
            rw [List.take_of_length_le (l := p.l) (by rw [← HM.out]; omega), ← allOf_next HP.out.1] at this
            exact this
          go_wp2_with fail
          go_round
          case rel => exact ⟨i + 1, t, by omega, by go_num, rfl, ht, HX⟩
          case measure => simp [intOf]; omega
    · obtain rfl : i = n := by omega
      have HE : Hid (s = sumB 4294967295 (allOf ps)) := by
        have := HR.out
        rw [List.take_of_length_le (l := ps) (by rw [← HN.out]; omega)] at this
        exact this
      have he : Go.bits .xor .u32 IntKind.u32.max (s : Int) = 4294967295 - (s : Int) := by
        have := bits_xor32 4294967295 s (by decide) hs
        rw [not32 s hs] at this
        refine this.trans ?_
        omega
      go_wp2_with fail
      go_ret
      exact ⟨by rw [HE.out]; rfl, rfl⟩

theorem sum16_ {w : World} {A : Option Addr} {ps : List Part} (h : PsAt w A ps) (c : Nat) (hn : ps.length ≤ 9223372036854775807) :
    Calls Tryz.prog 151 #[.slice A ps.length c] w fun e w' => e = .returned (.int .u16 (sum6 65535 (allOf ps) : Nat)) ∧ w = w' := by
  have H := Lib.hid h
  have HLT := Lib.hid (all_lt h)
  obtain ⟨n, hnn⟩ : ∃ n, n = ps.length := ⟨_, rfl⟩
  rw [← hnn]
  rw [← hnn] at hn
  have HN := Lib.hid hnn
  clear h hnn
  go_enter Tryz.func151, Tryz.ntmps151
  go_wp2_with fail
  go_loop [10, 3] (fun c10 c3 => ∃ (i s : Nat), i ≤ n ∧ c10 = .int .i64 i ∧ c3 = .int .u16 s ∧ s < 65536 ∧ Hid (s = sum6 65535 (allOf (ps.take i)))) (fun c10 _ => n - (intOf c10).toNat)
  case atStart => exact ⟨0, 65535, Nat.zero_le _, rfl, rfl, by decide, rfl⟩
  case round =>
    obtain ⟨i, s, hi, rfl, rfl, hs, HR⟩ := hrel
    by_cases hlt : i < n
    · obtain ⟨p, hp⟩ := some_at (l := ps) (i := i) (by rw [← HN.out]; exact hlt)
      obtain ⟨hok, a, rfl, ha⟩ := H.out i p hp
      obtain ⟨o1, o2, o3⟩ := hok
      have HP := Lib.hid (And.intro hp (And.intro o1 o2))
      obtain ⟨m, hm⟩ : ∃ m, m = p.l.length := ⟨_, rfl⟩
      rw [← hm] at ha o3
      have HM := Lib.hid hm
      clear hp o1 o2 hm
      go_wp2_with fail
      go_loop [16, 3] (fun c16 c3 => ∃ (j s : Nat), j ≤ m ∧ c16 = .int .i64 j ∧ c3 = .int .u16 s ∧ s < 65536 ∧ Hid (s = sum6 65535 (allOf (ps.take i) ++ p.l.take j))) (fun c16 _ => m - (intOf c16).toNat)
      case atStart => exact ⟨0, s, Nat.zero_le _, rfl, rfl, hs, by show s = _; rw [HR.out]; simp⟩
      case round =>
        obtain ⟨j, t, hj, rfl, rfl, ht, HQ⟩ := hrel
        by_cases hl : j < m
        · obtain ⟨x, hx⟩ := some_at (l := p.l) (i := j) (by rw [← HM.out]; exact hl)
          obtain ⟨b, hb, -, hcx⟩ := HP.out.2.1 j x (ints_get hx)
          rw [hb] at ha
          have hx8 : x < 256 := HP.out.2.2 x (List.mem_of_getElem? hx)
          have HX : Hid (stp6 t x = sum6 65535 (allOf (ps.take i) ++ p.l.take (j + 1))) := by
            show stp6 t x = _
            rw [take_next hx, ← List.append_assoc, sum6_app, ← HQ.out]
            rfl
          have hlt2 : stp6 t x < 65536 := stp6_lt t x ht hx8
          have HB := Lib.hid hb
          clear hx hb
          simp only [HB.out]
          go_wp2_with (go_at_call 183; refine (step16_ t x ht hx8 _).mono ?_; rintro e w5 ⟨rfl, rfl⟩)
          go_round
          case rel => exact ⟨j + 1, _, by omega, by go_num, rfl, hlt2, HX⟩
          case measure => simp [intOf]; omega
        · obtain rfl : j = m := by omega
          have HX : Hid (t = sum6 65535 (allOf (ps.take (i + 1)))) := by
            have := HQ.out
            rw [List.take_of_length_le (l := p.l) (by rw [← HM.out]; omega), ← allOf_next HP.out.1] at this
            exact this
          go_wp2_with fail
          go_round
          case rel => exact ⟨i + 1, t, by omega, by go_num, rfl, ht, HX⟩
          case measure => simp [intOf]; omega
    · obtain rfl : i = n := by omega
      have HE : Hid (s = sum6 65535 (allOf ps)) := by
        have := HR.out
        rw [List.take_of_length_le (l := ps) (by rw [← HN.out]; omega)] at this
        exact this
      go_wp2_with fail
      go_ret
      exact ⟨by rw [HE.out]; rfl, rfl⟩

theorem words32_ {w : World} {A : Option Addr} {l : List Nat} (h : Rk .u64 w A (ints l)) (hl : ∀ x ∈ l, x < 18446744073709551616) (c : Nat) (hn : l.length ≤ 1000000) :
    Calls Tryz.prog 157 #[.slice A l.length c] w fun e w' => e = .returned (.int .u32 (4294967295 - (sumB 4294967295 (octs l) : Nat) : Int)) ∧ Below w.heap.size w w' := by
  have ho := octets_ h hl c (by omega)
  have HO := Lib.hid ho
  obtain ⟨n, hnn⟩ : ∃ n, n = l.length := ⟨_, rfl⟩
  have hol := octs_length l
  have HLT := Lib.hid (octs_lt l)
  clear h hl ho
  go_enter Tryz.func157, Tryz.ntmps157
  go_wp2_with fail
  refine HO.out.mono ?_
  rintro e w1 ⟨v, rfl, hown, hb⟩
  obtain ⟨A1, c1, rfl⟩ := own_slice hown
  have hrk := own_rk hown
  have HB := Lib.hid hb
  have hps : PsAt (w1.alloc (.cells #[.slice A1 (8 * l.length) c1] 59)) (some ⟨w1.heap.size, 0, none⟩) [⟨A1, c1, octs l⟩] := by
    intro i p hp
    match i, hp with
    | 0, hp =>
      simp at hp
      subst hp
      refine ⟨⟨hrk.1.below (bl_alloc (Below.refl _ _) _), HLT.out, by simp only; omega⟩, _, rfl, ?_⟩
      simp only [hol]
      exact one_at _ _ _ 0 _ rfl
  have HPS := Lib.hid (sum32_ hps 1 (by simp))
  clear hown hb hrk hps
  go_wp2_with fail
  refine HPS.out.mono ?_
  rintro e w2 ⟨rfl, rfl⟩
  go_wp2_with fail
  go_ret
  exact ⟨by simp [allOf], bl_alloc HB.out _⟩

end Go.Proofs.YtgnagbbdnlmgeaaGreat.Cc
end

/- The third chapter's functions: numbers in words. -/
section
set_option linter.unusedVariables false
set_option linter.unusedSimpArgs false
set_option maxHeartbeats 2000000
set_option maxRecDepth 100000
namespace Go.Proofs.YtgnagbbdnlmgeaaGreat.Pk
open Go Go.RowKit
open Go.Proofs.YtgnagbbdnlmgeaaGreat.Ob Go.Proofs.YtgnagbbdnlmgeaaGreat.Ba Go.Proofs.YtgnagbbdnlmgeaaGreat.Oc

/-- a field that may be -/
structure FOk (wd v : Nat) : Prop where
  lo : 1 ≤ wd
  hi : wd ≤ 64
  lt : v < 2 ^ wd

theorem may_ (wd v : Nat) (h : FOk wd v) (w : World) : Calls Tryz.prog 182 #[.agg #[.int .i64 wd, .int .u64 v]] w fun e w' => e = .returned (.bool true) ∧ Below w.heap.size w w' := by
  have hu := Tryz.underlying215
  obtain ⟨h1, h2, h3⟩ := h
  by_cases hw : wd = 64
  · subst hw
    go_enter Tryz.func182, Tryz.ntmps182
    go_wp2
    go_ret
    exact ⟨rfl, bl_alloc (Below.refl _ _) _⟩
  · have e0 : ((wd : Int) == 64) = false := beq_eq_false_iff_ne.2 (by omega)
    have e1 : (v : Int) / 2 ^ wd = 0 := by
      have : ((v / 2 ^ wd : Nat) : Int) = 0 := by rw [Nat.div_eq_of_lt h3]; rfl
      rw [← this]
      norm_cast
    have hmin : min wd 64 = wd := by omega
    clear h3
    go_enter Tryz.func182, Tryz.ntmps182
    go_wp2
    go_ret
    exact ⟨rfl, bl_alloc (Below.refl _ _) _⟩

def FsAt (w : World) (A : Option Addr) (l : List (Nat × Nat)) : Prop := ∀ (i : Nat) p, l[i]? = some p → FOk p.1 p.2 ∧ ∃ q off, A = some ⟨q, off, none⟩ ∧ q < w.heap.size ∧ w.cell? ⟨q, off + i * 2, none⟩ = some (.int .i64 p.1) ∧ w.cell? ⟨q, off + i * 2 + 1, none⟩ = some (.int .u64 p.2)
theorem FsAt.below {w w' : World} {A : Option Addr} {l : List (Nat × Nat)} (h : FsAt w A l) (hb : Below w.heap.size w w') : FsAt w' A l := by
  intro i p hi
  obtain ⟨h0, q, off, rfl, h1, h2, h3⟩ := h i p hi
  exact ⟨h0, q, off, rfl, Nat.lt_of_lt_of_le h1 hb.size, (hb.cell (p := ⟨q, _, none⟩) h1).trans h2, (hb.cell (p := ⟨q, _, none⟩) h1).trans h3⟩

def wid (l : List (Nat × Nat)) : Nat := (l.map (·.1)).sum
def pv : List (Nat × Nat) → Nat
  | [] => 0
  | p :: r => p.2 + 2 ^ p.1 * pv r
theorem wid_snoc (l : List (Nat × Nat)) (p : Nat × Nat) : wid (l ++ [p]) = wid l + p.1 := by simp [wid]
theorem pv_snoc (l : List (Nat × Nat)) (p : Nat × Nat) : pv (l ++ [p]) = pv l + 2 ^ wid l * p.2 := by
  induction l with
  | nil => simp [pv, wid]
  | cons q l ih =>
    simp only [List.cons_append, pv, ih]
    have : wid (q :: l) = q.1 + wid l := by simp [wid]
    rw [this, Nat.pow_add, Nat.mul_add, ← Nat.mul_assoc, Nat.add_assoc]
theorem pv_lt (l : List (Nat × Nat)) (h : ∀ p ∈ l, FOk p.1 p.2) : pv l < 2 ^ wid l := by
  induction l with
  | nil => simp [pv, wid]
  | cons q l ih =>
    have h1 := (h q (by simp)).lt
    have h2 := ih (fun p hp => h p (by simp [hp]))
    have : wid (q :: l) = q.1 + wid l := by simp [wid]
    rw [this, Nat.pow_add, pv]
    have : 2 ^ q.1 * (pv l + 1) ≤ 2 ^ q.1 * 2 ^ wid l := Nat.mul_le_mul_left _ h2
    rw [Nat.mul_add] at this
    omega
theorem or_add (a v n : Nat) (ha : a < 2 ^ n) (h : a + 2 ^ n * v < 18446744073709551616) : Go.bits .or .u64 (a : Int) ((2 ^ n * v : Nat) : Int) = ((a + 2 ^ n * v : Nat) : Int) := by
  have hv : 2 ^ n * v < 18446744073709551616 := by omega
  have ha' : a < 18446744073709551616 := by omega
  have hor : a ||| 2 ^ n * v = a + 2 ^ n * v := by
    rw [Nat.or_comm, Nat.add_comm]
    exact (Nat.two_pow_add_eq_or_of_lt ha v).symm
  have hk : IntKind.u64.bits = 64 := rfl
  simp only [Go.bits, hk, BitVec.ofInt_natCast, BitVec.toNat_or, BitVec.toNat_ofNat]
  rw [show (2 : Nat) ^ 64 = 18446744073709551616 from rfl, Nat.mod_eq_of_lt ha', Nat.mod_eq_of_lt hv, hor]
  exact wu64 _ (by omega) (by omega)

theorem pack_ {w : World} {A : Option Addr} {l : List (Nat × Nat)} (h : FsAt w A l) (c : Nat) (hw : wid l ≤ 64) (hn : l.length ≤ 64) :
    Calls Tryz.prog 150 #[.slice A l.length c] w fun e w' => e = .returned (.tuple #[.int .u64 (pv l : Nat), .bool true]) ∧ Below w.heap.size w w' := by
  have hu := Tryz.underlying215
  have H := Lib.hid h
  have HO : Hid (∀ p ∈ l, FOk p.1 p.2) := by
    intro p hp
    obtain ⟨i, hi, hpi⟩ := List.getElem_of_mem hp
    exact (h i p (by rw [List.getElem?_eq_getElem hi, hpi])).1
  obtain ⟨n, hnn⟩ : ∃ n, n = l.length := ⟨_, rfl⟩
  rw [← hnn]
  rw [← hnn] at hn
  have HN := Lib.hid hnn
  have HW := Lib.hid hw
  clear h hnn hw
  go_enter Tryz.func150, Tryz.ntmps150
  go_wp2_with fail
  go_loopw [10, 4, 5] (fun c10 c4 c5 wr => ∃ i x t : Nat, i ≤ n ∧ c10 = .int .i64 i ∧ c4 = .int .u64 x ∧ c5 = .int .i64 t ∧ t ≤ 64 ∧ Hid (x = pv (l.take i) ∧ t = wid (l.take i) ∧ Below w.heap.size w wr)) (fun c10 _ _ _ => n - (intOf c10).toNat)
  case atStart => exact ⟨0, 0, 0, Nat.zero_le _, rfl, rfl, rfl, by omega, rfl, rfl, Below.refl _ _⟩
  case round =>
    obtain ⟨i, x, t, hi, rfl, rfl, rfl, ht, HR⟩ := hrel
    by_cases hlt : i < n
    · obtain ⟨⟨wd, v⟩, hp⟩ := some_at (l := l) (i := i) (by rw [← HN.out]; exact hlt)
      obtain ⟨hok, q, off, rfl, hq, e1, e2⟩ := (H.out.below HR.out.2.2) i _ hp
      have hok' := hok
      obtain ⟨h1, h2, h3⟩ := hok
      have hle : t + wd ≤ 64 := by
        have h4 : wid (l.take (i + 1)) ≤ wid l := by
          have : wid l = wid (l.take (i + 1)) + wid (l.drop (i + 1)) := by
            unfold wid
            rw [← List.sum_append, ← List.map_append, List.take_append_drop]
          omega
        rw [take_next hp, wid_snoc, ← HR.out.2.1] at h4
        have := HW.out
        simp only at h4
        omega
      have hx : x < 2 ^ t := by
        have := pv_lt (l.take i) (fun p hp => HO.out p (List.mem_of_mem_take hp))
        rw [← HR.out.1, ← HR.out.2.1] at this
        exact this
      simp only at e1 e2
      have hlim : 2 ^ t * v < 2 ^ 64 := by
        have h5 : 2 ^ t * v < 2 ^ t * 2 ^ wd := Nat.mul_lt_mul_of_pos_left h3 (Nat.two_pow_pos t)
        rw [← Nat.pow_add] at h5
        exact Nat.lt_of_lt_of_le h5 (Nat.pow_le_pow_right (by omega) hle)
      have hsum : x + 2 ^ t * v < 2 ^ 64 := by
        have h5 : 2 ^ t * (v + 1) ≤ 2 ^ t * 2 ^ wd := Nat.mul_le_mul_left _ h3
        rw [← Nat.pow_add] at h5
        have h6 : 2 ^ (t + wd) ≤ 2 ^ 64 := Nat.pow_le_pow_right (by omega) hle
        rw [Nat.mul_add] at h5
        omega
      have hwr : IntKind.u64.wrap ((v : Int) * 2 ^ t) = ((2 ^ t * v : Nat) : Int) := by
        have e : (v : Int) * 2 ^ t = ((2 ^ t * v : Nat) : Int) := by rw [Nat.mul_comm]; norm_cast
        rw [e]
        exact wu64 _ (by omega) (by have : (2 : Nat) ^ 64 = 18446744073709551616 := rfl; omega)
      have hor := or_add x v t hx hsum
      have HZ : Hid (x + 2 ^ t * v = pv (l.take (i + 1)) ∧ t + wd = wid (l.take (i + 1))) := by
        refine ⟨?_, ?_⟩
        · rw [take_next hp, pv_snoc, ← HR.out.1, ← HR.out.2.1]
        · rw [take_next hp, wid_snoc, ← HR.out.2.1]
      have HK := Lib.hid hok'
      have HWR := Lib.hid (hwr.symm ▸ hor)
      clear hp hok' h3 hq hx hlim hsum hwr hor
      go_wp2_with (go_at_call 182; refine (may_ wd v HK.out _).mono ?_; rintro e w5 ⟨rfl, hb⟩; (obtain ⟨hc, hf⟩ := bcell hb); (have HB := Lib.hid hb); clear hb)
      go_roundw
      case rel => exact ⟨i + 1, _, t + wd, by omega, by go_num, congrArg (Value.int IntKind.u64) HWR.out, by go_num, hle, HZ.out.1, HZ.out.2, bl_then (bl_alloc HR.out.2.2 _) HB.out⟩
      case measure => simp [intOf]; omega
    · obtain rfl : i = n := by omega
      go_wp2_with fail
      go_ret2
      have e : l.take i = l := List.take_of_length_le (by rw [← HN.out]; omega)
      have h1 := HR.out.1
      rw [e] at h1
      exact ⟨by rw [← h1]; rfl, HR.out.2.2⟩

end Go.Proofs.YtgnagbbdnlmgeaaGreat.Pk
end

/- The third chapter's functions: a word in fields. -/
section
set_option linter.unusedVariables false
set_option linter.unusedSimpArgs false
set_option maxHeartbeats 2000000
set_option maxRecDepth 100000
namespace Go.Proofs.YtgnagbbdnlmgeaaGreat.Pk
open Go Go.RowKit
open Go.Proofs.YtgnagbbdnlmgeaaGreat.Ob Go.Proofs.YtgnagbbdnlmgeaaGreat.Ba Go.Proofs.YtgnagbbdnlmgeaaGreat.Oc

/-- a word in fields -/
def spl : Nat → List Nat → List Nat
  | _, [] => []
  | x, n :: r => (x % 2 ^ n) :: spl (x / 2 ^ n) r
theorem spl_len (x : Nat) (l : List Nat) : (spl x l).length = l.length := by
  induction l generalizing x with
  | nil => rfl
  | cons n l ih => simp [spl, ih]
theorem spl_snoc (x : Nat) (l : List Nat) (n : Nat) : spl x (l ++ [n]) = spl x l ++ [x / 2 ^ l.sum % 2 ^ n] := by
  induction l generalizing x with
  | nil => simp [spl]
  | cons m l ih =>
    simp only [List.cons_append, spl, ih, List.sum_cons, Nat.div_div_eq_div_mul, Nat.pow_add]

theorem shl_shr (x n : Nat) (hx : x < 18446744073709551616) (hn : n ≤ 64) : IntKind.u64.wrap ((x : Int) * 2 ^ (64 - n)) / 2 ^ (64 - n) = ((x % 2 ^ n : Nat) : Int) := by
  have e : (x : Int) * 2 ^ (64 - n) = ((x * 2 ^ (64 - n) : Nat) : Int) := by norm_cast
  have hw : IntKind.u64.wrap ((x * 2 ^ (64 - n) : Nat) : Int) = ((x * 2 ^ (64 - n) % 18446744073709551616 : Nat) : Int) := by
    simp [IntKind.wrap, IntKind.bits, IntKind.signed]
  rw [e, hw]
  have h2 : (18446744073709551616 : Nat) = 2 ^ n * 2 ^ (64 - n) := by rw [← Nat.pow_add, show n + (64 - n) = 64 from by omega]
  have h3 : x * 2 ^ (64 - n) % 18446744073709551616 = x % 2 ^ n * 2 ^ (64 - n) := by rw [h2, Nat.mul_mod_mul_right]
  rw [h3]
  have h4 : (x % 2 ^ n * 2 ^ (64 - n)) / 2 ^ (64 - n) = x % 2 ^ n := Nat.mul_div_cancel _ (Nat.two_pow_pos _)
  refine Eq.trans ?_ (congrArg (fun z : Nat => (z : Int)) h4)
  norm_cast

theorem split_ {w : World} {A : Option Addr} {ws : List Nat} (h : Rk .i64 w A (ints ws)) (x : Nat) (hx : x < 18446744073709551616) (c : Nat) (hlo : ∀ n ∈ ws, 1 ≤ n) (hs : ws.sum ≤ 64) (hn : ws.length ≤ 64) :
    Calls Tryz.prog 133 #[.int .u64 x, .slice A ws.length c] w fun e w' => ∃ v, e = .returned (.tuple #[v, .bool (decide (x / 2 ^ ws.sum = 0))]) ∧ (x / 2 ^ ws.sum = 0 → w'.ownsRow w.heap.size 94 1 v ws.length (ivs .u64 (ints (spl x ws)))) ∧ Below w.heap.size w w' := by
  have H := Lib.hid h
  have HLO := Lib.hid hlo
  have HSU := Lib.hid hs
  obtain ⟨m, hnn⟩ : ∃ m, m = ws.length := ⟨_, rfl⟩
  rw [← hnn]
  rw [← hnn] at hn
  have HN := Lib.hid hnn
  clear h hlo hs hnn
  obtain ⟨x0, hx0⟩ : ∃ x0, x0 = x := ⟨_, rfl⟩
  have HX0 := Lib.hid hx0
  obtain ⟨i0, hinf, hz0, hz1, hz2⟩ := info_parts (show (Tryz.prog.info? 94).map (fun i => (i.zero, i.size, i.bytes)) = some (some (.int .u64 0), 1, 8) by kernel_rfl)
  clear hx0
  go_enter Tryz.func133, Tryz.ntmps133
  go_wp2_with fail
  go_loopw [12, 0, 6, 7] (fun c12 c0 c6 c7 wr => ∃ i y t : Nat, i ≤ m ∧ c12 = .int .i64 i ∧ c0 = .int .u64 y ∧ c7 = .int .i64 ((64 - t : Nat) : Int) ∧ t ≤ 64 ∧ y < 18446744073709551616 ∧ Hid (t = (ws.take i).sum ∧ y = x0 / 2 ^ t ∧ Below w.heap.size w wr ∧ wr.ownsRow w.heap.size 94 1 c6 i (ivs .u64 (ints (spl x0 (ws.take i)))))) (fun c12 _ _ _ _ => m - (intOf c12).toNat)
  case atStart => exact ⟨0, x, 0, Nat.zero_le _, rfl, rfl, rfl, by omega, hx, rfl, by rw [HX0.out]; simp, Below.refl _ _, own_nil0 _ _ _ _⟩
  case round =>
    obtain ⟨i, y, t, hi, rfl, rfl, rfl, ht, hy, HR⟩ := hrel
    by_cases hlt : i < m
    · obtain ⟨n, hp⟩ := some_at (l := ws) (i := i) (by rw [← HN.out]; exact hlt)
      obtain ⟨a, rfl, hq, e1⟩ := (H.out.below HR.out.2.2.1) i _ (ints_get hp)
      have hn1 := HLO.out n (List.mem_of_getElem? hp)
      have hsum : t + n = (ws.take (i + 1)).sum := by rw [take_next hp, List.sum_append, ← HR.out.1]; simp
      have hle : t + n ≤ 64 := by
        have : ws.sum = (ws.take (i + 1)).sum + (ws.drop (i + 1)).sum := by rw [← List.sum_append, List.take_append_drop]
        have := HSU.out
        omega
      have HP := Lib.hid (And.intro hp hsum)
      clear hp hsum hq
      have hc1 : ((64 - t : Nat) : Int) = 64 - (t : Int) := by omega
      have HOW := Lib.hid (fun o => own_kp (W' := wr.alloc o) HR.out.2.2.2 (fun k _ hk => Below.heap_alloc _ _ k hk))
      have hv := shl_shr y n hy (by omega)
      have hv2 : (y : Int) / 2 ^ n = ((y / 2 ^ n : Nat) : Int) := by norm_cast
      have hy2 : y / 2 ^ n < 18446744073709551616 := Nat.lt_of_le_of_lt (Nat.div_le_self _ _) hy
      have hm : y % 2 ^ n < 18446744073709551616 := Nat.lt_of_le_of_lt (Nat.mod_le _ _) hy
      have HS : Hid (spl x0 (ws.take (i + 1)) = spl x0 (ws.take i) ++ [y % 2 ^ n] ∧ y / 2 ^ n = x0 / 2 ^ (t + n)) := by
        refine ⟨?_, ?_⟩
        · rw [take_next HP.out.1, spl_snoc, ← HR.out.1, ← HR.out.2.1]
        · rw [HR.out.2.1, Nat.div_div_eq_div_mul, Nat.pow_add]
      generalize y % 2 ^ n = r at *
      generalize y / 2 ^ n = y2 at *
      go_wp2_with (at_builtin; refine wpList_append_own _ rfl (.tmp 23) (.tmp 31) 22 rfl w.heap.size 94 i0 (.int .u64 0) 1 8 Tryz.underlying22 hinf hz0 hz1 hz2 rfl (by decide) _ i _ rfl (HOW.out _) ⟨wr.heap.size, 0, none⟩ 1 1 [.int .u64 r] rfl rfl (one_at _ _ _) (by intro u hu; simp at hu; subst hu; rfl) (by unfold maxLen; omega) (by omega) (by have h1 := HR.out.2.2.1.size; simp; omega) ?_; intro v' w7 hown' hgrow _; (have HO := Lib.hid hown'); (have HG := Lib.hid hgrow); clear hown' hgrow)
      have HZ : Hid (Below w.heap.size w w7 ∧ w7.ownsRow w.heap.size 94 1 v' (i + 1) (ivs .u64 (ints (spl x0 (ws.take (i + 1)))))) := by
        refine ⟨bl_grown (bl_alloc HR.out.2.2.1 _) HG.out (own_lo HR.out.2.2.2), ?_⟩
        rw [HS.out.1, ints_append, ivs_append]
        exact HO.out
      go_roundw
      case rel => exact ⟨i + 1, y2, t + n, by omega, by go_num, rfl, congrArg (Value.int IntKind.i64) (by omega), hle, hy2, HP.out.2, HS.out.2, HZ.out⟩
      case measure => simp [intOf]; omega
    · obtain rfl : i = m := by omega
      have e : ws.take i = ws := List.take_of_length_le (by rw [← HN.out]; omega)
      have h2 := HR.out
      rw [e] at h2
      have HE := Lib.hid h2
      clear h2 e
      by_cases hz : y = 0
      · have e1 : ((y : Int) != 0) = false := by simp [hz]
        have HZ : Hid (x / 2 ^ ws.sum = 0) := by
          show _ = _
          rw [← HX0.out, ← HE.out.1, ← HE.out.2.1]; exact hz
        clear hz
        go_wp2_with fail
        go_ret2
        refine ⟨_, by rw [decide_eq_true HZ.out]; rfl, fun _ => ?_, HE.out.2.2.1⟩
        have := HE.out.2.2.2
        rw [HX0.out] at this
        exact this
      · have e1 : ((y : Int) != 0) = true := by rw [bne_iff_ne]; omega
        have HZ : Hid (x / 2 ^ ws.sum ≠ 0) := by
          show _ ≠ _
          rw [← HX0.out, ← HE.out.1, ← HE.out.2.1]; exact hz
        clear hz
        go_wp2_with fail
        go_ret2
        exact ⟨_, by rw [decide_eq_false HZ.out]; rfl, fun h => absurd h HZ.out, HE.out.2.2.1⟩

end Go.Proofs.YtgnagbbdnlmgeaaGreat.Pk
end

/- Bytes in words: plain, and the third chapter's function. -/
section
set_option linter.unusedVariables false
set_option linter.unusedSimpArgs false
set_option maxHeartbeats 2000000
set_option maxRecDepth 100000
namespace Go.Proofs.YtgnagbbdnlmgeaaGreat.Pk
open Go Go.RowKit
open Go.Proofs.YtgnagbbdnlmgeaaGreat.Ob Go.Proofs.YtgnagbbdnlmgeaaGreat.Ba Go.Proofs.YtgnagbbdnlmgeaaGreat.Oc

def by_ (b : List Nat) (i k : Nat) : Nat := b.getD (8 * i + k) 0
/-- the i-th word -/
def wd8 (b : List Nat) (i : Nat) : Nat := by_ b i 0 + 256 * by_ b i 1 + 65536 * by_ b i 2 + 16777216 * by_ b i 3 + 4294967296 * by_ b i 4 + 1099511627776 * by_ b i 5 + 281474976710656 * by_ b i 6 + 72057594037927936 * by_ b i 7
def wds (b : List Nat) : List Nat := (List.range ((b.length + 7) / 8)).map (wd8 b)
theorem wds_len (b : List Nat) : (wds b).length = (b.length + 7) / 8 := by simp [wds]

theorem by_lt {b : List Nat} (h : ∀ x ∈ b, x < 256) (i k : Nat) : by_ b i k < 256 := by
  unfold by_
  rw [List.getD_eq_getElem?_getD]
  cases hb : b[8 * i + k]? with
  | none => simp
  | some x => exact h x (List.mem_of_getElem? hb)
theorem by_take (b : List Nat) (n i k : Nat) : by_ (b.take n) i k = if 8 * i + k < n then by_ b i k else 0 := by
  unfold by_
  rw [List.getD_eq_getElem?_getD, List.getD_eq_getElem?_getD, List.getElem?_take]
  split <;> simp
theorem by_take2 (b : List Nat) (q n k : Nat) : by_ (b.take (8 * q + n)) q k = if k < n then by_ b q k else 0 := by
  rw [by_take]
  by_cases h : k < n
  · rw [if_pos (by omega), if_pos h]
  · rw [if_neg (by omega), if_neg h]
theorem wd8_lt {b : List Nat} (h : ∀ x ∈ b, x < 256) (i : Nat) : wd8 b i < 18446744073709551616 := by
  have h0 := by_lt h i 0
  have h1 := by_lt h i 1
  have h2 := by_lt h i 2
  have h3 := by_lt h i 3
  have h4 := by_lt h i 4
  have h5 := by_lt h i 5
  have h6 := by_lt h i 6
  have h7 := by_lt h i 7
  unfold wd8
  omega
theorem wd8_old (b : List Nat) (n i m : Nat) (h : 8 * i + 8 ≤ n) (h2 : n ≤ m) : wd8 (b.take m) i = wd8 (b.take n) i := by
  unfold wd8
  simp only [by_take]
  rw [if_pos (by omega), if_pos (by omega), if_pos (by omega), if_pos (by omega), if_pos (by omega), if_pos (by omega), if_pos (by omega), if_pos (by omega), if_pos (by omega), if_pos (by omega), if_pos (by omega), if_pos (by omega), if_pos (by omega), if_pos (by omega), if_pos (by omega), if_pos (by omega)]
theorem wd8_new {b : List Nat} (h : ∀ x ∈ b, x < 256) (q r x : Nat) (hr : r < 8) (hx : b[8 * q + r]? = some x) :
    wd8 (b.take (8 * q + r + 1)) q = wd8 (b.take (8 * q + r)) q + 2 ^ (8 * r) * x ∧ wd8 (b.take (8 * q + r)) q < 2 ^ (8 * r) := by
  have hb : by_ b q r = x := by unfold by_; rw [List.getD_eq_getElem?_getD, hx]; rfl
  have h0 := by_lt h q 0
  have h1 := by_lt h q 1
  have h2 := by_lt h q 2
  have h3 := by_lt h q 3
  have h4 := by_lt h q 4
  have h5 := by_lt h q 5
  have h6 := by_lt h q 6
  have h7 := by_lt h q 7
  unfold wd8
  rw [Nat.add_assoc (8 * q) r 1]
  simp only [by_take2]
  match r, hr with
  | 0, _ => rw [← hb]; simp
  | 1, _ => rw [← hb]; simp; omega
  | 2, _ => rw [← hb]; simp; omega
  | 3, _ => rw [← hb]; simp; omega
  | 4, _ => rw [← hb]; simp; omega
  | 5, _ => rw [← hb]; simp; omega
  | 6, _ => rw [← hb]; simp; omega
  | 7, _ => rw [← hb]; simp; omega

theorem wds_get (b : List Nat) (i : Nat) : (wds b)[i]? = if i < (b.length + 7) / 8 then some (wd8 b i) else none := by
  unfold wds
  rw [List.getElem?_map]
  by_cases h : i < (b.length + 7) / 8
  · rw [List.getElem?_range h, if_pos h]; rfl
  · rw [if_neg h, List.getElem?_eq_none (by simp; omega)]; rfl

theorem wds_first {b : List Nat} (h : ∀ x ∈ b, x < 256) (q x : Nat) (hx : b[8 * q]? = some x) : wds (b.take (8 * q + 1)) = wds (b.take (8 * q)) ++ [x] := by
  obtain ⟨hi, _⟩ := List.getElem?_eq_some_iff.1 hx
  have hn := wd8_new h q 0 x (by omega) hx
  apply List.ext_getElem?
  intro i
  rw [wds_get, List.length_take, Nat.min_eq_left (by omega)]
  by_cases hq : i < q
  · rw [if_pos (by omega), List.getElem?_append_left (by rw [wds_len, List.length_take]; omega), wds_get, List.length_take, Nat.min_eq_left (by omega), if_pos (by omega), wd8_old b (8 * q) i _ (by omega) (by omega)]
  · rw [List.getElem?_append_right (by rw [wds_len, List.length_take]; omega), wds_len, List.length_take, Nat.min_eq_left (by omega)]
    by_cases hqe : i = q
    · subst hqe
      rw [if_pos (by omega), show i - (8 * i + 7) / 8 = 0 from by omega]
      have h1 := hn.1
      have h2 := hn.2
      simp only [Nat.add_zero] at h1 h2
      rw [h1]
      simp only [Nat.mul_zero, Nat.pow_zero, Nat.one_mul] at h2 ⊢
      rw [show wd8 (b.take (8 * i)) i = 0 from by omega]
      simp
    · rw [if_neg (by omega), List.getElem?_eq_none (by simp; omega)]
theorem wds_next {b : List Nat} (h : ∀ x ∈ b, x < 256) (q r x : Nat) (hr : r < 8) (h0 : 0 < r) (hx : b[8 * q + r]? = some x) : wds (b.take (8 * q + r + 1)) = (wds (b.take (8 * q + r))).set q (wd8 (b.take (8 * q + r)) q + 2 ^ (8 * r) * x) := by
  obtain ⟨hi, _⟩ := List.getElem?_eq_some_iff.1 hx
  have hn := wd8_new h q r x hr hx
  apply List.ext_getElem?
  intro i
  rw [List.getElem?_set, wds_get, wds_get, wds_len, List.length_take, List.length_take, Nat.min_eq_left (by omega), Nat.min_eq_left (by omega)]
  by_cases hq : q = i
  · subst hq
    rw [if_pos (by omega), if_pos rfl, if_pos (by omega), hn.1]
  · rw [if_neg hq]
    by_cases hq2 : i < q
    · rw [if_pos (by omega), if_pos (by omega), wd8_old b (8 * q + r) i _ (by omega) (by omega)]
    · rw [if_neg (by omega), if_neg (by omega)]

end Go.Proofs.YtgnagbbdnlmgeaaGreat.Pk
end
