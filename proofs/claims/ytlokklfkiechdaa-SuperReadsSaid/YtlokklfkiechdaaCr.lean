/- The sum of 32 bits as a function on numbers; it is one to one in each byte and in what was there before. No program is named. -/
import Derived.Laws.BitsLemmas
set_option linter.unusedVariables false
set_option linter.unusedSimpArgs false
namespace Go.Proofs.Ytlokklfkiechdaa.Cr
open Go

def P32 : Nat := 3988292384
def bst (r : Nat) : Nat := if r % 2 = 1 then (r / 2) ^^^ P32 else r / 2
def rbit (r b : Nat) : Nat := if b = r % 2 then r / 2 else (r / 2) ^^^ P32
def itb : Nat → Nat → Nat
  | 0, r => r
  | n + 1, r => itb n (bst r)
def itr : Nat → Nat → Nat → Nat
  | 0, r, _ => r
  | n + 1, r, x => itr n (rbit r (x % 2)) (x / 2)
def stp (s x : Nat) : Nat := itb 8 (s ^^^ x)
def sumB (s : Nat) (l : List Nat) : Nat := l.foldl stp s

theorem xor_half (a b : Nat) : (a ^^^ b) / 2 = a / 2 ^^^ b / 2 := by
  apply Nat.eq_of_testBit_eq
  intro i
  simp [Nat.testBit_div_two, Nat.testBit_xor]
theorem xor_par (a b : Nat) : (a ^^^ b) % 2 = (a + b) % 2 := by
  have h := Nat.testBit_xor a b 0
  simp only [Nat.testBit_zero] at h
  have h1 : (a ^^^ b) % 2 < 2 := Nat.mod_lt _ (by decide)
  have h2 : a % 2 < 2 := Nat.mod_lt _ (by decide)
  have h3 : b % 2 < 2 := Nat.mod_lt _ (by decide)
  by_cases e1 : a % 2 = 1
  · by_cases e2 : b % 2 = 1
    · rw [decide_eq_true e1, decide_eq_true e2, Bool.xor_self, decide_eq_false_iff_not] at h
      omega
    · rw [decide_eq_true e1, decide_eq_false e2, Bool.xor_false, decide_eq_true_iff] at h
      omega
  · by_cases e2 : b % 2 = 1
    · rw [decide_eq_false e1, decide_eq_true e2, Bool.false_xor, decide_eq_true_iff] at h
      omega
    · rw [decide_eq_false e1, decide_eq_false e2, Bool.xor_self, decide_eq_false_iff_not] at h
      omega
theorem bst_xor (r x : Nat) : bst (r ^^^ x) = rbit r (x % 2) ^^^ (x / 2) := by
  unfold bst rbit
  rw [xor_par, xor_half]
  by_cases h : x % 2 = r % 2
  · rw [if_neg (by omega), if_pos h]
  · rw [if_pos (by omega), if_neg h, Nat.xor_assoc, Nat.xor_assoc, Nat.xor_comm (x / 2)]
theorem itb_xor : ∀ (n r x : Nat), itb n (r ^^^ x) = itr n r x ^^^ (x / 2 ^ n)
  | 0, r, x => by simp [itb, itr]
  | n + 1, r, x => by
    simp only [itb, itr]
    rw [bst_xor, itb_xor n, Nat.div_div_eq_div_mul, Nat.pow_succ, Nat.mul_comm 2]
theorem stp_eq (s x : Nat) (hx : x < 256) : stp s x = itr 8 s x := by
  unfold stp
  rw [itb_xor, show x / 2 ^ 8 = 0 from Nat.div_eq_of_lt (by omega), Nat.xor_zero]

theorem bst_lt (r : Nat) (h : r < 4294967296) : bst r < 4294967296 := by
  unfold bst
  split
  · exact Nat.xor_lt_two_pow (n := 32) (by omega) (by decide)
  · omega
theorem bst_top (r : Nat) (h : r < 4294967296) : (bst r).testBit 31 = decide (r % 2 = 1) := by
  have hz : (r / 2).testBit 31 = false := Nat.testBit_lt_two_pow (by omega)
  unfold bst
  split
  · rename_i h1
    rw [Nat.testBit_xor, hz, h1]
    decide
  · rename_i h1
    rw [hz]
    simp [h1]
theorem xor_cancel {a b c : Nat} (h : a ^^^ c = b ^^^ c) : a = b := by
  have := congrArg (· ^^^ c) h
  simpa [Nat.xor_assoc, Nat.xor_self] using this
theorem bst_inj {r r' : Nat} (h : r < 4294967296) (h' : r' < 4294967296) (e : bst r = bst r') : r = r' := by
  have ht := bst_top r h
  rw [e, bst_top r' h'] at ht
  have hp : r % 2 = r' % 2 := by
    have h1 : r % 2 < 2 := Nat.mod_lt _ (by decide)
    have h2 : r' % 2 < 2 := Nat.mod_lt _ (by decide)
    by_cases c1 : r % 2 = 1 <;> by_cases c2 : r' % 2 = 1 <;> simp [c1, c2] at ht <;> omega
  unfold bst at e
  have hq : r / 2 = r' / 2 := by
    by_cases c1 : r % 2 = 1
    · rw [if_pos c1, if_pos (by omega)] at e
      exact xor_cancel e
    · rw [if_neg c1, if_neg (by omega)] at e
      exact e
  omega
theorem itb_lt : ∀ (n r : Nat), r < 4294967296 → itb n r < 4294967296
  | 0, _, h => h
  | n + 1, r, h => itb_lt n _ (bst_lt r h)
theorem itb_inj : ∀ (n r r' : Nat), r < 4294967296 → r' < 4294967296 → itb n r = itb n r' → r = r'
  | 0, _, _, _, _, e => e
  | n + 1, r, r', h, h', e => bst_inj h h' (itb_inj n _ _ (bst_lt r h) (bst_lt r' h') e)
theorem xor_lt32 {a b : Nat} (h : a < 4294967296) (h' : b < 4294967296) : a ^^^ b < 4294967296 := Nat.xor_lt_two_pow (n := 32) h h'
theorem stp_lt (s x : Nat) (h : s < 4294967296) (h' : x < 256) : stp s x < 4294967296 := itb_lt 8 _ (xor_lt32 h (by omega))
theorem stp_inj {s s' x x' : Nat} (h : s < 4294967296) (h' : s' < 4294967296) (hx : x < 256) (hx' : x' < 256) (e : stp s x = stp s' x') : s ^^^ x = s' ^^^ x' :=
  itb_inj 8 _ _ (xor_lt32 h (by omega)) (xor_lt32 h' (by omega)) e
theorem sumB_lt : ∀ (l : List Nat) (s : Nat), s < 4294967296 → (∀ x ∈ l, x < 256) → sumB s l < 4294967296
  | [], _, h, _ => h
  | x :: l, s, h, hl => sumB_lt l _ (stp_lt s x h (hl x (by simp))) (fun y hy => hl y (by simp [hy]))
theorem sumB_inj : ∀ (l : List Nat) (s s' : Nat), s < 4294967296 → s' < 4294967296 → (∀ x ∈ l, x < 256) → sumB s l = sumB s' l → s = s'
  | [], _, _, _, _, _, e => e
  | x :: l, s, s', h, h', hl, e => by
    have hx := hl x (by simp)
    have := sumB_inj l _ _ (stp_lt s x h hx) (stp_lt s' x h' hx) (fun y hy => hl y (by simp [hy])) e
    exact xor_cancel (stp_inj h h' hx hx this)
/-- Lists that differ in just one byte have not one sum. -/
theorem sumB_one (pre post : List Nat) (x x' s : Nat) (h : s < 4294967296) (hp : ∀ y ∈ pre, y < 256) (hq : ∀ y ∈ post, y < 256) (hx : x < 256) (hx' : x' < 256)
    (e : sumB s (pre ++ x :: post) = sumB s (pre ++ x' :: post)) : x = x' := by
  unfold sumB at e
  rw [List.foldl_append, List.foldl_append] at e
  have hs := sumB_lt pre s h hp
  unfold sumB at hs
  have := sumB_inj post _ _ (stp_lt _ x hs hx) (stp_lt _ x' hs hx') hq e
  have := stp_inj hs hs hx hx' this
  rw [Nat.xor_comm _ x, Nat.xor_comm _ x'] at this
  exact xor_cancel this

/-! ### on integers -/
theorem bits_xor32 (a b : Nat) (ha : a < 4294967296) (hb : b < 4294967296) : bits .xor .u32 a b = ((a ^^^ b : Nat) : Int) := by
  have ha' : a % 4294967296 = a := Nat.mod_eq_of_lt ha
  have hb' : b % 4294967296 = b := Nat.mod_eq_of_lt hb
  have hl := xor_lt32 ha hb
  have hk : IntKind.u32.bits = 32 := rfl
  simp only [bits, hk, BitVec.ofInt_natCast, BitVec.toNat_xor, BitVec.toNat_ofNat]
  rw [show (2 : Nat) ^ 32 = 4294967296 from rfl, ha', hb', IntKind.wrap_u32]
  omega
theorem bits_and1 (a : Nat) (ha : a < 4294967296) : bits .and .u32 a 1 = ((a % 2 : Nat) : Int) := by
  have := bits_mask .u32 32 (by decide) (fun n h0 h1 => by rw [IntKind.wrap_u32]; omega) 1 (by decide) a (by omega) (by omega)
  simpa using this
theorem not32 (x : Nat) (h : x < 4294967296) : 4294967295 ^^^ x = 4294967295 - x := by
  apply Nat.eq_of_testBit_eq
  intro i
  have h1 := Nat.testBit_two_pow_sub_succ (n := 32) (x := x) (by omega) i
  have h2 := Nat.testBit_two_pow_sub_succ (n := 32) (x := 0) (by omega) i
  rw [Nat.testBit_xor]
  rw [show (4294967295 : Nat) - x = 2 ^ 32 - (x + 1) from by omega, h1]
  rw [show (4294967295 : Nat) = 2 ^ 32 - (0 + 1) from by omega, h2]
  by_cases hi : i < 32
  · simp [hi]
  · have : x.testBit i = false := Nat.testBit_lt_two_pow (Nat.lt_of_lt_of_le h (by
      have : 2 ^ 32 ≤ 2 ^ i := Nat.pow_le_pow_right (by decide) (by omega)
      omega))
    simp [hi, this]

end Go.Proofs.Ytlokklfkiechdaa.Cr
