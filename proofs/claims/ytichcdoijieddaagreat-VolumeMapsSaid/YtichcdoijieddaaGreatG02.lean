/- Parts of the proof, one behind the other: C6, Oc, Cd, Pk, Wd, We, R0, R1. -/
import Derived.Test.YtichcdoijieddaaGreatG01
import Derived.RegionTactic
import Derived.ChangeAlike
import Derived.BigRegion

/- The sum of 16 bits, plain. -/
section
set_option linter.unusedVariables false
set_option linter.unusedSimpArgs false
namespace Go.Proofs.YtichcdoijieddaaGreat.C6
open Go Go.Proofs.YtichcdoijieddaaGreat.Cr

def P16 : Nat := 4129
def dbl (r : Nat) : Nat := 2 * r % 65536
def bst6 (r : Nat) : Nat := if r.testBit 15 then dbl r ^^^ P16 else dbl r
def rbit6 (r : Nat) (b : Bool) : Nat := if b = r.testBit 15 then dbl r else dbl r ^^^ P16
def itb6 : Nat → Nat → Nat
  | 0, r => r
  | n + 1, r => itb6 n (bst6 r)
def itr6 : Nat → Nat → Nat → Nat
  | 0, r, _ => r
  | n + 1, r, y => itr6 n (rbit6 r (y.testBit 15)) (dbl y)
def dbls : Nat → Nat → Nat
  | 0, y => y
  | n + 1, y => dbls n (dbl y)
def stp6 (s x : Nat) : Nat := itb6 8 (s ^^^ 256 * x)
def sum6 (s : Nat) (l : List Nat) : Nat := l.foldl stp6 s

theorem dbl_bit (r i : Nat) : (dbl r).testBit i = (decide (i < 16) && decide (1 ≤ i) && r.testBit (i - 1)) := by
  unfold dbl
  rw [show (65536 : Nat) = 2 ^ 16 from rfl, Nat.testBit_mod_two_pow, show 2 * r = 2 ^ 1 * r from by omega, Nat.testBit_two_pow_mul, Bool.and_assoc]
theorem dbl_xor (a b : Nat) : dbl (a ^^^ b) = dbl a ^^^ dbl b := by
  apply Nat.eq_of_testBit_eq
  intro i
  rw [Nat.testBit_xor, dbl_bit, dbl_bit, dbl_bit, Nat.testBit_xor]
  cases decide (i < 16) <;> cases decide (1 ≤ i) <;> simp
theorem bst_xor6 (r y : Nat) : bst6 (r ^^^ y) = rbit6 r (y.testBit 15) ^^^ dbl y := by
  unfold bst6 rbit6
  rw [Nat.testBit_xor, dbl_xor]
  cases r.testBit 15 <;> cases y.testBit 15 <;> simp [Nat.xor_assoc, Nat.xor_comm (dbl y) P16]
theorem itb_xor6 : ∀ (n r y : Nat), itb6 n (r ^^^ y) = itr6 n r y ^^^ dbls n y
  | 0, r, y => rfl
  | n + 1, r, y => by
    rw [itb6, itr6, dbls, bst_xor6, itb_xor6 n]
theorem dbls_bit : ∀ (n y i : Nat), (dbls n y).testBit i = (if n = 0 then y.testBit i else decide (i < 16) && decide (n ≤ i) && y.testBit (i - n))
  | 0, y, i => rfl
  | n + 1, y, i => by
    rw [dbls, dbls_bit n (dbl y) i, if_neg (show ¬ (n + 1 = 0) by omega)]
    by_cases h0 : n = 0
    · subst h0
      rw [if_pos rfl, dbl_bit]
    · rw [if_neg h0, dbl_bit]
      by_cases h1 : i < 16 <;> by_cases h2 : n + 1 ≤ i
      · rw [show i - n - 1 = i - (n + 1) from by omega]
        simp [h1, h2, show n ≤ i from by omega, show i - n < 16 from by omega, show 1 ≤ i - n from by omega]
      · by_cases h3 : n ≤ i
        · simp [h1, h2, h3, show ¬ 1 ≤ i - n from by omega]
        · simp [h2, h3]
      · simp [h1]
      · simp [h1]
theorem stp_eq6 (s x : Nat) (hx : x < 256) : stp6 s x = itr6 8 s (256 * x) := by
  unfold stp6
  rw [itb_xor6]
  have : dbls 8 (256 * x) = 0 := by
    apply Nat.eq_of_testBit_eq
    intro i
    rw [dbls_bit, if_neg (by omega), Nat.zero_testBit]
    by_cases h : i < 16 <;> by_cases h2 : 8 ≤ i
    · rw [show (256 : Nat) = 2 ^ 8 from rfl, Nat.testBit_two_pow_mul]
      by_cases h3 : 8 ≤ i - 8
      · omega
      · simp [h3]
    · simp [h2]
    · simp [h]
    · simp [h]
  rw [this, Nat.xor_zero]
/-- the bit that the reference reads -/
theorem bit_at (x j : Nat) (hj : j < 8) : (dbls j (256 * x)).testBit 15 = x.testBit (7 - j) := by
  rw [dbls_bit]
  split
  · rename_i h
    subst h
    rw [show (256 : Nat) = 2 ^ 8 from rfl, Nat.testBit_two_pow_mul]
    simp
  · rw [show (256 : Nat) = 2 ^ 8 from rfl, Nat.testBit_two_pow_mul]
    simp [show j ≤ 15 from by omega, show 8 ≤ 15 - j from by omega, show 15 - j - 8 = 7 - j from by omega]

theorem xor_lt16 {a b : Nat} (h : a < 65536) (h' : b < 65536) : a ^^^ b < 65536 := Nat.xor_lt_two_pow (n := 16) h h'
theorem dbl_lt (r : Nat) : dbl r < 65536 := Nat.mod_lt _ (by decide)
theorem bst6_lt (r : Nat) : bst6 r < 65536 := by
  unfold bst6
  split
  · exact xor_lt16 (dbl_lt r) (by decide)
  · exact dbl_lt r
theorem rbit6_lt (r : Nat) (b : Bool) : rbit6 r b < 65536 := by
  unfold rbit6
  split
  · exact dbl_lt r
  · exact xor_lt16 (dbl_lt r) (by decide)
theorem itb6_lt : ∀ (n r : Nat), r < 65536 → itb6 n r < 65536
  | 0, _, h => h
  | n + 1, r, _ => itb6_lt n _ (bst6_lt r)
theorem stp6_lt (s x : Nat) (h : s < 65536) (hx : x < 256) : stp6 s x < 65536 := itb6_lt 8 _ (xor_lt16 h (by omega))
theorem sum6_lt : ∀ (l : List Nat) (s : Nat), s < 65536 → (∀ x ∈ l, x < 256) → sum6 s l < 65536
  | [], _, h, _ => h
  | x :: l, s, h, hl => sum6_lt l _ (stp6_lt s x h (hl x (by simp))) (fun y hy => hl y (by simp [hy]))
theorem top16 (r : Nat) (h : r < 65536) : r.testBit 15 = decide (32768 ≤ r) := by
  rw [Nat.testBit_eq_decide_div_mod_eq]
  congr 1
  apply propext
  omega

/-! ### on integers -/
theorem bits_xor16 (a b : Nat) (ha : a < 65536) (hb : b < 65536) : bits .xor .u16 a b = ((a ^^^ b : Nat) : Int) := by
  have ha' : a % 65536 = a := Nat.mod_eq_of_lt ha
  have hb' : b % 65536 = b := Nat.mod_eq_of_lt hb
  have hl := xor_lt16 ha hb
  have hk : IntKind.u16.bits = 16 := rfl
  simp only [bits, hk, BitVec.ofInt_natCast, BitVec.toNat_xor, BitVec.toNat_ofNat]
  rw [show (2 : Nat) ^ 16 = 65536 from rfl, ha', hb']
  simp [IntKind.wrap, IntKind.bits, IntKind.signed]
  omega
theorem bits_and16 (a b : Nat) (ha : a < 65536) (hb : b < 65536) : bits .and .u16 a b = ((a &&& b : Nat) : Int) := by
  have ha' : a % 65536 = a := Nat.mod_eq_of_lt ha
  have hb' : b % 65536 = b := Nat.mod_eq_of_lt hb
  have hl : a &&& b < 65536 := Nat.lt_of_le_of_lt Nat.and_le_left ha
  have hk : IntKind.u16.bits = 16 := rfl
  simp only [bits, hk, BitVec.ofInt_natCast, BitVec.toNat_and, BitVec.toNat_ofNat]
  rw [show (2 : Nat) ^ 16 = 65536 from rfl, ha', hb']
  simp [IntKind.wrap, IntKind.bits, IntKind.signed]
  omega
theorem and_top (r : Nat) (h : r < 65536) : (r &&& 32768 = 0) ↔ r.testBit 15 = false := by
  constructor
  · intro e
    have := congrArg (fun z => z.testBit 15) e
    simp only [Nat.testBit_and, Nat.zero_testBit] at this
    have h2 : (32768 : Nat).testBit 15 = true := by decide
    rw [h2, Bool.and_true] at this
    exact this
  · intro e
    apply Nat.eq_of_testBit_eq
    intro i
    rw [Nat.testBit_and, Nat.zero_testBit]
    by_cases hi : i = 15
    · subst hi; simp [e]
    · have : (32768 : Nat).testBit i = false := by
        rw [show (32768 : Nat) = 2 ^ 15 from rfl, Nat.testBit_two_pow]
        simp
        omega
      simp [this]

end Go.Proofs.YtichcdoijieddaaGreat.C6
end

/- Words in bytes, plain. -/
section
set_option linter.unusedVariables false
set_option linter.unusedSimpArgs false
namespace Go.Proofs.YtichcdoijieddaaGreat.Oc
open Go Go.RowKit Go.Proofs.YtichcdoijieddaaGreat.Ba

def ints (l : List Nat) : List Int := l.map Int.ofNat
theorem ints_length (l : List Nat) : (ints l).length = l.length := by simp [ints]
theorem ints_get {l : List Nat} {i x : Nat} (h : l[i]? = some x) : (ints l)[i]? = some (x : Int) := by simp [ints, h]
theorem ints_take (l : List Nat) (n : Nat) : ints (l.take n) = (ints l).take n := by simp [ints, List.map_take]
theorem ints_inj {a b : List Nat} : ints a = ints b ↔ a = b := by
  constructor
  · intro h
    have := congrArg (List.map Int.toNat) h
    simpa [ints, Function.comp_def] using this
  · rintro rfl; rfl
def oct (w : Nat) : List Nat := (List.range 8).map fun i => w / 256 ^ i % 256
def octs (l : List Nat) : List Nat := l.flatMap oct
theorem oct_lt (w : Nat) : ∀ x ∈ oct w, x < 256 := by
  intro x hx
  simp only [oct, List.mem_map] at hx
  obtain ⟨i, _, rfl⟩ := hx
  exact Nat.mod_lt _ (by decide)
theorem octs_lt (l : List Nat) : ∀ x ∈ octs l, x < 256 := by
  intro x hx
  simp only [octs, List.mem_flatMap] at hx
  obtain ⟨w, _, h⟩ := hx
  exact oct_lt w x h
theorem octs_length (l : List Nat) : (octs l).length = 8 * l.length := by
  induction l with
  | nil => rfl
  | cons w l ih =>
    have : octs (w :: l) = oct w ++ octs l := rfl
    rw [this, List.length_append, ih]
    simp [oct]
    omega
theorem oct_drop (w i : Nat) (hi : i < 8) : (oct w).drop i = (w / 256 ^ i % 256) :: (oct w).drop (i + 1) := by
  rw [List.drop_eq_getElem_cons (by simp [oct]; omega)]
  simp [oct]
theorem ints_append (a b : List Nat) : ints (a ++ b) = ints a ++ ints b := by simp [ints]


end Go.Proofs.YtichcdoijieddaaGreat.Oc
end

/- The second chapter: the sums. -/
section
set_option linter.unusedVariables false
set_option linter.unusedSimpArgs false
set_option maxHeartbeats 1000000
set_option maxRecDepth 100000
namespace Go.Proofs.YtichcdoijieddaaGreat.Cc
open Go Go.RowKit
open Go.Proofs.YtichcdoijieddaaGreat.Ob Go.Proofs.YtichcdoijieddaaGreat.Ba Go.Proofs.YtichcdoijieddaaGreat.Cr Go.Proofs.YtichcdoijieddaaGreat.C6 Go.Proofs.YtichcdoijieddaaGreat.Oc

theorem step16_ (s x : Nat) (hs : s < 65536) (hx : x < 256) (w : World) :
    Calls Tryz.prog 140 #[.int .u16 s, .int .u8 x] w fun e w' => e = .returned (.int .u16 (stp6 s x)) ∧ w = w' := by
  have hx0 : Go.bits .xor .u16 (s : Int) ((x : Int) * 256) = ((s ^^^ 256 * x : Nat) : Int) := by
    have := bits_xor16 s (256 * x) hs (by omega)
    rw [← this]
    congr 1
    omega
  have hr0 : s ^^^ 256 * x < 65536 := xor_lt16 hs (by omega)
  have HX := Lib.hid hx0
  go_enter Tryz.func140, Tryz.ntmps140
  go_wp2_with fail
  have HS : Hid (itb6 8 (s ^^^ 256 * x) = stp6 s x) := rfl
  clear hx0
  generalize s ^^^ 256 * x = r0 at *
  go_loop [10, 0] (fun c9 c0 => ∃ (i r : Nat), i ≤ 8 ∧ c9 = .int .i64 i ∧ c0 = .int .u16 r ∧ r < 65536 ∧ Hid (itb6 (8 - i) r = stp6 s x)) (fun c9 _ => 8 - (intOf c9).toNat)
  case atStart => exact ⟨0, r0, by omega, rfl, rfl, hr0, HS⟩
  case round =>
    obtain ⟨i, r, hi, rfl, rfl, hr, HR⟩ := hrel
    by_cases hlt : i < 8
    · have hn : itb6 (8 - (i + 1)) (bst6 r) = stp6 s x := by
        have := HR.out
        rw [show 8 - i = (8 - (i + 1)) + 1 from by omega, itb6] at this
        exact this
      have HN := Lib.hid hn
      have hl := bst6_lt r
      have hd := dbl_lt r
      have e0 : IntKind.u16.wrap ((r : Int) * 2) = ((dbl r : Nat) : Int) := by unfold dbl; simp [IntKind.wrap, IntKind.bits, IntKind.signed]; omega
      clear hn
      cases hp : r.testBit 15 with
      | true =>
        have e1 : (Go.bits .and .u16 (r : Int) 32768 != 0) = true := by
          rw [show (32768 : Int) = ((32768 : Nat) : Int) from rfl, bits_and16 r 32768 hr (by decide), bne_iff_ne]
          intro e
          have := (and_top r hr).1 (by omega)
          rw [hp] at this
          cases this
        have e3 : Go.bits .xor .u16 ((dbl r : Nat) : Int) 4129 = ((bst6 r : Nat) : Int) := by
          have := bits_xor16 (dbl r) P16 hd (by decide)
          unfold bst6
          rw [if_pos hp]
          exact this
        clear hp
        generalize bst6 r = z at *
        generalize dbl r = y at *
        go_wp2
        go_round
        case rel => exact ⟨i + 1, z, by omega, by go_num, rfl, hl, HN⟩
        case measure => simp [intOf]; omega
      | false =>
        have e1 : (Go.bits .and .u16 (r : Int) 32768 != 0) = false := by
          rw [show (32768 : Int) = ((32768 : Nat) : Int) from rfl, bits_and16 r 32768 hr (by decide), (and_top r hr).2 hp]
          rfl
        have e3 : bst6 r = dbl r := by unfold bst6; rw [if_neg (by simp [hp])]
        rw [e3] at HN hl
        clear hp e3
        generalize dbl r = y at *
        go_wp2
        go_round
        case rel => exact ⟨i + 1, y, by omega, by go_num, rfl, hl, HN⟩
        case measure => simp [intOf]; omega
    · obtain rfl : i = 8 := by omega
      go_wp2
      go_ret
      have := HR.out
      simp only [Nat.sub_self, itb6] at this
      exact ⟨by rw [← this]; rfl, rfl⟩

theorem octs_snoc (l : List Nat) (x : Nat) : octs (l ++ [x]) = octs l ++ oct x := by simp [octs]
theorem oct_len (x : Nat) : (oct x).length = 8 := by simp [oct]
theorem oct_at (x j : Nat) (hj : j < 8) : (oct x)[j]? = some (x / 256 ^ j % 256) := by simp [oct, hj]
theorem shr_at (x j : Nat) (hj : j < 8) : (x : Int) / 2 ^ (8 * j) % 256 = ((x / 256 ^ j % 256 : Nat) : Int) := by
  have : ∀ i < 8, (2 : Int) ^ (8 * i) = ((256 ^ i : Nat) : Int) := by decide
  rw [this j hj]
  norm_cast

set_option maxHeartbeats 2000000 in
theorem octets_ {w : World} {A : Option Addr} {l : List Nat} (h : Rk .u64 w A (ints l)) (hl : ∀ x ∈ l, x < 18446744073709551616) (c : Nat) (hn : l.length ≤ 1000000000) :
    Calls Tryz.prog 128 #[.slice A l.length c] w fun e w' => ∃ v, e = .returned v ∧ w'.ownsRow w.heap.size 5 1 v (8 * l.length) (ivs .u8 (ints (octs l))) ∧ Below w.heap.size w w' := by
  have H := Lib.hid h
  have HL := Lib.hid hl
  obtain ⟨n, hnn⟩ : ∃ n, n = l.length := ⟨_, rfl⟩
  rw [← hnn]
  rw [← hnn] at hn
  have HN := Lib.hid hnn
  clear h hl hnn
  obtain ⟨i0, hinf, hz0, hz1, hz2⟩ := info_parts (show (Tryz.prog.info? 5).map (fun i => (i.zero, i.size, i.bytes)) = some (some (.int .u8 0), 1, 1) by kernel_rfl)
  go_enter Tryz.func128, Tryz.ntmps128
  go_wp2_with fail
  go_loopw [9, 3] (fun c9 c3 wr => ∃ i : Nat, i ≤ n ∧ c9 = .int .i64 i ∧ Hid (Below w.heap.size w wr ∧ wr.ownsRow w.heap.size 5 1 c3 (8 * i) (ivs .u8 (ints (octs (l.take i)))))) (fun c9 _ _ => n - (intOf c9).toNat)
  case atStart => exact ⟨0, Nat.zero_le _, rfl, Below.refl _ _, own_nil0 _ _ _ _⟩
  case round =>
    obtain ⟨i, hi, rfl, HR⟩ := hrel
    by_cases hlt : i < n
    · obtain ⟨x, hx⟩ := some_at (l := l) (i := i) (by rw [← HN.out]; exact hlt)
      obtain ⟨a, rfl, -, ha⟩ := (H.out.below HR.out.1) i x (ints_get hx)
      have HX := Lib.hid (And.intro hx (HL.out x (List.mem_of_getElem? hx)))
      clear hx
      generalize wr = wA at *
      go_wp2_with fail
      go_loopw [13, 3] (fun c13 c3 wq => ∃ j : Nat, j ≤ 8 ∧ c13 = .int .i64 j ∧ Hid (Below w.heap.size w wq ∧ wq.ownsRow w.heap.size 5 1 c3 (8 * i + j) (ivs .u8 (ints (octs (l.take i) ++ (oct x).take j))))) (fun c13 _ _ => 8 - (intOf c13).toNat)
      case atStart => exact ⟨0, Nat.zero_le _, rfl, HR.out.1, by simpa using HR.out.2⟩
      case round =>
        obtain ⟨j, hj, rfl, HQ⟩ := hrel
        by_cases hl8 : j < 8
        · have hv := shr_at x j hl8
          have HB := Lib.hid (oct_at x j hl8)
          have hlt2 : x / 256 ^ j % 256 < 256 := Nat.mod_lt _ (by decide)
          generalize x / 256 ^ j % 256 = y at *
          have HOW := Lib.hid (fun o => own_kp (W' := wr.alloc o) HQ.out.2 (fun k _ hk => Below.heap_alloc _ _ k hk))
          go_wp2_with (at_builtin; refine wpList_append_own _ rfl (.tmp 16) (.tmp 22) 95 rfl w.heap.size 5 i0 (.int .u8 0) 1 1 Tryz.underlying95 hinf hz0 hz1 hz2 rfl (by decide) _ (8 * i + j) _ rfl (HOW.out _) ⟨wr.heap.size, 0, none⟩ 1 1 [.int .u8 y] rfl rfl (one_at _ _ _) (by intro u hu; simp at hu; subst hu; rfl) (by unfold maxLen; omega) (by omega) (by have h1 := HQ.out.1.size; simp; omega) ?_; intro v' w7 hown' hgrow _; (have HO := Lib.hid hown'); (have HG := Lib.hid hgrow); clear hown' hgrow)
          have hx1 : Below w.heap.size w w7 := bl_grown (bl_alloc HQ.out.1 _) HG.out (own_lo HQ.out.2)
          have hx2 : w7.ownsRow w.heap.size 5 1 v' (8 * i + (j + 1)) (ivs .u8 (ints (octs (l.take i) ++ (oct x).take (j + 1)))) := by
            rw [take_next HB.out, ← List.append_assoc, ints_append, ivs_append]
            exact HO.out
          have HZ := Lib.hid (And.intro hx1 hx2)
          clear hx1 hx2
          go_roundw
          case rel => exact ⟨j + 1, by omega, by go_num, HZ.out⟩
          case measure => simp [intOf]; omega
        · obtain rfl : j = 8 := by omega
          have hz : Below w.heap.size w wr ∧ wr.ownsRow w.heap.size 5 1 u3 (8 * (i + 1)) (ivs .u8 (ints (octs (l.take (i + 1))))) := by
            refine ⟨HQ.out.1, ?_⟩
            have := HQ.out.2
            rw [List.take_of_length_le (l := oct x) (by rw [oct_len]; omega), ← octs_snoc, ← take_next HX.out.1] at this
            exact this
          have HZ := Lib.hid hz
          clear hz
          go_wp2_with fail
          go_roundw
          case rel => exact ⟨i + 1, by omega, by go_num, HZ.out⟩
          case measure => simp [intOf]; omega
    · obtain rfl : i = n := by omega
      go_wp2_with fail
      go_ret
      have h2 := HR.out.2
      rw [List.take_of_length_le (by rw [← HN.out]; omega)] at h2
      exact ⟨_, rfl, h2, HR.out.1⟩

end Go.Proofs.YtichcdoijieddaaGreat.Cc
end

/- The third chapter's functions: numbers in words. -/
section
set_option linter.unusedVariables false
set_option linter.unusedSimpArgs false
set_option maxHeartbeats 2000000
set_option maxRecDepth 100000
namespace Go.Proofs.YtichcdoijieddaaGreat.Pk
open Go Go.RowKit
open Go.Proofs.YtichcdoijieddaaGreat.Ob Go.Proofs.YtichcdoijieddaaGreat.Ba Go.Proofs.YtichcdoijieddaaGreat.Oc

/-- a field that may be -/
structure FOk (wd v : Nat) : Prop where
  lo : 1 ≤ wd
  hi : wd ≤ 64
  lt : v < 2 ^ wd

theorem may_ (wd v : Nat) (h : FOk wd v) (w : World) : Calls Tryz.prog 127 #[.agg #[.int .i64 wd, .int .u64 v]] w fun e w' => e = .returned (.bool true) ∧ Below w.heap.size w w' := by
  have hu := Tryz.underlying163
  obtain ⟨h1, h2, h3⟩ := h
  by_cases hw : wd = 64
  · subst hw
    go_enter Tryz.func127, Tryz.ntmps127
    go_wp2
    go_ret
    exact ⟨rfl, bl_alloc (Below.refl _ _) _⟩
  · have e0 : ((wd : Int) == 64) = false := beq_eq_false_iff_ne.2 (by omega)
    have e1 : (v : Int) / 2 ^ wd = 0 := by
      have : ((v / 2 ^ wd : Nat) : Int) = 0 := by rw [Nat.div_eq_of_lt h3]; rfl
      rw [← this]
      norm_cast
    have hmin : min wd 64 = wd := by omega
    clear h3
    go_enter Tryz.func127, Tryz.ntmps127
    go_wp2
    go_ret
    exact ⟨rfl, bl_alloc (Below.refl _ _) _⟩

def FsAt (w : World) (A : Option Addr) (l : List (Nat × Nat)) : Prop := ∀ (i : Nat) p, l[i]? = some p → FOk p.1 p.2 ∧ ∃ q off, A = some ⟨q, off, none⟩ ∧ q < w.heap.size ∧ w.cell? ⟨q, off + i * 2, none⟩ = some (.int .i64 p.1) ∧ w.cell? ⟨q, off + i * 2 + 1, none⟩ = some (.int .u64 p.2)
theorem FsAt.below {w w' : World} {A : Option Addr} {l : List (Nat × Nat)} (h : FsAt w A l) (hb : Below w.heap.size w w') : FsAt w' A l := by
  intro i p hi
  obtain ⟨h0, q, off, rfl, h1, h2, h3⟩ := h i p hi
  exact ⟨h0, q, off, rfl, Nat.lt_of_lt_of_le h1 hb.size, (hb.cell (p := ⟨q, _, none⟩) h1).trans h2, (hb.cell (p := ⟨q, _, none⟩) h1).trans h3⟩

def wid (l : List (Nat × Nat)) : Nat := (l.map (·.1)).sum
def pv : List (Nat × Nat) → Nat
  | [] => 0
  | p :: r => p.2 + 2 ^ p.1 * pv r
theorem wid_snoc (l : List (Nat × Nat)) (p : Nat × Nat) : wid (l ++ [p]) = wid l + p.1 := by simp [wid]
theorem pv_snoc (l : List (Nat × Nat)) (p : Nat × Nat) : pv (l ++ [p]) = pv l + 2 ^ wid l * p.2 := by
  induction l with
  | nil => simp [pv, wid]
  | cons q l ih =>
    simp only [List.cons_append, pv, ih]
    have : wid (q :: l) = q.1 + wid l := by simp [wid]
    rw [this, Nat.pow_add, Nat.mul_add, ← Nat.mul_assoc, Nat.add_assoc]
theorem pv_lt (l : List (Nat × Nat)) (h : ∀ p ∈ l, FOk p.1 p.2) : pv l < 2 ^ wid l := by
  induction l with
  | nil => simp [pv, wid]
  | cons q l ih =>
    have h1 := (h q (by simp)).lt
    have h2 := ih (fun p hp => h p (by simp [hp]))
    have : wid (q :: l) = q.1 + wid l := by simp [wid]
    rw [this, Nat.pow_add, pv]
    have : 2 ^ q.1 * (pv l + 1) ≤ 2 ^ q.1 * 2 ^ wid l := Nat.mul_le_mul_left _ h2
    rw [Nat.mul_add] at this
    omega
theorem or_add (a v n : Nat) (ha : a < 2 ^ n) (h : a + 2 ^ n * v < 18446744073709551616) : Go.bits .or .u64 (a : Int) ((2 ^ n * v : Nat) : Int) = ((a + 2 ^ n * v : Nat) : Int) := by
  have hv : 2 ^ n * v < 18446744073709551616 := by omega
  have ha' : a < 18446744073709551616 := by omega
  have hor : a ||| 2 ^ n * v = a + 2 ^ n * v := by
    rw [Nat.or_comm, Nat.add_comm]
    exact (Nat.two_pow_add_eq_or_of_lt ha v).symm
  have hk : IntKind.u64.bits = 64 := rfl
  simp only [Go.bits, hk, BitVec.ofInt_natCast, BitVec.toNat_or, BitVec.toNat_ofNat]
  rw [show (2 : Nat) ^ 64 = 18446744073709551616 from rfl, Nat.mod_eq_of_lt ha', Nat.mod_eq_of_lt hv, hor]
  exact wu64 _ (by omega) (by omega)

theorem pack_ {w : World} {A : Option Addr} {l : List (Nat × Nat)} (h : FsAt w A l) (c : Nat) (hw : wid l ≤ 64) (hn : l.length ≤ 64) :
    Calls Tryz.prog 101 #[.slice A l.length c] w fun e w' => e = .returned (.tuple #[.int .u64 (pv l : Nat), .bool true]) ∧ Below w.heap.size w w' := by
  have hu := Tryz.underlying163
  have H := Lib.hid h
  have HO : Hid (∀ p ∈ l, FOk p.1 p.2) := by
    intro p hp
    obtain ⟨i, hi, hpi⟩ := List.getElem_of_mem hp
    exact (h i p (by rw [List.getElem?_eq_getElem hi, hpi])).1
  obtain ⟨n, hnn⟩ : ∃ n, n = l.length := ⟨_, rfl⟩
  rw [← hnn]
  rw [← hnn] at hn
  have HN := Lib.hid hnn
  have HW := Lib.hid hw
  clear h hnn hw
  go_enter Tryz.func101, Tryz.ntmps101
  go_wp2_with fail
  go_loopw [10, 4, 5] (fun c10 c4 c5 wr => ∃ i x t : Nat, i ≤ n ∧ c10 = .int .i64 i ∧ c4 = .int .u64 x ∧ c5 = .int .i64 t ∧ t ≤ 64 ∧ Hid (x = pv (l.take i) ∧ t = wid (l.take i) ∧ Below w.heap.size w wr)) (fun c10 _ _ _ => n - (intOf c10).toNat)
  case atStart => exact ⟨0, 0, 0, Nat.zero_le _, rfl, rfl, rfl, by omega, rfl, rfl, Below.refl _ _⟩
  case round =>
    obtain ⟨i, x, t, hi, rfl, rfl, rfl, ht, HR⟩ := hrel
    by_cases hlt : i < n
    · obtain ⟨⟨wd, v⟩, hp⟩ := some_at (l := l) (i := i) (by rw [← HN.out]; exact hlt)
      obtain ⟨hok, q, off, rfl, hq, e1, e2⟩ := (H.out.below HR.out.2.2) i _ hp
      have hok' := hok
      obtain ⟨h1, h2, h3⟩ := hok
      have hle : t + wd ≤ 64 := by
        have h4 : wid (l.take (i + 1)) ≤ wid l := by
          have : wid l = wid (l.take (i + 1)) + wid (l.drop (i + 1)) := by
            unfold wid
            rw [← List.sum_append, ← List.map_append, List.take_append_drop]
          omega
        rw [take_next hp, wid_snoc, ← HR.out.2.1] at h4
        have := HW.out
        simp only at h4
        omega
      have hx : x < 2 ^ t := by
        have := pv_lt (l.take i) (fun p hp => HO.out p (List.mem_of_mem_take hp))
        rw [← HR.out.1, ← HR.out.2.1] at this
        exact this
      simp only at e1 e2
      have hlim : 2 ^ t * v < 2 ^ 64 := by
        have h5 : 2 ^ t * v < 2 ^ t * 2 ^ wd := Nat.mul_lt_mul_of_pos_left h3 (Nat.two_pow_pos t)
        rw [← Nat.pow_add] at h5
        exact Nat.lt_of_lt_of_le h5 (Nat.pow_le_pow_right (by omega) hle)
      have hsum : x + 2 ^ t * v < 2 ^ 64 := by
        have h5 : 2 ^ t * (v + 1) ≤ 2 ^ t * 2 ^ wd := Nat.mul_le_mul_left _ h3
        rw [← Nat.pow_add] at h5
        have h6 : 2 ^ (t + wd) ≤ 2 ^ 64 := Nat.pow_le_pow_right (by omega) hle
        rw [Nat.mul_add] at h5
        omega
      have hwr : IntKind.u64.wrap ((v : Int) * 2 ^ t) = ((2 ^ t * v : Nat) : Int) := by
        have e : (v : Int) * 2 ^ t = ((2 ^ t * v : Nat) : Int) := by rw [Nat.mul_comm]; norm_cast
        rw [e]
        exact wu64 _ (by omega) (by have : (2 : Nat) ^ 64 = 18446744073709551616 := rfl; omega)
      have hor := or_add x v t hx hsum
      have HZ : Hid (x + 2 ^ t * v = pv (l.take (i + 1)) ∧ t + wd = wid (l.take (i + 1))) := by
        refine ⟨?_, ?_⟩
        · rw [take_next hp, pv_snoc, ← HR.out.1, ← HR.out.2.1]
        · rw [take_next hp, wid_snoc, ← HR.out.2.1]
      have HK := Lib.hid hok'
      have HWR := Lib.hid (hwr.symm ▸ hor)
      clear hp hok' h3 hq hx hlim hsum hwr hor
      go_wp2_with (go_at_call 127; refine (may_ wd v HK.out _).mono ?_; rintro e w5 ⟨rfl, hb⟩; (obtain ⟨hc, hf⟩ := bcell hb); (have HB := Lib.hid hb); clear hb)
      go_roundw
      case rel => exact ⟨i + 1, _, t + wd, by omega, by go_num, congrArg (Value.int IntKind.u64) HWR.out, by go_num, hle, HZ.out.1, HZ.out.2, bl_then (bl_alloc HR.out.2.2 _) HB.out⟩
      case measure => simp [intOf]; omega
    · obtain rfl : i = n := by omega
      go_wp2_with fail
      go_ret2
      have e : l.take i = l := List.take_of_length_le (by rw [← HN.out]; omega)
      have h1 := HR.out.1
      rw [e] at h1
      exact ⟨by rw [← h1]; rfl, HR.out.2.2⟩

end Go.Proofs.YtichcdoijieddaaGreat.Pk
end

/- Bytes in words: plain, and the third chapter's function. -/
section
set_option linter.unusedVariables false
set_option linter.unusedSimpArgs false
set_option maxHeartbeats 2000000
set_option maxRecDepth 100000
namespace Go.Proofs.YtichcdoijieddaaGreat.Pk
open Go Go.RowKit
open Go.Proofs.YtichcdoijieddaaGreat.Ob Go.Proofs.YtichcdoijieddaaGreat.Ba Go.Proofs.YtichcdoijieddaaGreat.Oc

def by_ (b : List Nat) (i k : Nat) : Nat := b.getD (8 * i + k) 0
/-- the i-th word -/
def wd8 (b : List Nat) (i : Nat) : Nat := by_ b i 0 + 256 * by_ b i 1 + 65536 * by_ b i 2 + 16777216 * by_ b i 3 + 4294967296 * by_ b i 4 + 1099511627776 * by_ b i 5 + 281474976710656 * by_ b i 6 + 72057594037927936 * by_ b i 7
def wds (b : List Nat) : List Nat := (List.range ((b.length + 7) / 8)).map (wd8 b)
theorem wds_len (b : List Nat) : (wds b).length = (b.length + 7) / 8 := by simp [wds]

theorem by_lt {b : List Nat} (h : ∀ x ∈ b, x < 256) (i k : Nat) : by_ b i k < 256 := by
  unfold by_
  rw [List.getD_eq_getElem?_getD]
  cases hb : b[8 * i + k]? with
  | none => simp
  | some x => exact h x (List.mem_of_getElem? hb)
theorem by_take (b : List Nat) (n i k : Nat) : by_ (b.take n) i k = if 8 * i + k < n then by_ b i k else 0 := by
  unfold by_
  rw [List.getD_eq_getElem?_getD, List.getD_eq_getElem?_getD, List.getElem?_take]
  split <;> simp
theorem by_take2 (b : List Nat) (q n k : Nat) : by_ (b.take (8 * q + n)) q k = if k < n then by_ b q k else 0 := by
  rw [by_take]
  by_cases h : k < n
  · rw [if_pos (by omega), if_pos h]
  · rw [if_neg (by omega), if_neg h]
theorem wd8_lt {b : List Nat} (h : ∀ x ∈ b, x < 256) (i : Nat) : wd8 b i < 18446744073709551616 := by
  have h0 := by_lt h i 0
  have h1 := by_lt h i 1
  have h2 := by_lt h i 2
  have h3 := by_lt h i 3
  have h4 := by_lt h i 4
  have h5 := by_lt h i 5
  have h6 := by_lt h i 6
  have h7 := by_lt h i 7
  unfold wd8
  omega
theorem wd8_old (b : List Nat) (n i m : Nat) (h : 8 * i + 8 ≤ n) (h2 : n ≤ m) : wd8 (b.take m) i = wd8 (b.take n) i := by
  unfold wd8
  simp only [by_take]
  rw [if_pos (by omega), if_pos (by omega), if_pos (by omega), if_pos (by omega), if_pos (by omega), if_pos (by omega), if_pos (by omega), if_pos (by omega), if_pos (by omega), if_pos (by omega), if_pos (by omega), if_pos (by omega), if_pos (by omega), if_pos (by omega), if_pos (by omega), if_pos (by omega)]
theorem wd8_new {b : List Nat} (h : ∀ x ∈ b, x < 256) (q r x : Nat) (hr : r < 8) (hx : b[8 * q + r]? = some x) :
    wd8 (b.take (8 * q + r + 1)) q = wd8 (b.take (8 * q + r)) q + 2 ^ (8 * r) * x ∧ wd8 (b.take (8 * q + r)) q < 2 ^ (8 * r) := by
  have hb : by_ b q r = x := by unfold by_; rw [List.getD_eq_getElem?_getD, hx]; rfl
  have h0 := by_lt h q 0
  have h1 := by_lt h q 1
  have h2 := by_lt h q 2
  have h3 := by_lt h q 3
  have h4 := by_lt h q 4
  have h5 := by_lt h q 5
  have h6 := by_lt h q 6
  have h7 := by_lt h q 7
  unfold wd8
  rw [Nat.add_assoc (8 * q) r 1]
  simp only [by_take2]
  match r, hr with
  | 0, _ => rw [← hb]; simp
  | 1, _ => rw [← hb]; simp; omega
  | 2, _ => rw [← hb]; simp; omega
  | 3, _ => rw [← hb]; simp; omega
  | 4, _ => rw [← hb]; simp; omega
  | 5, _ => rw [← hb]; simp; omega
  | 6, _ => rw [← hb]; simp; omega
  | 7, _ => rw [← hb]; simp; omega

theorem wds_get (b : List Nat) (i : Nat) : (wds b)[i]? = if i < (b.length + 7) / 8 then some (wd8 b i) else none := by
  unfold wds
  rw [List.getElem?_map]
  by_cases h : i < (b.length + 7) / 8
  · rw [List.getElem?_range h, if_pos h]; rfl
  · rw [if_neg h, List.getElem?_eq_none (by simp; omega)]; rfl

theorem wds_first {b : List Nat} (h : ∀ x ∈ b, x < 256) (q x : Nat) (hx : b[8 * q]? = some x) : wds (b.take (8 * q + 1)) = wds (b.take (8 * q)) ++ [x] := by
  obtain ⟨hi, _⟩ := List.getElem?_eq_some_iff.1 hx
  have hn := wd8_new h q 0 x (by omega) hx
  apply List.ext_getElem?
  intro i
  rw [wds_get, List.length_take, Nat.min_eq_left (by omega)]
  by_cases hq : i < q
  · rw [if_pos (by omega), List.getElem?_append_left (by rw [wds_len, List.length_take]; omega), wds_get, List.length_take, Nat.min_eq_left (by omega), if_pos (by omega), wd8_old b (8 * q) i _ (by omega) (by omega)]
  · rw [List.getElem?_append_right (by rw [wds_len, List.length_take]; omega), wds_len, List.length_take, Nat.min_eq_left (by omega)]
    by_cases hqe : i = q
    · subst hqe
      rw [if_pos (by omega), show i - (8 * i + 7) / 8 = 0 from by omega]
      have h1 := hn.1
      have h2 := hn.2
      simp only [Nat.add_zero] at h1 h2
      rw [h1]
      simp only [Nat.mul_zero, Nat.pow_zero, Nat.one_mul] at h2 ⊢
      rw [show wd8 (b.take (8 * i)) i = 0 from by omega]
      simp
    · rw [if_neg (by omega), List.getElem?_eq_none (by simp; omega)]
theorem wds_next {b : List Nat} (h : ∀ x ∈ b, x < 256) (q r x : Nat) (hr : r < 8) (h0 : 0 < r) (hx : b[8 * q + r]? = some x) : wds (b.take (8 * q + r + 1)) = (wds (b.take (8 * q + r))).set q (wd8 (b.take (8 * q + r)) q + 2 ^ (8 * r) * x) := by
  obtain ⟨hi, _⟩ := List.getElem?_eq_some_iff.1 hx
  have hn := wd8_new h q r x hr hx
  apply List.ext_getElem?
  intro i
  rw [List.getElem?_set, wds_get, wds_get, wds_len, List.length_take, List.length_take, Nat.min_eq_left (by omega), Nat.min_eq_left (by omega)]
  by_cases hq : q = i
  · subst hq
    rw [if_pos (by omega), if_pos rfl, if_pos (by omega), hn.1]
  · rw [if_neg hq]
    by_cases hq2 : i < q
    · rw [if_pos (by omega), if_pos (by omega), wd8_old b (8 * q + r) i _ (by omega) (by omega)]
    · rw [if_neg (by omega), if_neg (by omega)]

end Go.Proofs.YtichcdoijieddaaGreat.Pk
end

/- Bytes in words: the third chapter's function. -/
section
set_option linter.unusedVariables false
set_option linter.unusedSimpArgs false
set_option maxHeartbeats 2000000
set_option maxRecDepth 100000
namespace Go.Proofs.YtichcdoijieddaaGreat.Pk
open Go Go.RowKit
open Go.Proofs.YtichcdoijieddaaGreat.Ob Go.Proofs.YtichcdoijieddaaGreat.Ba Go.Proofs.YtichcdoijieddaaGreat.Oc

theorem info_u64 : (Tryz.prog.info? 60).map (fun i => (i.zero, i.size, i.bytes)) = some (some (.int .u64 0), 1, 8) := by kernel_rfl

theorem own_at {k : IntKind} {W : World} {B T n c : Nat} {A : Option Addr} {l : List Int} (h : W.ownsRow B T 1 (.slice A n c) n (ivs k l)) {i : Nat} {x : Int} (hx : l[i]? = some x) :
    ∃ q, A = some ⟨q, 0, none⟩ ∧ W.cell? ⟨q, i, none⟩ = some (.int k x) ∧ W.frozen? ⟨q, i, none⟩ = false := by
  obtain ⟨h1, ⟨h2, h3⟩ | ⟨g, cap, cur, hv, hg, hb, hn, hm, hs, ht⟩⟩ := h
  · have := (List.getElem?_eq_some_iff.1 hx).1
    rw [ivs_length] at h1
    omega
  · simp only [Value.slice.injEq, true_and] at hv
    obtain ⟨rfl, rfl⟩ := hv
    refine ⟨g, rfl, ?_, free_of hb i⟩
    rw [cell_of hb]
    have := ivs_get (k := k) hx
    rw [← ht, List.getElem?_take] at this
    split at this
    · simpa using this
    · cases this

theorem words_ {w : World} {A : Option Addr} {b : List Nat} (h : Rk .u8 w A (ints b)) (hl : ∀ x ∈ b, x < 256) (c : Nat) (hn : b.length ≤ 1000000000) :
    Calls Tryz.prog 118 #[.slice A b.length c] w fun e w' => ∃ v, e = .returned v ∧ w'.ownsRow w.heap.size 60 1 v (wds b).length (ivs .u64 (ints (wds b))) ∧ Below w.heap.size w w' := by
  have H := Lib.hid h
  have HL := Lib.hid hl
  obtain ⟨n, hnn⟩ : ∃ n, n = b.length := ⟨_, rfl⟩
  rw [← hnn]
  rw [← hnn] at hn
  have HN := Lib.hid hnn
  clear h hl hnn
  obtain ⟨i0, hinf, hz0, hz1, hz2⟩ := info_parts info_u64
  go_enter Tryz.func118, Tryz.ntmps118
  go_wp2_with fail
  go_loopw [8, 3] (fun c8 c3 wr => ∃ i : Nat, i ≤ n ∧ c8 = .int .i64 i ∧ Hid (Below w.heap.size w wr ∧ wr.ownsRow w.heap.size 60 1 c3 ((i + 7) / 8) (ivs .u64 (ints (wds (b.take i)))))) (fun c8 _ _ => n - (intOf c8).toNat)
  case atStart => exact ⟨0, Nat.zero_le _, rfl, Below.refl _ _, by have := own_nil0 w w.heap.size 60 1; simpa [wds, ints, ivs] using this⟩
  case round =>
    obtain ⟨i, hi, rfl, HR⟩ := hrel
    by_cases hlt : i < n
    · obtain ⟨x, hx⟩ := some_at (l := b) (i := i) (by rw [← HN.out]; exact hlt)
      obtain ⟨a, rfl, -, ha⟩ := (H.out.below HR.out.1) i x (ints_get hx)
      have hx8 := HL.out x (List.mem_of_getElem? hx)
      obtain ⟨q, r, hqr, hr⟩ : ∃ q r, i = 8 * q + r ∧ r < 8 := ⟨i / 8, i % 8, by omega, by omega⟩
      have HX := Lib.hid (And.intro hx hqr)
      have hshl : IntKind.u64.wrap ((x : Int) * 2 ^ (8 * r)) = ((2 ^ (8 * r) * x : Nat) : Int) := by
        have e : (x : Int) * 2 ^ (8 * r) = ((2 ^ (8 * r) * x : Nat) : Int) := by rw [Nat.mul_comm (2 ^ (8 * r)) x]; norm_cast
        rw [e]
        refine wu64 _ (by omega) ?_
        have h1 : 2 ^ (8 * r) * x < 2 ^ (8 * r) * 2 ^ 8 := Nat.mul_lt_mul_of_pos_left (by omega) (Nat.two_pow_pos _)
        rw [← Nat.pow_add] at h1
        have h2 : 2 ^ (8 * r + 8) ≤ 2 ^ 64 := Nat.pow_le_pow_right (by omega) (by omega)
        have h3 : (2 : Nat) ^ 64 = 18446744073709551616 := rfl
        omega
      have HSH := Lib.hid hshl
      clear hx hqr hshl
      by_cases hr0 : r = 0
      · subst hr0
        have hq : i = 8 * q := by have := HX.out.2; omega
        have e0 : ((i : Int) % 8 == 0) = true := beq_iff_eq.2 (by omega)
        have HQ := Lib.hid hq
        have hown0 := HR.out.2
        rw [show (i + 7) / 8 = q from by omega] at hown0
        have HOW := Lib.hid (fun o => own_kp (W' := wr.alloc o) hown0 (fun k _ hk => Below.heap_alloc _ _ k hk))
        have hqb : q ≤ 1000000000 := by omega
        clear hq hown0
        go_wp2_with (at_builtin; refine wpList_append_own _ rfl (.tmp 16) (.tmp 17) 22 rfl w.heap.size 60 i0 (.int .u64 0) 1 8 Tryz.underlying22 hinf hz0 hz1 hz2 rfl (by decide) _ q _ rfl (HOW.out _) ⟨wr.heap.size, 0, none⟩ 1 1 [.int .u64 0] rfl rfl (one_at _ _ _) (by intro u hu; simp at hu; subst hu; rfl) (by unfold maxLen; omega) (by omega) (by have h1 := HR.out.1.size; simp; omega) ?_; intro v' w7 hown' hgrow _; (obtain ⟨A7, c7, rfl⟩ := own_slice hown'); (have HO := Lib.hid hown'); (have HG := Lib.hid hgrow); clear hown' hgrow)
        have hz : ints (wds (b.take i)) ++ [0] = ints (wds (b.take i)) ++ [0] := rfl
        have hlen : (wds (b.take i)).length = q := by rw [wds_len, List.length_take, ← HN.out]; have := HQ.out; omega
        obtain ⟨g, rfl, hc, hf⟩ := own_at (l := ints (wds (b.take i)) ++ [0]) (i := q) (x := 0) (by rw [ivs_append]; exact HO.out) (by rw [List.getElem?_append_right (by rw [ints_length]; omega), ints_length, hlen]; simp)
        have hsh : Hid (Go.bits .or .u64 0 (IntKind.u64.wrap ((x : Int) * 2 ^ (8 * (i % 8)))) = (x : Int)) := by
          show _ = _
          rw [show i % 8 = 0 from by have := HQ.out; omega]
          have h1 := HSH.out
          rw [h1]
          have := or_add 0 x 0 (by decide) (by simp; omega)
          simpa using this
        have HZ : Hid (w7.ownsRow w.heap.size 60 1 (.slice (some ⟨g, 0, none⟩) (q + 1) c7) (q + 1) (ivs .u64 (ints (wds (b.take i)) ++ [0])) ∧ (ivs .u64 (ints (wds (b.take i)) ++ [0])).set q (.int .u64 x) = ivs .u64 (ints (wds (b.take (i + 1)))) ∧ w.heap.size ≤ g ∧ (i + 1 + 7) / 8 = q + 1) := by
          refine ⟨by rw [ivs_append]; exact HO.out, ?_, own_lo HO.out g rfl, by have := HQ.out; omega⟩
          have h1 := HX.out.1
          rw [HQ.out] at h1
          rw [HQ.out, wds_first HL.out q x h1, ints_append, ivs_append, ivs_append]
          rw [HQ.out] at hlen
          rw [List.set_append, if_neg (by rw [ivs_length, ints_length, hlen]; omega), ivs_length, ints_length, hlen]
          simp [ivs, ints]
        go_region
        go_wp2
        rw [hsh.out]
        go_roundw
        case rel =>
          refine ⟨i + 1, by omega, by go_num, bl_drew (bl_set (bl_grown (bl_alloc HR.out.1 _) HG.out (own_lo HR.out.2)) HZ.out.2.2.1 _), ?_⟩
          have := own_set HZ.out.1 (i := q) (by omega) (.int .u64 x)
          rw [HZ.out.2.1] at this
          rw [HZ.out.2.2.2]
          exact this
        case measure => simp [intOf]; omega
      · have hk : (i + 7) / 8 = q + 1 := by have := HX.out.2; omega
        have e0 : ((i : Int) % 8 == 0) = false := beq_eq_false_iff_ne.2 (by have := HX.out.2; omega)
        have hown0 := HR.out.2
        rw [hk] at hown0
        obtain ⟨A7, c7, rfl⟩ := own_slice hown0
        have hqb : q ≤ 1000000000 := by have := HX.out.2; omega
        have h1 := HX.out.1
        rw [HX.out.2] at h1
        obtain ⟨n1, n2⟩ := wd8_new HL.out q r x hr h1
        rw [← HX.out.2] at n1 n2
        have hlen : (wds (b.take i)).length = q + 1 := by rw [wds_len, List.length_take, ← HN.out, ← hk]; omega
        have hget : (wds (b.take i))[q]? = some (wd8 (b.take i) q) := by rw [wds_get, if_pos (by rw [wds_len] at hlen; omega)]
        obtain ⟨g, rfl, hc, hf⟩ := own_at (l := ints (wds (b.take i))) (i := q) (x := ((wd8 (b.take i) q : Nat) : Int)) hown0 (ints_get hget)
        have hsh : Hid (Go.bits .or .u64 ((wd8 (b.take i) q : Nat) : Int) (IntKind.u64.wrap ((x : Int) * 2 ^ (8 * (i % 8)))) = ((wd8 (b.take i) q + 2 ^ (8 * r) * x : Nat) : Int)) := by
          show _ = _
          rw [show i % 8 = r from by have := HX.out.2; omega, HSH.out]
          exact or_add _ x (8 * r) n2 (by rw [← n1]; exact wd8_lt (fun y hy => HL.out y (List.mem_of_mem_take hy)) q)
        have HZ : Hid (wr.ownsRow w.heap.size 60 1 (.slice (some ⟨g, 0, none⟩) (q + 1) c7) (q + 1) (ivs .u64 (ints (wds (b.take i)))) ∧ (ivs .u64 (ints (wds (b.take i)))).set q (.int .u64 ((wd8 (b.take i) q + 2 ^ (8 * r) * x : Nat) : Int)) = ivs .u64 (ints (wds (b.take (i + 1)))) ∧ w.heap.size ≤ g ∧ (i + 1 + 7) / 8 = q + 1) := by
          refine ⟨hown0, ?_, own_lo hown0 g rfl, by have := HX.out.2; omega⟩
          have hw := wds_next HL.out q r x hr (by omega) h1
          rw [← HX.out.2] at hw
          rw [hw]
          simp [ivs, ints, List.map_set]
        generalize wd8 (b.take i) q = y at *
        clear hown0 n1 n2 hget h1 hk hlen
        go_wp2_with fail
        go_region
        go_wp2
        rw [hsh.out]
        go_roundw
        case rel =>
          refine ⟨i + 1, by omega, by go_num, bl_drew (bl_set HR.out.1 HZ.out.2.2.1 _), ?_⟩
          have := own_set HZ.out.1 (i := q) (by omega) (.int .u64 ((y + 2 ^ (8 * r) * x : Nat) : Int))
          rw [HZ.out.2.1] at this
          rw [HZ.out.2.2.2]
          exact this
        case measure => simp [intOf]; omega
    · obtain rfl : i = n := by omega
      go_wp2_with fail
      go_ret
      have h2 := HR.out.2
      rw [List.take_of_length_le (by rw [← HN.out]; omega)] at h2
      refine ⟨_, rfl, ?_, HR.out.1⟩
      rw [wds_len, ← HN.out]
      exact h2

end Go.Proofs.YtichcdoijieddaaGreat.Pk
end

/- The document's bitmap: New, Turn (cantleref10). -/
section
set_option linter.unusedVariables false
set_option linter.unusedSimpArgs false
set_option maxHeartbeats 2000000
set_option maxRecDepth 100000
namespace Go.Proofs.YtichcdoijieddaaGreat.R0
open Go Go.RowKit
open Go.Proofs.YtichcdoijieddaaGreat.Ob Go.Proofs.YtichcdoijieddaaGreat.Ba Go.Proofs.YtichcdoijieddaaGreat.Oc Go.Proofs.YtichcdoijieddaaGreat.Pk

def bvs (l : List Bool) : List Value := l.map Value.bool
theorem bvs_length (l : List Bool) : (bvs l).length = l.length := by simp [bvs]
theorem bvs_one (l : List Bool) : ∀ u ∈ bvs l, u.oneCell' = true := by
  intro u hu
  simp only [bvs, List.mem_map] at hu
  obtain ⟨z, _, rfl⟩ := hu
  rfl
/-- the slice (A, ..) reads as these truths -/
def RB (w : World) (A : Option Addr) (l : List Bool) : Prop := ∀ (i : Nat) x, l[i]? = some x → ∃ a, A = some a ∧ a.block < w.heap.size ∧ w.cell? (a.add i) = some (.bool x)
theorem RB.below {w w' : World} {A : Option Addr} {l : List Bool} (h : RB w A l) (hb : Below w.heap.size w w') : RB w' A l := by
  intro i x hi
  obtain ⟨a, rfl, h1, h2⟩ := h i x hi
  exact ⟨a, rfl, Nat.lt_of_lt_of_le h1 hb.size, by rw [hb.cell (p := a.add i) (by rw [add_block]; exact h1)]; exact h2⟩
theorem own_rb {w : World} {B T n : Nat} {A : Option Addr} {c : Nat} {l : List Bool} (h : w.ownsRow B T 1 (.slice A n c) n (bvs l)) : RB w A l := by
  obtain ⟨h1, ⟨h2, h3⟩ | ⟨g, cap, cur, hv, hg, hb, hn, hm, hs, ht⟩⟩ := h
  · intro i x hx
    have := (List.getElem?_eq_some_iff.1 hx).1
    rw [bvs_length] at h1
    omega
  · simp only [Value.slice.injEq, true_and] at hv
    obtain ⟨rfl, rfl⟩ := hv
    intro i x hx
    refine ⟨_, rfl, lt_of hb, ?_⟩
    rw [Addr.add_lit, cell_of hb, Nat.zero_add]
    have hx2 : (bvs l)[i]? = some (.bool x) := by simp [bvs, hx]
    rw [← ht, List.getElem?_take] at hx2
    split at hx2
    · simpa using hx2
    · cases hx2

theorem own_bat {w : World} {B T n c : Nat} {A : Option Addr} {l : List Bool} (h : w.ownsRow B T 1 (.slice A n c) n (bvs l)) {i : Nat} {x : Bool} (hx : l[i]? = some x) :
    ∃ q, A = some ⟨q, 0, none⟩ ∧ w.cell? ⟨q, i, none⟩ = some (.bool x) ∧ w.frozen? ⟨q, i, none⟩ = false := by
  obtain ⟨h1, ⟨h2, h3⟩ | ⟨g, cap, cur, hv, hg, hb, hn, hm, hs, ht⟩⟩ := h
  · have := (List.getElem?_eq_some_iff.1 hx).1
    rw [bvs_length] at h1
    omega
  · simp only [Value.slice.injEq, true_and] at hv
    obtain ⟨rfl, rfl⟩ := hv
    refine ⟨g, rfl, ?_, free_of hb i⟩
    rw [cell_of hb]
    have hx2 : (bvs l)[i]? = some (.bool x) := by simp [bvs, hx]
    rw [← ht, List.getElem?_take] at hx2
    split at hx2
    · simpa using hx2
    · cases hx2

theorem info_bool : (Tryz.prog.info? 4).map (fun i => (i.zero, i.size, i.bytes)) = some (some (.bool false), 1, 1) := by kernel_rfl

theorem rnew_ (n : Nat) (hn : n ≤ 65534) (w : World) : Calls Tryz.prog 15 #[.int .i64 n] w fun e w' => e = .returned (.slice (some ⟨w.heap.size, 0, none⟩) n n) ∧ RB w' (some ⟨w.heap.size, 0, none⟩) (List.replicate n false) ∧ Below w.heap.size w w' := by
  have hrb : RB (w.alloc (.cells (Array.replicate n (.bool false)) 4)) (some ⟨w.heap.size, 0, none⟩) (List.replicate n false) := by
    intro i x hx
    have hb := alloc_new w (.cells (Array.replicate n (.bool false)) 4)
    refine ⟨_, rfl, lt_of hb, ?_⟩
    rw [Addr.add_lit, cell_of hb, Nat.zero_add]
    obtain ⟨h1, h2⟩ := List.getElem?_eq_some_iff.1 hx
    rw [List.length_replicate] at h1
    rw [List.getElem_replicate] at h2
    subst h2
    simp [h1]
  have HRB := Lib.hid hrb
  clear hrb
  go_enter Tryz.func15, Tryz.ntmps15
  go_wp2_with (at_make; refine Go.Proofs.YtichcdoijieddaaGreat.Wl.wpl_make rfl _ 53 4 rfl (.bool false) 1 Tryz.underlying53 info_bool rfl n .i64 _ rfl rfl (by omega) (by omega) ?_)
  go_ret
  exact ⟨rfl, HRB.out, bl_alloc (Below.refl _ _) _⟩

def btn (l : List Bool) (b : Int) : List Bool := if 0 ≤ b ∧ b < l.length then l.set b.toNat true else l
theorem btn_len (l : List Bool) (b : Int) : (btn l b).length = l.length := by unfold btn; split <;> simp

/-- truths that read so, and whether one was turned -/
def BOut (w : World) (A0 : Option Addr) (B : Nat) (l : List Bool) (e : Ending) : Prop := ∃ A c f, e = .returned (.tuple #[.slice A l.length c, .bool f]) ∧ RB w A l ∧ ∀ a, A = some a → A0 = some a ∨ B ≤ a.block
theorem bout_of {w : World} {l : List Bool} {A A0 : Option Addr} {B n c : Nat} {f : Bool} (hn : n = l.length) (h : RB w A l) (hA : ∀ a, A = some a → A0 = some a ∨ B ≤ a.block) : BOut w A0 B l (.returned (.tuple #[.slice A n c, .bool f])) := ⟨A, c, f, by rw [hn], h, hA⟩

theorem rturn_ {w : World} {A : Option Addr} {l : List Bool} (h : RB w A l) (c : Nat) (hn : l.length ≤ 65534) (b : Int) :
    Calls Tryz.prog 17 #[.slice A l.length c, .int .i64 b, .bool true] w fun e w' => BOut w' A w.heap.size (btn l b) e ∧ Below w.heap.size w w' := by
  obtain ⟨i0, hinf, hz0, hz1, hz2⟩ := info_parts info_bool
  have H := Lib.hid h
  by_cases h1 : 0 ≤ b
  · by_cases h2 : b < l.length
    · obtain ⟨j, rfl⟩ : ∃ j : Nat, b = j := ⟨b.toNat, by omega⟩
      obtain ⟨x, hx⟩ := some_at (l := l) (i := j) (by omega)
      obtain ⟨a, rfl, hab, hax⟩ := h j x hx
      have hbt : btn l j = l.set j true := by unfold btn; rw [if_pos ⟨h1, h2⟩]; rfl
      cases x with
      | true =>
        have hs : l.set j true = l := by
          apply List.ext_getElem?
          intro i
          rw [List.getElem?_set]
          by_cases e : j = i
          · subst e; rw [if_pos rfl, if_pos (by omega), hx]
          · rw [if_neg e]
        have HF : Hid (RB w (some a) (btn l j)) := by show RB _ _ _; rw [hbt, hs]; exact h
        obtain ⟨n, hnn⟩ : ∃ n, n = l.length := ⟨_, rfl⟩
        have HLB : Hid (n = (btn l j).length) := by show _ = _; rw [btn_len, hnn]
        rw [← hnn] at hn h2
        rw [← hnn]
        clear h hbt hs hx hnn
        go_enter Tryz.func17, Tryz.ntmps17
        go_wp2
        go_ret2
        exact ⟨bout_of HLB.out HF.out (fun a ha => .inl ha), Below.refl _ _⟩
      | false =>
        have hcells : ∀ (i : Nat) u, (bvs l)[i]? = some u → (w.alloc (.cells #[] 4)).cell? (a.add i) = some u := by
          intro i u hu
          simp only [bvs, List.getElem?_map, Option.map_eq_some_iff] at hu
          obtain ⟨y, hy, rfl⟩ := hu
          obtain ⟨a', e, q1, q2⟩ := h i y hy
          cases e
          rw [World.cell?_of_block (w := w) (a := a.add i) (Below.heap_alloc _ _ _ (by rw [add_block]; exact q1))]
          exact q2
        have HC := Lib.hid hcells
        have HO0 := Lib.hid (own_nil (w.alloc (.cells #[] 4)) w.heap.size 4 w.heap.size (Nat.le_refl _) (alloc_new w _) 1)
        have HBT := Lib.hid hbt
        have HX := Lib.hid hx
        have HLL : Hid ((bvs l).length = l.length) := bvs_length l
        obtain ⟨n, hnn⟩ : ∃ n, n = l.length := ⟨_, rfl⟩
        rw [← hnn] at hn h2 HLL
        rw [← hnn]
        clear h hbt hx hcells
        have HLB : Hid (n = (btn l j).length) := by show _ = _; rw [btn_len, hnn]
        clear hnn
        go_enter Tryz.func17, Tryz.ntmps17
        go_wp2_with (at_builtin; refine wpList_append_own _ rfl (.tmp 26) (.tmp 27) 53 rfl w.heap.size 4 i0 (.bool false) 1 1 Tryz.underlying53 hinf hz0 hz1 hz2 rfl (by decide) _ 0 [] rfl HO0.out a n c (bvs l) rfl (by rw [HLL.out]; omega) HC.out (bvs_one _) (by unfold maxLen; omega) (by omega) (by simp) ?_; intro v7 w7 hown7 hgrow7 _; (have HO7 := Lib.hid hown7); (have HG7 := Lib.hid hgrow7); (obtain ⟨A7, c7, e7⟩ := own_slice hown7); subst e7; (have HO8 : Hid (w7.ownsRow w.heap.size 4 1 (.slice A7 n c7) n (bvs l)) := by (have h := HO7.out; rw [Nat.zero_add, List.nil_append] at h; exact h)); (obtain ⟨g, eg, hcg, hfg⟩ := own_bat HO8.out HX.out); subst eg; clear hown7 hgrow7)
        go_ret2
        refine ⟨bout_of HLB.out ?_ (fun a ha => .inr (own_lo HO8.out _ (by cases ha; rfl))), ?_⟩
        · rw [HBT.out]
          have h9 := own_set HO8.out (i := j) (by omega) (.bool true)
          have e9 : (bvs l).set j (.bool true) = bvs (l.set j true) := by simp [bvs, List.map_set]
          rw [e9] at h9
          exact own_rb h9
        · exact bl_set (bl_grown (bl_alloc (Below.refl _ _) _) HG7.out (fun k hk => by cases hk; exact Nat.le_refl _)) (own_lo HO8.out g rfl) _
    · have hbt : Hid (btn l b = l) := by show _ = _; unfold btn; rw [if_neg (fun h => h2 h.2)]
      have HF : Hid (RB w A (btn l b)) := by show RB _ _ _; rw [hbt.out]; exact h
      obtain ⟨n, hnn⟩ : ∃ n, n = l.length := ⟨_, rfl⟩
      have HLB : Hid (n = (btn l b).length) := by show _ = _; rw [btn_len, hnn]
      rw [← hnn] at hn h2
      rw [← hnn]
      clear h hnn
      go_enter Tryz.func17, Tryz.ntmps17
      go_wp2
      go_ret2
      exact ⟨bout_of HLB.out HF.out (fun a ha => .inl ha), Below.refl _ _⟩
  · have hbt : Hid (btn l b = l) := by show _ = _; unfold btn; rw [if_neg (fun h => h1 h.1)]
    have HF : Hid (RB w A (btn l b)) := by show RB _ _ _; rw [hbt.out]; exact h
    obtain ⟨n, hnn⟩ : ∃ n, n = l.length := ⟨_, rfl⟩
    have HLB : Hid (n = (btn l b).length) := by show _ = _; rw [btn_len, hnn]
    rw [← hnn] at hn
    rw [← hnn]
    clear h hnn
    go_enter Tryz.func17, Tryz.ntmps17
    go_wp2
    go_ret2
    exact ⟨bout_of HLB.out HF.out (fun a ha => .inl ha), Below.refl _ _⟩

end Go.Proofs.YtichcdoijieddaaGreat.R0
end

/- The document's bitmap in one word (cantleref10.Words). -/
section
set_option linter.unusedVariables false
set_option linter.unusedSimpArgs false
set_option maxHeartbeats 2000000
set_option maxRecDepth 100000
namespace Go.Proofs.YtichcdoijieddaaGreat.R0
open Go Go.RowKit
open Go.Proofs.YtichcdoijieddaaGreat.Ob Go.Proofs.YtichcdoijieddaaGreat.Ba Go.Proofs.YtichcdoijieddaaGreat.Oc Go.Proofs.YtichcdoijieddaaGreat.Pk

/-- truths in a number -/
def bwr : List Bool → Nat
  | [] => 0
  | b :: r => (if b then 1 else 0) + 2 * bwr r
theorem bwr_snoc (l : List Bool) (b : Bool) : bwr (l ++ [b]) = bwr l + (if b then 2 ^ l.length else 0) := by
  induction l with
  | nil => cases b <;> rfl
  | cons a l ih =>
    rw [List.cons_append, bwr, ih, bwr]
    cases b
    · simp
    · simp [Nat.pow_succ]; omega
theorem bwr_lt (l : List Bool) : bwr l < 2 ^ l.length := by
  induction l with
  | nil => decide
  | cons a l ih =>
    rw [bwr, List.length_cons, Nat.pow_succ]
    cases a <;> simp <;> omega

theorem rwords1 {w : World} {A : Option Addr} {l : List Bool} (h : RB w A l) (c : Nat) (h1 : 1 ≤ l.length) (h2 : l.length ≤ 63) :
    Calls Tryz.prog 19 #[.slice A l.length c] w fun e w' => ∃ v, e = .returned v ∧ w'.ownsRow w.heap.size 60 1 v 1 (ivs .u64 (ints [bwr l])) ∧ Below w.heap.size w w' := by
  have H := Lib.hid h
  obtain ⟨n, hnn⟩ : ∃ n, n = l.length := ⟨_, rfl⟩
  rw [← hnn] at h1 h2
  rw [← hnn]
  have HN := Lib.hid hnn
  have hq1 : ((n : Int) + 63) / 64 = 1 := by omega
  have HO0 : Hid ((w.alloc (.cells #[.int .u64 0] 60)).ownsRow w.heap.size 60 1 (.slice (some ⟨w.heap.size, 0, none⟩) 1 1) 1 (ivs .u64 (ints [0]))) := own_new (k := .u64) (l := ints [0]) (alloc_new w _) (Nat.le_refl _) rfl (by unfold maxLen; omega)
  clear h hnn
  go_enter Tryz.func19, Tryz.ntmps19
  go_wp2_with (at_make; refine Go.Proofs.YtichcdoijieddaaGreat.Wl.wpl_make rfl _ 22 60 rfl (.int .u64 0) 8 Tryz.underlying22 info_u64 rfl 1 .i64 _ rfl (by first | rfl | exact hq1 | omega) (by decide) (by decide) ?_)
  clear hq1
  go_loopw [13] (fun c13 wr => ∃ i : Nat, i ≤ n ∧ c13 = .int .i64 i ∧ Hid (Below w.heap.size w wr ∧ wr.ownsRow w.heap.size 60 1 (.slice (some ⟨w.heap.size, 0, none⟩) 1 1) 1 (ivs .u64 (ints [bwr (l.take i)])))) (fun c13 _ => n - (intOf c13).toNat)
  case atStart => exact ⟨0, Nat.zero_le _, rfl, bl_alloc (Below.refl _ _) _, HO0.out⟩
  case round =>
    obtain ⟨i, hi, rfl, HR⟩ := hrel
    by_cases hlt : i < n
    · obtain ⟨x, hx⟩ := some_at (l := l) (i := i) (by rw [← HN.out]; exact hlt)
      obtain ⟨a, rfl, -, ha⟩ := (H.out.below HR.out.1) i x hx
      have HNX : Hid (bwr (l.take (i + 1)) = bwr (l.take i) + (if x then 2 ^ i else 0)) := by
        show _ = _
        rw [take_next hx, bwr_snoc, List.length_take, Nat.min_eq_left (by rw [← HN.out]; omega)]
      have hyl : bwr (l.take i) < 2 ^ i := by
        have := bwr_lt (l.take i)
        rw [List.length_take, Nat.min_eq_left (by rw [← HN.out]; omega)] at this
        exact this
      clear hx
      cases x with
      | false =>
        rw [if_neg (by simp), Nat.add_zero] at HNX
        go_wp2_with fail
        go_roundw
        case rel => exact ⟨i + 1, by omega, by go_num, HR.out.1, by rw [HNX.out]; exact HR.out.2⟩
        case measure => simp [intOf]; omega
      | true =>
        rw [if_pos rfl] at HNX
        obtain ⟨y, hy⟩ : ∃ y, y = bwr (l.take i) := ⟨_, rfl⟩
        rw [← hy] at HNX hyl
        obtain ⟨p, hp⟩ : ∃ p, p = 2 ^ i := ⟨_, rfl⟩
        rw [← hp] at HNX hyl
        have hp9 : p ≤ 4611686018427387904 := by rw [hp]; exact Nat.pow_le_pow_right (by decide) (show i ≤ 62 by omega)
        have hpi : IntKind.u64.wrap (2 ^ i) = (p : Int) := by
          have e2 : (2 ^ i : Int) = ((2 ^ i : Nat) : Int) := by norm_cast
          rw [e2, ← hp]
          exact wu64 _ (by omega) (by omega)
        have hown := HR.out.2
        rw [← hy] at hown
        obtain ⟨g, eg, hc, hf⟩ := own_at (i := 0) (x := (y : Int)) hown rfl
        cases eg
        have HO := Lib.hid hown
        have hd1 : (i : Int) / 64 = 0 := by omega
        have hd2 : (i : Int) % 64 = i := by omega
        have hyp : y + p < 18446744073709551616 := by omega
        clear hy hp hown hyl
        go_wp2_with fail
        go_region
        go_wp2_with fail
        go_roundw
        case rel =>
          refine ⟨i + 1, by omega, by go_num, bl_drew (bl_set HR.out.1 (Nat.le_refl _) _), ?_⟩
          rw [HNX.out]
          have h9 := own_set HO.out (i := 0) (by decide) (.int .u64 ((y : Int) + (p : Int)))
          have e9 : (ivs .u64 (ints [y])).set 0 (.int .u64 ((y : Int) + (p : Int))) = ivs .u64 (ints [y + p]) := by simp [ivs, ints]
          rw [e9] at h9
          exact own_kp h9 (fun _ _ _ => rfl)
        case measure => simp [intOf]; omega
    · obtain rfl : i = n := by omega
      go_wp2_with fail
      go_ret
      have h2 := HR.out.2
      rw [List.take_of_length_le (by rw [← HN.out]; omega)] at h2
      exact ⟨_, rfl, h2, HR.out.1⟩

end Go.Proofs.YtichcdoijieddaaGreat.R0
end
