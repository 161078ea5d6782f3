/- A superblock with one turned bit is none: plain facts. -/
import Derived.Test.YtlokklfkiechdaaSb
set_option linter.unusedVariables false
set_option linter.unusedSimpArgs false
set_option maxRecDepth 100000
namespace Go.Proofs.Ytlokklfkiechdaa.Fb
open Go Go.RowKit Go.Proofs.Ytlokklfkiechdaa.PF Go.Proofs.Ytlokklfkiechdaa.Cr Go.Proofs.YtlokklfkiechdaaW.PrintWords Go.Proofs.YtlokklfkiechdaaW.PrintLast Go.Proofs.YtlokklfkiechdaaW.PrintMore
open Go.Proofs.Ytlokklfkiechdaa.Ko (pows up8 tot pows_in)

/-! ### one turned bit -/
theorem oct_xor (w v : Nat) : oct (w ^^^ v) = List.zipWith (· ^^^ ·) (oct w) (oct v) := by
  unfold oct
  rw [List.zipWith_map]
  rw [List.zipWith_self]
  apply List.map_congr_left
  intro i _
  have e : ∀ x : Nat, x / 256 ^ i % 256 = x / 2 ^ (8 * i) % 2 ^ 8 := by
    intro x
    rw [Nat.pow_mul]
  rw [e, e, e, Nat.xor_div_two_pow, Nat.xor_mod_two_pow]

theorem oct_bit : ∀ b, b < 64 → oct (2 ^ b) = List.replicate (b / 8) 0 ++ 2 ^ (b % 8) :: List.replicate (7 - b / 8) 0 := by decide +kernel

theorem zip_zero : ∀ (l : List Nat), List.zipWith (· ^^^ ·) l (List.replicate l.length 0) = l
  | [] => rfl
  | x :: l => by
    simp only [List.length_cons, List.replicate_succ, List.zipWith_cons_cons, Nat.xor_zero, zip_zero l]

theorem oct_turn (w b : Nat) (hb : b < 64) : ∃ p x q, oct w = p ++ x :: q ∧ oct (w ^^^ 2 ^ b) = p ++ (x ^^^ 2 ^ (b % 8)) :: q := by
  have hl : (oct w).length = 8 := by simp [oct]
  have hj : b / 8 < (oct w).length := by omega
  refine ⟨(oct w).take (b / 8), (oct w)[b / 8], (oct w).drop (b / 8 + 1), ?_, ?_⟩
  · rw [← List.drop_eq_getElem_cons hj, List.take_append_drop]
  · have e : oct w = (oct w).take (b / 8) ++ (oct w)[b / 8] :: (oct w).drop (b / 8 + 1) := by rw [← List.drop_eq_getElem_cons hj, List.take_append_drop]
    have z1 := zip_zero ((oct w).take (b / 8))
    have z2 := zip_zero ((oct w).drop (b / 8 + 1))
    rw [show ((oct w).take (b / 8)).length = b / 8 from by rw [List.length_take]; omega] at z1
    rw [show ((oct w).drop (b / 8 + 1)).length = 7 - b / 8 from by rw [List.length_drop]; omega] at z2
    rw [oct_xor, oct_bit b hb]
    conv => lhs; rw [e]
    rw [List.zipWith_append (by rw [List.length_take, List.length_replicate]; omega), z1, List.zipWith_cons_cons, z2]

/-- A word's one turned bit turns the sum. -/
theorem crc_turn (n m s n' m' s' b : Nat) (hb : b < 64) (h : word1 n' m' s' = word1 n m s ^^^ 2 ^ b) : crc n' m' s' ≠ crc n m s := by
  intro e
  have hl1 := sumB_lt (octs (body n m s)) 4294967295 (by decide) (octs_lt _)
  have hl2 := sumB_lt (octs (body n' m' s')) 4294967295 (by decide) (octs_lt _)
  unfold crc at e
  have e2 : sumB 4294967295 (octs (body n m s)) = sumB 4294967295 (octs (body n' m' s')) := by omega
  obtain ⟨p, x, q, h1, h2⟩ := oct_turn (word1 n m s) b hb
  have b1 : octs (body n m s) = (oct magic ++ p) ++ x :: (q ++ octs [0, 0, 0, 0, 0]) := by
    show oct magic ++ (oct (word1 n m s) ++ octs [0, 0, 0, 0, 0]) = _
    rw [h1]
    simp
  have b2 : octs (body n' m' s') = (oct magic ++ p) ++ (x ^^^ 2 ^ (b % 8)) :: (q ++ octs [0, 0, 0, 0, 0]) := by
    show oct magic ++ (oct (word1 n' m' s') ++ octs [0, 0, 0, 0, 0]) = _
    rw [h, h2]
    simp
  have l1 := octs_lt (body n m s)
  have l2 := octs_lt (body n' m' s')
  rw [b1, b2] at e2
  rw [b1] at l1
  rw [b2] at l2
  have hx := sumB_one _ _ _ _ _ (by decide) (fun y hy => l1 y (by simp only [List.mem_append] at hy ⊢; exact Or.inl hy)) (fun y hy => l1 y (by simp only [List.mem_append, List.mem_cons] at hy ⊢; exact Or.inr (Or.inr hy))) (l1 _ (by simp)) (l2 _ (by simp)) e2
  have h0 : x ^^^ x = x ^^^ (x ^^^ 2 ^ (b % 8)) := by rw [← hx]
  rw [Nat.xor_self, ← Nat.xor_assoc, Nat.xor_self, Nat.zero_xor] at h0
  have := Nat.two_pow_pos (b % 8)
  omega

theorem xor_ne (w b : Nat) : w ^^^ 2 ^ b ≠ w := by
  intro h
  have h0 : w ^^^ w = w ^^^ (w ^^^ 2 ^ b) := by rw [h]
  rw [Nat.xor_self, ← Nat.xor_assoc, Nat.xor_self, Nat.zero_xor] at h0
  have := Nat.two_pow_pos b
  omega

theorem word_parts (x : Nat) (h : x < 281474976710656) : word1 (pa x) (pb x) (pc x) = x := by unfold word1 pa pb pc; omega

/-- A superblock with one turned bit is none. -/
theorem turned (n m s : Nat) (i b : Nat) (hn : n < 65536) (hm : m < 65536) (hi : i < 8) (hb : b < 64) (x : Nat)
    (hx : rd (ints ((enc n m s).set i ((enc n m s).getD i 0 ^^^ 2 ^ b))) 1 = x) : ¬ good (ints ((enc n m s).set i ((enc n m s).getD i 0 ^^^ 2 ^ b))) x := by
  intro hg
  obtain ⟨_, h48, hgeo, he⟩ := hg
  have he2 : enc (pa x) (pb x) (pc x) = (enc n m s).set i ((enc n m s).getD i 0 ^^^ 2 ^ b) := by
    have : ∀ (l l' : List Nat), ints l = ints l' → l = l' := by
      intro l l' h
      exact (List.map_inj_right (fun a b h => Int.ofNat.inj h)).1 h
    exact this _ _ he
  have hw := word_parts x h48
  have e7 : ∀ n m s n' m' s' : Nat, word1 n' m' s' = word1 n m s → crc n' m' s' = crc n m s := by
    intro n m s n' m' s' h
    unfold crc body
    rw [h]
  rcases (by omega : i = 0 ∨ i = 1 ∨ i = 2 ∨ i = 3 ∨ i = 4 ∨ i = 5 ∨ i = 6 ∨ i = 7) with rfl | rfl | rfl | rfl | rfl | rfl | rfl | rfl
  all_goals simp only [enc, body, List.cons_append, List.nil_append, List.set_cons_zero, List.set_cons_succ, List.getD_cons_zero, List.getD_cons_succ, List.cons.injEq, and_true, true_and] at he2
  · exact xor_ne _ _ he2.1.symm
  · exact crc_turn n m s _ _ _ b hb he2.1 he2.2
  · exact xor_ne _ _ he2.2.1.symm
  · exact xor_ne _ _ he2.2.1.symm
  · exact xor_ne _ _ he2.2.1.symm
  · exact xor_ne _ _ he2.2.1.symm
  · exact xor_ne _ _ he2.2.1.symm
  · have := e7 _ _ _ _ _ _ he2.1
    rw [this] at he2
    exact xor_ne _ _ he2.2.symm

theorem xor64 (a b : Nat) (ha : a < 18446744073709551616) (hb : b < 64) : bits .xor .u64 (a : Int) (shl .u64 1 (b : Int)) = ((a ^^^ 2 ^ b : Nat) : Int) := by
  have h1 : (2 : Nat) ^ b < 2 ^ 64 := Nat.pow_lt_pow_right (by decide) hb
  have e64 : (2 : Nat) ^ 64 = 18446744073709551616 := by decide
  have e : shl .u64 1 (b : Int) = ((2 ^ b : Nat) : Int) := by
    unfold shl
    rw [show min ((b : Int).toNat) IntKind.u64.bits = b from by
      have : IntKind.u64.bits = 64 := rfl
      rw [this]; omega]
    rw [show (1 : Int) * 2 ^ b = ((2 ^ b : Nat) : Int) from by rw [Int.one_mul]; norm_cast]
    exact wu64 _ (Int.natCast_nonneg _) (Int.ofNat_lt.2 (by omega))
  have hl : a ^^^ 2 ^ b < 2 ^ 64 := Nat.xor_lt_two_pow (by omega) h1
  have hk : IntKind.u64.bits = 64 := rfl
  rw [e]
  simp only [bits, hk, BitVec.ofInt_natCast, BitVec.toNat_xor, BitVec.toNat_ofNat]
  rw [Nat.mod_eq_of_lt (show a < 2 ^ 64 from by omega), Nat.mod_eq_of_lt h1]
  exact wu64 _ (by omega) (by omega)

theorem enc_lt (n m s : Nat) (hn : n < 65536) (hm : m < 65536) (hs : s < 65536) : ∀ w ∈ enc n m s, w < 18446744073709551616 := by
  intro w hw
  have h1 := word1_lt n m s hn hm hs
  have h2 := crc_small n m s
  simp only [enc, body, List.cons_append, List.nil_append, List.mem_cons, List.not_mem_nil, or_false] at hw
  have h3 : magic < 18446744073709551616 := by decide
  omega

theorem ints_set (l : List Nat) (i x : Nat) : (ints l).set i (x : Int) = ints (l.set i x) := by
  unfold ints
  rw [List.map_set]
  rfl

end Go.Proofs.Ytlokklfkiechdaa.Fb
