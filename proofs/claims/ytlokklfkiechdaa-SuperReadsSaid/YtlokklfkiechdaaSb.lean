/- What the sums' functions of the program and of the reference come to. Plain Lean over the printed functions. The reference's sum of 32 bits, and the bytes of words. Plain Lean over the printed functions. Which geometries may be, by the program and by the reference. Plain Lean over the printed functions. Superblocks, encoded by the program and by the reference. Plain Lean over the printed functions. Decoded superblocks and equal lists. Plain Lean over the printed functions. -/
import Derived.Test.YtlokklfkiechdaaPFx4
import Derived.Test.YtlokklfkiechdaaCr
import Derived.Test.YtlokklfkiechdaaPFx6
import Derived.Test.YtlokklfkiechdaaPFx5
import Derived.Test.YtlokklfkiechdaaPFx7

set_option linter.unusedVariables false
set_option linter.unusedSimpArgs false
set_option maxRecDepth 100000
namespace Go.Proofs.Ytlokklfkiechdaa.Fb
open Go Go.RowKit Go.Proofs.Ytlokklfkiechdaa.PF Go.Proofs.Ytlokklfkiechdaa.Cr Go.Proofs.YtlokklfkiechdaaW.PrintWords Go.Proofs.YtlokklfkiechdaaW.PrintLast Go.Proofs.YtlokklfkiechdaaW.PrintMore

theorem w64 (n : Int) (h0 : -9223372036854775808 ≤ n) (h1 : n ≤ 9223372036854775807) : wrap64 n = n := by unfold wrap64; omega
theorem wu64 (n : Int) (h0 : 0 ≤ n) (h1 : n < 18446744073709551616) : IntKind.u64.wrap n = n := by
  have : IntKind.u64.wrap n = n % 18446744073709551616 := by simp [IntKind.wrap, IntKind.bits, IntKind.signed]
  rw [this]; omega
theorem wu64m (n : Int) : IntKind.u64.wrap n = n % 18446744073709551616 := by simp [IntKind.wrap, IntKind.bits, IntKind.signed]

def ints (l : List Nat) : List Int := l.map Int.ofNat
theorem ints_length (l : List Nat) : (ints l).length = l.length := by simp [ints]
theorem rd_ints (l : List Nat) (j : Nat) (h : j < l.length) : rd (ints l) (j : Int) = (l[j] : Nat) := by
  simp [rd, ints, List.getD_eq_getElem?_getD, h]

/-! ### one byte -/
theorem step_l0 : ∀ (d k : Nat) (r : Nat) (i : Int), r < 4294967296 → 0 ≤ i → 8 - i = d → d < k → crc_step32.l0 k r i = some ((itb d r : Nat) : Int)
  | 0, k, r, i, hr, h0, hd, hk => by
    obtain ⟨k, rfl⟩ : ∃ m, k = m + 1 := ⟨k - 1, by omega⟩
    simp only [crc_step32.l0, itb]
    rw [if_neg (by omega)]
  | d + 1, k, r, i, hr, h0, hd, hk => by
    obtain ⟨k, rfl⟩ : ∃ m, k = m + 1 := ⟨k - 1, by omega⟩
    simp only [crc_step32.l0, itb]
    rw [if_pos (by omega), bits_and1 r hr, w64 (i + 1) (by omega) (by omega)]
    have hdiv : ((r : Int) / 2) = ((r / 2 : Nat) : Int) := by omega
    have hlt := bst_lt r hr
    by_cases h : r % 2 = 1
    · rw [if_pos (by omega), hdiv, show (3988292384 : Int) = ((P32 : Nat) : Int) from rfl, bits_xor32 _ _ (by omega) (by decide)]
      have e : bst r = (r / 2) ^^^ P32 := if_pos h
      rw [← e]
      exact step_l0 d k _ (i + 1) hlt (by omega) (by omega) (by omega)
    · rw [if_neg (by omega), hdiv]
      have e : bst r = r / 2 := if_neg h
      rw [← e]
      exact step_l0 d k _ (i + 1) hlt (by omega) (by omega) (by omega)

theorem step_f (k s x : Nat) (hs : s < 4294967296) (hx : x < 256) (hk : 8 < k) : crc_step32.f k s x = some ((stp s x : Nat) : Int) := by
  unfold crc_step32.f
  rw [show ((x : Int) % 4294967296) = (x : Nat) from by omega, bits_xor32 s x hs (by omega)]
  exact step_l0 8 k _ 0 (xor_lt32 hs (by omega)) (by omega) (by omega) hk

/-! ### a part -/
theorem sum_l1 (x8 : List (List Int)) (x9 x10 : Int) (bs : List Nat) (hb : ∀ x ∈ bs, x < 256) (hlen : bs.length < 1099511627776) : ∀ (d k s : Nat) (j : Nat), s < 4294967296 → bs.length - j = d → j ≤ bs.length → d + 10 < k →
    crc_Sum32.l1 k s x8 x9 x10 (ints bs) (bs.length : Int) j = crc_Sum32.l0 (k - d - 1) ((sumB s (bs.drop j) : Nat) : Int) x8 x9 (wrap64 (x10 + 1))
  | 0, k, s, j, hs, hd, hj, hk => by
    obtain ⟨k, rfl⟩ : ∃ m, k = m + 1 := ⟨k - 1, by omega⟩
    simp only [crc_Sum32.l1]
    rw [if_neg (by omega), List.drop_of_length_le (by omega)]
    rfl
  | d + 1, k, s, j, hs, hd, hj, hk => by
    obtain ⟨k, rfl⟩ : ∃ m, k = m + 1 := ⟨k - 1, by omega⟩
    have hjl : j < bs.length := by omega
    have hx : bs[j] < 256 := hb _ (List.getElem_mem hjl)
    simp only [crc_Sum32.l1]
    rw [if_pos (by omega), if_pos (by omega), if_pos (by rw [ints_length]; omega), rd_ints bs j hjl, step_f k s bs[j] hs hx (by omega), Option.bind_some, w64 _ (by omega) (by omega)]
    rw [show ((j : Int) + 1) = ((j + 1 : Nat) : Int) from by omega]
    rw [sum_l1 x8 x9 x10 bs hb hlen d k _ (j + 1) (stp_lt s _ hs hx) (by omega) (by omega) (by omega)]
    rw [List.drop_eq_getElem_cons hjl]
    rw [show k + 1 - (d + 1) - 1 = k - d - 1 from by omega]
    rfl

theorem sum32_f (bs : List Nat) (hb : ∀ x ∈ bs, x < 256) (hlen : bs.length < 1099511627776) (k : Nat) (hk : bs.length + 14 < k) :
    crc_Sum32.f k [ints bs] = some ((4294967295 - sumB 4294967295 bs : Nat) : Int) := by
  obtain ⟨k, rfl⟩ : ∃ m, k = m + 1 := ⟨k - 1, by omega⟩
  unfold crc_Sum32.f
  simp only [crc_Sum32.l0]
  rw [if_pos (by simp), if_pos (by decide), if_pos (by simp)]
  have e : rd_L4 [ints bs] 0 = ints bs := rfl
  rw [e, ints_length]
  have h := sum_l1 [ints bs] (([ints bs] : List (List Int)).length : Int) 0 bs hb hlen bs.length k 4294967295 0 (by decide) (by omega) (by omega) (by omega)
  rw [show ((4294967295 : Nat) : Int) = 4294967295 from rfl, show ((0 : Nat) : Int) = 0 from rfl] at h
  rw [h]
  obtain ⟨k', hk'⟩ : ∃ m, k - bs.length - 1 = m + 1 := ⟨k - bs.length - 2, by omega⟩
  rw [hk']
  simp only [crc_Sum32.l0]
  rw [if_neg (by rw [w64 _ (by omega) (by omega)]; simp)]
  have hl := sumB_lt bs 4294967295 (by decide) hb
  rw [List.drop_zero, show (4294967295 : Int) = ((4294967295 : Nat) : Int) from rfl, bits_xor32 _ _ (by decide) hl, not32 _ hl]

/-! ### words' bytes -/
def oct (w : Nat) : List Nat := (List.range 8).map fun i => w / 256 ^ i % 256
def octs (l : List Nat) : List Nat := l.flatMap oct
theorem oct_lt (w : Nat) : ∀ x ∈ oct w, x < 256 := by
  intro x hx
  simp only [oct, List.mem_map] at hx
  obtain ⟨i, _, rfl⟩ := hx
  exact Nat.mod_lt _ (by decide)
theorem octs_lt (l : List Nat) : ∀ x ∈ octs l, x < 256 := by
  intro x hx
  simp only [octs, List.mem_flatMap] at hx
  obtain ⟨w, _, h⟩ := hx
  exact oct_lt w x h
theorem octs_length (l : List Nat) : (octs l).length = 8 * l.length := by
  induction l with
  | nil => rfl
  | cons w l ih =>
    have : octs (w :: l) = oct w ++ octs l := rfl
    rw [this, List.length_append, ih]
    simp [oct]
    omega
theorem shr_oct (w : Nat) (i : Nat) (hi : i < 8) : (shr .u64 (w : Int) (8 * (i : Int))) % 256 = ((w / 256 ^ i % 256 : Nat) : Int) := by
  unfold shr
  rw [show min (8 * (i : Int)).toNat IntKind.u64.bits = 8 * i from by
    have : IntKind.u64.bits = 64 := rfl
    rw [this]; omega]
  rw [show (2 : Int) ^ (8 * i) = ((256 ^ i : Nat) : Int) from by
    have : ∀ i < 8, (2 : Int) ^ (8 * i) = ((256 ^ i : Nat) : Int) := by decide
    exact this i hi]
  norm_cast

theorem oct_drop (w i : Nat) (hi : i < 8) : (oct w).drop i = (w / 256 ^ i % 256) :: (oct w).drop (i + 1) := by
  rw [List.drop_eq_getElem_cons (by simp [oct]; omega)]
  simp [oct]
theorem ints_append (a b : List Nat) : ints (a ++ b) = ints a ++ ints b := by simp [ints]

theorem oct_l1 (x7 : List Int) (x8 x9 : Int) (w : Nat) : ∀ (d k i : Nat) (acc : List Nat), 8 - i = d → i ≤ 8 → acc.length + d < 140737488355328 → d < k →
    crc_octets.l1 k (ints acc) w x7 x8 x9 i = crc_octets.l0 (k - d - 1) (ints (acc ++ (oct w).drop i)) x7 x8 (wrap64 (x9 + 1))
  | 0, k, i, acc, hd, hi, hl, hk => by
    obtain ⟨k, rfl⟩ : ∃ m, k = m + 1 := ⟨k - 1, by omega⟩
    simp only [crc_octets.l1]
    rw [if_neg (by omega), List.drop_of_length_le (by simp [oct]; omega), List.append_nil]
    rfl
  | d + 1, k, i, acc, hd, hi, hl, hk => by
    obtain ⟨k, rfl⟩ : ∃ m, k = m + 1 := ⟨k - 1, by omega⟩
    simp only [crc_octets.l1]
    rw [if_pos (by omega), w64 (8 * (i : Int)) (by omega) (by omega), if_pos (by omega), if_pos (by rw [ints_length]; omega), shr_oct w i (by omega), w64 ((i : Int) + 1) (by omega) (by omega)]
    have h := oct_l1 x7 x8 x9 w d k (i + 1) (acc ++ [w / 256 ^ i % 256]) (by omega) (by omega) (by simp; omega) (by omega)
    rw [ints_append] at h
    rw [show ((i : Int) + 1) = ((i + 1 : Nat) : Int) from by omega]
    have e : ints [w / 256 ^ i % 256] = [((w / 256 ^ i % 256 : Nat) : Int)] := rfl
    rw [e] at h
    rw [h, oct_drop w i (by omega), show k + 1 - (d + 1) - 1 = k - d - 1 from by omega, List.append_assoc]
    rfl

theorem octets_l0 (ws : List Nat) (hlen : ws.length < 1099511627776) : ∀ (d k j : Nat) (acc : List Nat), ws.length - j = d → j ≤ ws.length → acc.length + 8 * d < 140737488355328 → 12 * d + 12 < k →
    crc_octets.l0 k (ints acc) (ints ws) (ws.length : Int) j = some (ints (acc ++ octs (ws.drop j)))
  | 0, k, j, acc, hd, hj, hl, hk => by
    obtain ⟨k, rfl⟩ : ∃ m, k = m + 1 := ⟨k - 1, by omega⟩
    simp only [crc_octets.l0]
    rw [if_neg (by omega), List.drop_of_length_le (by omega)]
    simp [octs]
  | d + 1, k, j, acc, hd, hj, hl, hk => by
    obtain ⟨k, rfl⟩ : ∃ m, k = m + 1 := ⟨k - 1, by omega⟩
    have hjl : j < ws.length := by omega
    simp only [crc_octets.l0]
    rw [if_pos (by omega), if_pos (by omega), if_pos (by rw [ints_length]; omega), rd_ints ws j hjl]
    have h := oct_l1 (ints ws) (ws.length : Int) (j : Int) ws[j] 8 k 0 acc (by omega) (by omega) (by omega) (by omega)
    rw [show ((0 : Nat) : Int) = 0 from rfl] at h
    rw [h, List.drop_zero, w64 ((j : Int) + 1) (by omega) (by omega), show ((j : Int) + 1) = ((j + 1 : Nat) : Int) from by omega]
    have ho : (oct ws[j]).length = 8 := by simp [oct]
    rw [octets_l0 ws hlen d (k - 8 - 1) (j + 1) (acc ++ oct ws[j]) (by omega) (by omega) (by rw [List.length_append, ho]; omega) (by omega), List.drop_eq_getElem_cons hjl, List.append_assoc]
    rfl

theorem words32_f (ws : List Nat) (hlen : ws.length < 1000000) (k : Nat) (hk : 12 * ws.length + 20 < k) :
    crc_Words32.f k (ints ws) = some ((4294967295 - sumB 4294967295 (octs ws) : Nat) : Int) := by
  unfold crc_Words32.f crc_octets.f
  have h := octets_l0 ws (by omega) ws.length k 0 [] (by omega) (by omega) (by simp; omega) (by omega)
  rw [show ((0 : Nat) : Int) = 0 from rfl] at h
  rw [ints_length, show ([] : List Int) = ints [] from rfl, h, Option.bind_some, List.drop_zero, List.nil_append]
  rw [sum32_f (octs ws) (octs_lt ws) (by rw [octs_length]; omega) k (by rw [octs_length]; omega)]
  rfl

end Go.Proofs.Ytlokklfkiechdaa.Fb

set_option maxRecDepth 100000
namespace Go.Proofs.Ytlokklfkiechdaa.Fb
open Go Go.RowKit Go.Proofs.Ytlokklfkiechdaa.PF Go.Proofs.Ytlokklfkiechdaa.Cr Go.Proofs.YtlokklfkiechdaaW.PrintWords Go.Proofs.YtlokklfkiechdaaW.PrintLast Go.Proofs.YtlokklfkiechdaaW.PrintMore

theorem bt_str (bs : List Nat) (hb : ∀ x ∈ bs, x < 256) (j : Nat) (h : j < bs.length) : bt (strOfNums (ints bs)) (j : Int) = (bs[j] : Nat) := by
  have hs : (strOfNums (ints bs)).size = bs.length := by rw [strOfNums_size, ints_length]
  have hlt : (j : Int).toNat < (strOfNums (ints bs)).size := by rw [hs]; omega
  unfold bt
  rw [dif_pos hlt]
  have hx : bs[j] < 256 := hb _ (List.getElem_mem h)
  have : (strOfNums (ints bs))[(j : Int).toNat]'hlt = UInt8.ofNat bs[j] := by
    show ((strOfNums (ints bs)).data[(j : Int).toNat]'hlt) = _
    simp [strOfNums, ints]
  rw [this]
  simp
  omega

/-! ### the reference's sum, bit by bit -/
theorem bit_shr (x i : Nat) (hx : x < 256) (hi : i < 8) : bits .and .u32 ((shr .u8 (x : Int) (i : Int)) % 4294967296) 1 = ((x / 2 ^ i % 2 : Nat) : Int) := by
  have e : shr .u8 (x : Int) (i : Int) = ((x / 2 ^ i : Nat) : Int) := by
    unfold shr
    rw [show min ((i : Int).toNat) IntKind.u8.bits = i from by
      have : IntKind.u8.bits = 8 := rfl
      rw [this]; omega]
    norm_cast
  have hl : x / 2 ^ i < 256 := Nat.lt_of_le_of_lt (Nat.div_le_self _ _) hx
  rw [e]
  generalize x / 2 ^ i = y at *
  rw [show ((y : Nat) : Int) % 4294967296 = (y : Int) from by omega, bits_and1 _ (by omega)]

/-- the sum behind the bits from place i of byte n on -/
def rs (bs : List Nat) (r n i : Nat) : Nat := match bs.drop n with
  | [] => r
  | x :: tl => sumB (itr (8 - i) r (x / 2 ^ i)) tl

theorem rbit_lt (r b : Nat) (h : r < 4294967296) : rbit r b < 4294967296 := by
  unfold rbit
  split
  · omega
  · exact xor_lt32 (by omega) (by decide)

theorem rs_next (bs : List Nat) (hb : ∀ x ∈ bs, x < 256) (r n i : Nat) (hn : n < bs.length) (hi : i < 8) :
    rs bs r n i = if i = 7 then rs bs (rbit r (bs[n] / 2 ^ i % 2)) (n + 1) 0 else rs bs (rbit r (bs[n] / 2 ^ i % 2)) n (i + 1) := by
  have hd : bs.drop n = bs[n] :: bs.drop (n + 1) := List.drop_eq_getElem_cons hn
  have h8 : 8 - i = (7 - i) + 1 := by omega
  have e : rs bs r n i = sumB (itr (7 - i) (rbit r (bs[n] / 2 ^ i % 2)) (bs[n] / 2 ^ i / 2)) (bs.drop (n + 1)) := by
    unfold rs
    rw [hd]
    simp only [h8, itr]
  rw [e]
  by_cases h7 : i = 7
  · rw [if_pos h7]
    subst h7
    simp only [Nat.sub_self, itr]
    unfold rs
    cases hd2 : bs.drop (n + 1) with
    | nil => rfl
    | cons x tl =>
      have hx : x < 256 := hb x (by
        have : x ∈ bs.drop (n + 1) := by rw [hd2]; simp
        exact List.mem_of_mem_drop this)
      simp only [Nat.pow_zero, Nat.div_one, Nat.sub_zero]
      rw [← stp_eq _ x hx]
      rfl
  · rw [if_neg h7]
    unfold rs
    rw [hd]
    simp only
    rw [show 8 - (i + 1) = 7 - i from by omega, Nat.div_div_eq_div_mul, Nat.pow_succ]

theorem ref_l0 (bs : List Nat) (hb : ∀ x ∈ bs, x < 256) (hlen : bs.length < 1099511627776) : ∀ (d k r n i : Nat), r < 4294967296 → 8 * bs.length = 8 * n + i + d → i < 8 → d < k →
    cantleref02_Sum32.l0 k (strOfNums (ints bs)) (r : Int) ((8 * n + i : Nat) : Int) = some ((4294967295 - rs bs r n i : Nat) : Int)
  | 0, k, r, n, i, hr, hd, hi, hk => by
    obtain ⟨k, rfl⟩ : ∃ m, k = m + 1 := ⟨k - 1, by omega⟩
    have hs : (strOfNums (ints bs)).size = bs.length := by rw [strOfNums_size, ints_length]
    simp only [cantleref02_Sum32.l0]
    rw [hs, w64 _ (by omega) (by omega), if_neg (by omega)]
    have : rs bs r n i = r := by
      unfold rs
      rw [List.drop_of_length_le (by omega)]
    rw [this]
    congr 1
    omega
  | d + 1, k, r, n, i, hr, hd, hi, hk => by
    obtain ⟨k, rfl⟩ : ∃ m, k = m + 1 := ⟨k - 1, by omega⟩
    have hs : (strOfNums (ints bs)).size = bs.length := by rw [strOfNums_size, ints_length]
    have hn : n < bs.length := by omega
    have hx : bs[n] < 256 := hb _ (List.getElem_mem hn)
    have t1 : Int.tdiv ((8 * n + i : Nat) : Int) 8 = (n : Int) := by
      rw [Int.tdiv_eq_ediv_of_nonneg (by omega)]; omega
    have t2 : Int.tmod ((8 * n + i : Nat) : Int) 8 = (i : Int) := by
      rw [Int.tmod_eq_emod_of_nonneg (by omega)]; omega
    have t3 : Int.tdiv (r : Int) 2 % 4294967296 = ((r / 2 : Nat) : Int) := by
      rw [Int.tdiv_eq_ediv_of_nonneg (by omega)]; omega
    simp only [cantleref02_Sum32.l0]
    rw [hs, w64 _ (by omega) (by omega), if_pos (by omega), t1, t2, t3, w64 (n : Int) (by omega) (by omega), if_pos (by omega), if_pos (by omega), if_pos (by omega), bt_str bs hb n hn, bit_shr _ i hx hi, bits_and1 r hr, w64 _ (by omega) (by omega)]
    have hnext : ∀ r' : Nat, r' < 4294967296 → rs bs r n i = (if i = 7 then rs bs r' (n + 1) 0 else rs bs r' n (i + 1)) → cantleref02_Sum32.l0 k (strOfNums (ints bs)) (r' : Int) (((8 * n + i : Nat) : Int) + 1) = some ((4294967295 - rs bs r n i : Nat) : Int) := by
      intro r' hr' he
      by_cases h7 : i = 7
      · rw [if_pos h7] at he
        rw [he, show (((8 * n + i : Nat) : Int) + 1) = ((8 * (n + 1) + 0 : Nat) : Int) from by omega]
        exact ref_l0 bs hb hlen d k r' (n + 1) 0 hr' (by omega) (by omega) (by omega)
      · rw [if_neg h7] at he
        rw [he, show (((8 * n + i : Nat) : Int) + 1) = ((8 * n + (i + 1) : Nat) : Int) from by omega]
        exact ref_l0 bs hb hlen d k r' n (i + 1) hr' (by omega) (by omega) (by omega)
    have hrs := rs_next bs hb r n i hn hi
    by_cases hbit : bs[n] / 2 ^ i % 2 = r % 2
    · rw [if_pos (by rw [hbit])]
      apply hnext _ (by omega)
      rw [hrs]
      have : rbit r (bs[n] / 2 ^ i % 2) = r / 2 := if_pos hbit
      rw [this]
    · rw [if_neg (by
        intro e
        have : ((bs[n] / 2 ^ i % 2 : Nat) : Int) = ((r % 2 : Nat) : Int) := e
        exact hbit (by exact_mod_cast this)), show (3988292384 : Int) = ((P32 : Nat) : Int) from rfl, bits_xor32 _ _ (by omega) (by decide)]
      apply hnext _ (xor_lt32 (by omega) (by decide))
      rw [hrs]
      have : rbit r (bs[n] / 2 ^ i % 2) = (r / 2) ^^^ P32 := if_neg hbit
      rw [this]

theorem ref_f (bs : List Nat) (hb : ∀ x ∈ bs, x < 256) (hlen : bs.length < 1099511627776) (k : Nat) (hk : 8 * bs.length < k) :
    cantleref02_Sum32.f k (strOfNums (ints bs)) = some ((4294967295 - sumB 4294967295 bs : Nat) : Int) := by
  unfold cantleref02_Sum32.f
  have h := ref_l0 bs hb hlen (8 * bs.length) k 4294967295 0 0 (by decide) (by omega) (by omega) hk
  have e : rs bs 4294967295 0 0 = sumB 4294967295 bs := by
    unfold rs
    rw [List.drop_zero]
    cases bs with
    | nil => rfl
    | cons x tl =>
      simp only [Nat.pow_zero, Nat.div_one, Nat.sub_zero]
      rw [← stp_eq _ x (hb x (by simp))]
      rfl
  rw [e] at h
  exact h

/-! ### the reference's bytes -/
theorem rbytes_l1 (x6 : List Int) (x7 x8 : Int) (w : Nat) : ∀ (d k i v : Nat) (acc : List Nat), 8 - i = d → i ≤ 8 → v = w / 256 ^ i → v < 18446744073709551616 → acc.length + d < 140737488355328 → d < k →
    cantleref02_Bytes.l1 k (ints acc) v x6 x7 x8 i = cantleref02_Bytes.l0 (k - d - 1) (ints (acc ++ (oct w).drop i)) x6 x7 (wrap64 (x8 + 1))
  | 0, k, i, v, acc, hd, hi, hv, hv2, hl, hk => by
    obtain ⟨k, rfl⟩ : ∃ m, k = m + 1 := ⟨k - 1, by omega⟩
    simp only [cantleref02_Bytes.l1]
    rw [if_neg (by omega), List.drop_of_length_le (by simp [oct]; omega), List.append_nil]
    rfl
  | d + 1, k, i, v, acc, hd, hi, hv, hv2, hl, hk => by
    obtain ⟨k, rfl⟩ : ∃ m, k = m + 1 := ⟨k - 1, by omega⟩
    have t1 : Int.tmod (v : Int) 256 % 256 = ((v % 256 : Nat) : Int) := by
      rw [Int.tmod_eq_emod_of_nonneg (by omega)]; omega
    have t2 : IntKind.u64.wrap (Int.tdiv (v : Int) 256) = ((v / 256 : Nat) : Int) := by
      rw [Int.tdiv_eq_ediv_of_nonneg (by omega), wu64 _ (by omega) (by omega)]; omega
    simp only [cantleref02_Bytes.l1]
    rw [if_pos (by omega), if_pos (by rw [ints_length]; omega), t1, t2, w64 ((i : Int) + 1) (by omega) (by omega)]
    have h := rbytes_l1 x6 x7 x8 w d k (i + 1) (v / 256) (acc ++ [v % 256]) (by omega) (by omega) (by rw [hv, Nat.div_div_eq_div_mul, Nat.pow_succ]) (by omega) (by simp; omega) (by omega)
    rw [ints_append] at h
    rw [show ((i : Int) + 1) = ((i + 1 : Nat) : Int) from by omega]
    have e : ints [v % 256] = [((v % 256 : Nat) : Int)] := rfl
    rw [e] at h
    rw [h, oct_drop w i (by omega), show k + 1 - (d + 1) - 1 = k - d - 1 from by omega, List.append_assoc, ← hv]
    rfl

theorem rbytes_l0 (ws : List Nat) (hw : ∀ w ∈ ws, w < 18446744073709551616) (hlen : ws.length < 1099511627776) : ∀ (d k j : Nat) (acc : List Nat), ws.length - j = d → j ≤ ws.length → acc.length + 8 * d < 140737488355328 → 12 * d + 12 < k →
    cantleref02_Bytes.l0 k (ints acc) (ints ws) (ws.length : Int) j = some (strOfNums (ints (acc ++ octs (ws.drop j))))
  | 0, k, j, acc, hd, hj, hl, hk => by
    obtain ⟨k, rfl⟩ : ∃ m, k = m + 1 := ⟨k - 1, by omega⟩
    simp only [cantleref02_Bytes.l0]
    rw [if_neg (by omega), List.drop_of_length_le (by omega)]
    simp [octs]
  | d + 1, k, j, acc, hd, hj, hl, hk => by
    obtain ⟨k, rfl⟩ : ∃ m, k = m + 1 := ⟨k - 1, by omega⟩
    have hjl : j < ws.length := by omega
    simp only [cantleref02_Bytes.l0]
    rw [if_pos (by omega), if_pos (by omega), if_pos (by rw [ints_length]; omega), rd_ints ws j hjl]
    have h := rbytes_l1 (ints ws) (ws.length : Int) (j : Int) ws[j] 8 k 0 ws[j] acc (by omega) (by omega) (by simp) (hw _ (List.getElem_mem hjl)) (by omega) (by omega)
    rw [show ((0 : Nat) : Int) = 0 from rfl] at h
    rw [h, List.drop_zero, w64 ((j : Int) + 1) (by omega) (by omega), show ((j : Int) + 1) = ((j + 1 : Nat) : Int) from by omega]
    have ho : (oct ws[j]).length = 8 := by simp [oct]
    rw [rbytes_l0 ws hw hlen d (k - 8 - 1) (j + 1) (acc ++ oct ws[j]) (by omega) (by omega) (by rw [List.length_append, ho]; omega) (by omega), List.drop_eq_getElem_cons hjl, List.append_assoc]
    rfl

theorem rbytes_f (ws : List Nat) (hw : ∀ w ∈ ws, w < 18446744073709551616) (hlen : ws.length < 1000000) (k : Nat) (hk : 12 * ws.length + 12 < k) :
    cantleref02_Bytes.f k (ints ws) = some (strOfNums (ints (octs ws))) := by
  unfold cantleref02_Bytes.f
  have h := rbytes_l0 ws hw (by omega) ws.length k 0 [] (by omega) (by omega) (by simp; omega) hk
  rw [show ((0 : Nat) : Int) = 0 from rfl] at h
  rw [ints_length, show ([] : List Int) = ints [] from rfl, h, List.drop_zero, List.nil_append]

end Go.Proofs.Ytlokklfkiechdaa.Fb

set_option maxRecDepth 100000
namespace Go.Proofs.Ytlokklfkiechdaa.Fb
open Go Go.RowKit Go.Proofs.Ytlokklfkiechdaa.PF Go.Proofs.Ytlokklfkiechdaa.Cr Go.Proofs.YtlokklfkiechdaaW.PrintWords Go.Proofs.YtlokklfkiechdaaW.PrintLast Go.Proofs.YtlokklfkiechdaaW.PrintMore

open Go.Proofs.Ytlokklfkiechdaa.Ko (pows up8 tot pows_in)
def inB (n m : Int) : Prop := 1 ≤ n ∧ n ≤ 65534 ∧ 1 ≤ m ∧ m ≤ 65534
instance (n m : Int) : Decidable (inB n m) := by unfold inB; infer_instance
def geoOk (n m s : Int) : Bool := decide (inB n m) && decide (s ∈ pows) && decide (tot n m s ≤ 4194304)
theorem ko_geo (n m s : Int) : Ko.geoOk n m s = geoOk n m s := by
  unfold Ko.geoOk geoOk Ko.inB
  congr 2
  unfold inB
  by_cases h1 : 1 ≤ n <;> by_cases h2 : n ≤ 65534 <;> by_cases h3 : 1 ≤ m <;> by_cases h4 : m ≤ 65534 <;> simp [h1, h2, h3, h4]

theorem ones : (List.range 4033).all (fun j => (bits_OnesCount.f ((64 + j : Nat) : Int)).map (fun t => t == 1) == some (decide (((64 + j : Nat) : Int) ∈ pows))) = true := by decide +kernel
theorem ones_at (s : Int) (h0 : 64 ≤ s) (h1 : s ≤ 4096) : (bits_OnesCount.f (IntKind.u64.wrap s)).bind (fun t => some (t == 1)) = some (decide (s ∈ pows)) := by
  obtain ⟨j, rfl⟩ : ∃ j : Nat, s = ((64 + j : Nat) : Int) := ⟨(s - 64).toNat, by omega⟩
  rw [wu64 _ (by omega) (by omega)]
  have h := List.all_eq_true.1 ones j (List.mem_range.2 (by omega))
  simp only [beq_iff_eq] at h
  rw [← h]
  cases bits_OnesCount.f ((64 + j : Nat) : Int) <;> rfl

theorem right_f (n m s : Int) : geometry_Geometry_right.f n m s = some (decide (inB n m) && decide (s ∈ pows)) := by
  unfold geometry_Geometry_right.f
  by_cases hb : inB n m
  · obtain ⟨h1, h2, h3, h4⟩ := id hb
    rw [if_pos h1, if_pos h2, if_pos h3, if_pos h4, decide_eq_true hb, Bool.true_and]
    by_cases h5 : 64 ≤ s
    · by_cases h6 : s ≤ 4096
      · rw [if_pos h5, if_pos h6]
        exact ones_at s h5 h6
      · rw [if_pos h5, if_neg h6, decide_eq_false (fun h => h6 (pows_in h).2.1)]
    · rw [if_neg h5, decide_eq_false (fun h => h5 (pows_in h).1)]
  · rw [decide_eq_false hb, Bool.false_and]
    unfold inB at hb
    repeat' split
    all_goals first | rfl | (exfalso; omega)

theorem lines_f (x : Int) (h0 : 0 ≤ x) (h1 : x < 1000000000) : geometry_lines.f x = some (up8 x) := by
  unfold geometry_lines.f up8
  rw [w64 (x + 8) (by omega) (by omega), w64 (x + 8 - 1) (by omega) (by omega), Int.tdiv_eq_ediv_of_nonneg (by omega), w64 ((x + 8 - 1) / 8) (by omega) (by omega), w64 _ (by omega) (by omega)]
  congr 2
  omega

theorem all_f (n m s : Int) (hb : inB n m) (hs : s ∈ pows) : geometry_Geometry_all.f n m s = some (tot n m s) := by
  obtain ⟨h1, h2, h3, h4⟩ := hb
  obtain ⟨h5, h6, _⟩ := pows_in hs
  have hp0 : 0 ≤ n * (s / 8) := Int.mul_nonneg (by omega) (by omega)
  have hp1 : n * (s / 8) ≤ 65534 * 512 := Int.mul_le_mul h2 (by omega) (by omega) (by omega)
  have hsl : geometry_Geometry_slots.f n m s = some (16 + 8 * m) := by
    unfold geometry_Geometry_slots.f
    rw [w64 (m * 8) (by omega) (by omega), w64 _ (by omega) (by omega)]
    congr 1
    omega
  have hbm : geometry_Geometry_bitmap.f n m s = some (16 + 8 * m + up8 n, (n + 63) / 64) := by
    unfold geometry_Geometry_bitmap.f
    rw [hsl, Option.bind_some, lines_f n (by omega) (by omega), Option.bind_some]
    have hu : up8 n ≤ n + 7 ∧ 0 ≤ up8 n := by unfold up8; omega
    rw [w64 _ (by omega) (by omega), w64 (n + 64) (by omega) (by omega), w64 (n + 64 - 1) (by omega) (by omega), Int.tdiv_eq_ediv_of_nonneg (by omega), w64 _ (by omega) (by omega)]
    congr 2
    omega
  have hbl : geometry_Geometry_blocks.f n m s = some (16 + 8 * m + up8 n + up8 ((n + 63) / 64)) := by
    unfold geometry_Geometry_blocks.f
    rw [hbm, Option.bind_some]
    simp only
    rw [lines_f _ (by omega) (by omega), Option.bind_some]
    have hu : up8 n ≤ n + 7 ∧ 0 ≤ up8 n := by unfold up8; omega
    have hu2 : up8 ((n + 63) / 64) ≤ n + 77 ∧ 0 ≤ up8 ((n + 63) / 64) := by unfold up8; omega
    rw [w64 _ (by omega) (by omega)]
  unfold geometry_Geometry_all.f
  rw [hbl, Option.bind_some]
  have hu : up8 n ≤ n + 7 ∧ 0 ≤ up8 n := by unfold up8; omega
  have hu2 : up8 ((n + 63) / 64) ≤ n + 77 ∧ 0 ≤ up8 ((n + 63) / 64) := by unfold up8; omega
  rw [Int.tdiv_eq_ediv_of_nonneg (by omega), w64 (s / 8) (by omega) (by omega), w64 (n * (s / 8)) (by omega) (by omega), w64 _ (by omega) (by omega)]
  rfl

theorem may_f (n m s : Int) : geometry_Geometry_May.f n m s = some (geoOk n m s) := by
  unfold geometry_Geometry_May.f geoOk
  rw [right_f, Option.bind_some]
  by_cases hb : inB n m
  · by_cases hs : s ∈ pows
    · rw [decide_eq_true hb, decide_eq_true hs, Bool.true_and, if_pos rfl, all_f n m s hb hs, Option.bind_some, Bool.true_and]
    · rw [decide_eq_false hs, Bool.and_false, if_neg (by decide), Bool.false_and]
  · rw [decide_eq_false hb, Bool.false_and, if_neg (by decide), Bool.false_and]

/-! ### the reference -/
theorem of_f (n m s : Int) : ∃ a b c d e, cantleref04_Of.f n m s = some (a, b, c, d, e, geoOk n m s) := by
  unfold cantleref04_Of.f Ko.parts
  rw [ko_geo]
  cases geoOk n m s
  · exact ⟨_, _, _, _, _, rfl⟩
  · exact ⟨_, _, _, _, _, rfl⟩

end Go.Proofs.Ytlokklfkiechdaa.Fb

set_option maxRecDepth 100000
namespace Go.Proofs.Ytlokklfkiechdaa.Fb
open Go Go.RowKit Go.Proofs.Ytlokklfkiechdaa.PF Go.Proofs.Ytlokklfkiechdaa.Cr Go.Proofs.YtlokklfkiechdaaW.PrintWords Go.Proofs.YtlokklfkiechdaaW.PrintLast Go.Proofs.YtlokklfkiechdaaW.PrintMore
open Go.Proofs.Ytlokklfkiechdaa.Ko (pows up8 tot pows_in)

theorem or_shl (a v at_ : Nat) (ha : a < 2 ^ at_) (hv : v < 65536) (hat : at_ ≤ 48) : bits .or .u64 (a : Int) (shl .u64 (v : Int) (at_ : Int)) = ((a + v * 2 ^ at_ : Nat) : Int) := by
  have h1 : v * 2 ^ at_ < 2 ^ 64 := by
    have : v * 2 ^ at_ < 65536 * 2 ^ at_ := Nat.mul_lt_mul_of_pos_right hv (Nat.two_pow_pos _)
    have h2 : 2 ^ at_ ≤ 2 ^ 48 := Nat.pow_le_pow_right (by decide) hat
    have h3 : 65536 * 2 ^ at_ ≤ 65536 * 2 ^ 48 := Nat.mul_le_mul_left _ h2
    have h4 : (65536 : Nat) * 2 ^ 48 = 2 ^ 64 := by decide
    omega
  have h2 : 2 ^ at_ ≤ 2 ^ 48 := Nat.pow_le_pow_right (by decide) hat
  have e : shl .u64 (v : Int) (at_ : Int) = ((v * 2 ^ at_ : Nat) : Int) := by
    unfold shl
    rw [show min ((at_ : Int).toNat) IntKind.u64.bits = at_ from by
      have : IntKind.u64.bits = 64 := rfl
      rw [this]; omega]
    rw [show (v : Int) * 2 ^ at_ = ((v * 2 ^ at_ : Nat) : Int) from by norm_cast]
    exact wu64 _ (by omega) (by have : (2 : Nat) ^ 64 = 18446744073709551616 := by decide
                                omega)
  have hb := (bits_nat .u64 64 (by decide) (fun n h0 h1 => wu64 n h0 (by have : (2 : Int) ^ 64 = 18446744073709551616 := by decide
                                                                         omega)) a (v * 2 ^ at_) (by have : (2 : Nat) ^ 48 < 2 ^ 64 := by decide
                                                                                                     omega) h1).2
  rw [e, hb]
  congr 1
  rw [Nat.or_comm, Nat.mul_comm v, ← Nat.two_pow_add_eq_or_of_lt ha]
  omega

theorem fmay (v : Nat) (hv : v < 65536) : pack_Field_may.f 16 (v : Int) = some true := by
  unfold pack_Field_may.f
  rw [if_pos (by decide), if_pos (by decide), if_neg (by decide), if_pos (by decide)]
  have e : shr .u64 (v : Int) 16 = 0 := by
    unfold shr
    rw [show min ((16 : Int).toNat) IntKind.u64.bits = 16 from rfl]
    have : (2 : Int) ^ 16 = 65536 := by decide
    omega
  rw [e]
  rfl

theorem pack_step (k : Nat) (acc at_ v : Nat) (xs : List S83) (n i : Nat) (hn : xs.length = n) (hi : i < n) (hx : xs[i]? = some ⟨16, (v : Int)⟩) (hv : v < 65536) (hat : at_ ≤ 48) (ha : acc < 2 ^ at_) (hnn : n < 1000) :
    pack_Pack.l0 (k + 1) (acc : Int) (at_ : Int) xs (n : Int) (i : Int) = pack_Pack.l0 k ((acc + v * 2 ^ at_ : Nat) : Int) ((at_ + 16 : Nat) : Int) xs (n : Int) ((i + 1 : Nat) : Int) := by
  have hrd : rd_T83 xs (i : Int) = ⟨16, (v : Int)⟩ := by
    unfold rd_T83
    rw [List.getD_eq_getElem?_getD, Int.toNat_natCast, hx]
    rfl
  simp only [pack_Pack.l0]
  rw [if_pos (by omega), if_pos (by omega), if_pos (by omega), hrd]
  simp only
  rw [fmay v hv, Option.bind_some, if_pos rfl, w64 (64 - (at_ : Int)) (by omega) (by omega), if_neg (by omega), if_pos (by omega), or_shl acc v at_ ha hv hat, w64 _ (by omega) (by omega), w64 _ (by omega) (by omega)]
  rfl

theorem pack3_f (a b c : Nat) (ha : a < 65536) (hb : b < 65536) (hc : c < 65536) (k : Nat) (hk : 4 < k) :
    pack_Pack.f k [⟨16, (a : Int)⟩, ⟨16, (b : Int)⟩, ⟨16, (c : Int)⟩] = some (((a + 65536 * b + 4294967296 * c : Nat) : Int), true) := by
  obtain ⟨k, rfl⟩ : ∃ m, k = m + 4 := ⟨k - 4, by omega⟩
  unfold pack_Pack.f
  have h1 := pack_step (k + 3) 0 0 a [⟨16, (a : Int)⟩, ⟨16, (b : Int)⟩, ⟨16, (c : Int)⟩] 3 0 rfl (by decide) rfl ha (by decide) (by decide) (by decide)
  have h2 := pack_step (k + 2) (0 + a * 2 ^ 0) (0 + 16) b [⟨16, (a : Int)⟩, ⟨16, (b : Int)⟩, ⟨16, (c : Int)⟩] 3 1 rfl (by decide) rfl hb (by decide) (by simpa using ha) (by decide)
  have h3 := pack_step (k + 1) (0 + a * 2 ^ 0 + b * 2 ^ (0 + 16)) (0 + 16 + 16) c [⟨16, (a : Int)⟩, ⟨16, (b : Int)⟩, ⟨16, (c : Int)⟩] 3 2 rfl (by decide) rfl hc (by decide) (by simp; omega) (by decide)
  have h0 : pack_Pack.l0 (k + 4) 0 0 [⟨16, (a : Int)⟩, ⟨16, (b : Int)⟩, ⟨16, (c : Int)⟩] (([⟨16, (a : Int)⟩, ⟨16, (b : Int)⟩, ⟨16, (c : Int)⟩] : List S83).length : Int) 0 = _ := (h1.trans h2).trans h3
  rw [h0]
  simp only [pack_Pack.l0]
  rw [if_neg (by simp)]
  congr 3
  simp
  omega

def magic : Nat := 3544409100874826051
theorem magic_f (k : Nat) (hk : 12 < k) : pack_Words.f k [67, 65, 78, 84, 76, 69, 48, 49] = some [(magic : Int)] := by
  have h : pack_Words.f 12 [67, 65, 78, 84, 76, 69, 48, 49] = some [(magic : Int)] := by decide +kernel
  exact at_rounds (g := fun k => pack_Words.f k [67, 65, 78, 84, 76, 69, 48, 49]) (fun k => pack_Words.mono _ k) (by omega) h

def word1 (n m s : Nat) : Nat := n + 65536 * m + 4294967296 * s
def body (n m s : Nat) : List Nat := [magic, word1 n m s, 0, 0, 0, 0, 0]
def crc (n m s : Nat) : Nat := 4294967295 - sumB 4294967295 (octs (body n m s))
def enc (n m s : Nat) : List Nat := body n m s ++ [crc n m s]

theorem geo_small {n m s : Int} (h : geoOk n m s = true) : ∃ a b c : Nat, n = a ∧ m = b ∧ s = c ∧ a < 65536 ∧ b < 65536 ∧ c < 65536 := by
  unfold geoOk at h
  simp only [Bool.and_eq_true, decide_eq_true_eq] at h
  obtain ⟨⟨⟨h1, h2, h3, h4⟩, h5⟩, _⟩ := h
  obtain ⟨h6, h7, _⟩ := pows_in h5
  exact ⟨n.toNat, m.toNat, s.toNat, by omega, by omega, by omega, by omega, by omega, by omega⟩

theorem crc_small (n m s : Nat) : crc n m s < 4294967296 := by unfold crc; omega

theorem encode_f (n m s : Int) (k : Nat) (hk : 200 < k) :
    super_Encode.f k n m s = some (if geoOk n m s then (ints (enc n.toNat m.toNat s.toNat), 0) else ([], 1)) := by
  unfold super_Encode.f
  rw [may_f, Option.bind_some]
  cases h : geoOk n m s with
  | false => rfl
  | true =>
    obtain ⟨a, b, c, rfl, rfl, rfl, ha, hb, hc⟩ := geo_small h
    rw [if_pos rfl, if_pos rfl, wu64 (a : Int) (by omega) (by omega), wu64 (b : Int) (by omega) (by omega), wu64 (c : Int) (by omega) (by omega), pack3_f a b c ha hb hc k (by omega), Option.bind_some, magic_f k (by omega), Option.bind_some, if_pos (by decide)]
    have hw := words32_f (body a b c) (by simp [body]) k (by simp [body]; omega)
    have e : ints (body a b c) = [rd [(magic : Int)] 0, ((word1 a b c : Nat) : Int), 0, 0, 0, 0, 0] := rfl
    rw [e] at hw
    have e1 : ((a + 65536 * b + 4294967296 * c : Nat) : Int) = ((word1 a b c : Nat) : Int) := rfl
    rw [e1]
    simp only
    rw [hw, Option.bind_some]
    have hcr := crc_small a b c
    have e2 : IntKind.u64.wrap ((4294967295 - sumB 4294967295 (octs (body a b c)) : Nat) : Int) = ((crc a b c : Nat) : Int) := wu64 _ (by omega) (by omega)
    rw [e2, Int.toNat_natCast, Int.toNat_natCast, Int.toNat_natCast]
    rfl

/-! ### the reference -/
theorem renc_l0 (n m s : Int) (k : Nat) : cantleref05_Encode.l0 (k + 9) n m s 0 7 = cantleref05_Encode.l0 (k + 1) n m s (magic : Int) (-1) := by
  have r : ∀ (k : Nat) (x i y : Int), 0 ≤ i → i < 8 → IntKind.u64.wrap ((IntKind.u64.wrap (256 * x)) + (IntKind.u64.wrap (bt (⟨#[67, 65, 78, 84, 76, 69, 48, 49]⟩ : ByteArray) i))) = y →
      cantleref05_Encode.l0 (k + 1) n m s x i = cantleref05_Encode.l0 k n m s y (i - 1) := by
    intro k x i y h0 h1 hy
    simp only [cantleref05_Encode.l0]
    rw [if_pos (by omega), if_pos h0, if_pos h1, hy, w64 (i - 1) (by omega) (by omega)]
  rw [r (k + 8) 0 7 49 (by decide) (by decide) (by decide +kernel), show (7 : Int) - 1 = 6 from rfl]
  rw [r (k + 7) 49 6 12592 (by decide) (by decide) (by decide +kernel), show (6 : Int) - 1 = 5 from rfl]
  rw [r (k + 6) 12592 5 3223621 (by decide) (by decide) (by decide +kernel), show (5 : Int) - 1 = 4 from rfl]
  rw [r (k + 5) 3223621 4 825247052 (by decide) (by decide) (by decide +kernel), show (4 : Int) - 1 = 3 from rfl]
  rw [r (k + 4) 825247052 3 211263245396 (by decide) (by decide) (by decide +kernel), show (3 : Int) - 1 = 2 from rfl]
  rw [r (k + 3) 211263245396 2 54083390821454 (by decide) (by decide) (by decide +kernel), show (2 : Int) - 1 = 1 from rfl]
  rw [r (k + 2) 54083390821454 1 13845348050292289 (by decide) (by decide) (by decide +kernel), show (1 : Int) - 1 = 0 from rfl]
  rw [r (k + 1) 13845348050292289 0 (magic : Int) (by decide) (by decide) (by decide +kernel)]
  rfl

theorem word1_lt (a b c : Nat) (ha : a < 65536) (hb : b < 65536) (hc : c < 65536) : word1 a b c < 281474976710656 := by unfold word1; omega

theorem rencode_f (n m s : Int) (k : Nat) (hk : 700 < k) :
    cantleref05_Encode.f k n m s = some (if geoOk n m s then (ints (enc n.toNat m.toNat s.toNat), true) else ([], false)) := by
  obtain ⟨x1, x2, x3, x4, x5, hof⟩ := of_f n m s
  unfold cantleref05_Encode.f
  rw [hof, Option.bind_some]
  simp only
  cases h : geoOk n m s with
  | false => rfl
  | true =>
    obtain ⟨a, b, c, rfl, rfl, rfl, ha, hb, hc⟩ := geo_small h
    obtain ⟨k, rfl⟩ : ∃ m, k = m + 9 := ⟨k - 9, by omega⟩
    rw [if_pos rfl, if_pos rfl, renc_l0]
    simp only [cantleref05_Encode.l0]
    rw [if_neg (by decide)]
    have hw1 := word1_lt a b c ha hb hc
    have e1 : IntKind.u64.wrap ((IntKind.u64.wrap ((IntKind.u64.wrap (a : Int)) + (IntKind.u64.wrap (65536 * (IntKind.u64.wrap (b : Int)))))) + (IntKind.u64.wrap (4294967296 * (IntKind.u64.wrap (c : Int))))) = ((word1 a b c : Nat) : Int) := by
      rw [wu64 (a : Int) (by omega) (by omega), wu64 (b : Int) (by omega) (by omega), wu64 (c : Int) (by omega) (by omega), wu64 (65536 * (b : Int)) (by omega) (by omega), wu64 (4294967296 * (c : Int)) (by omega) (by omega), wu64 ((a : Int) + 65536 * (b : Int)) (by omega) (by omega), wu64 _ (by omega) (by omega)]
      unfold word1
      omega
    rw [e1, Option.bind_some]
    have e : ([(magic : Int), ((word1 a b c : Nat) : Int), 0, 0, 0, 0, 0] : List Int) = ints (body a b c) := rfl
    rw [e, rbytes_f (body a b c) (by
      intro w hw
      simp only [body, List.mem_cons, List.not_mem_nil, or_false] at hw
      rcases hw with rfl | rfl | rfl | rfl | rfl | rfl | rfl
      · decide
      · omega
      all_goals decide) (by simp [body]) k (by simp [body]; omega), Option.bind_some, ref_f (octs (body a b c)) (octs_lt _) (by rw [octs_length]; simp [body]) k (by rw [octs_length]; simp [body]; omega), Option.bind_some, if_pos (by simp [ints, body])]
    have hcr := crc_small a b c
    have e2 : IntKind.u64.wrap ((4294967295 - sumB 4294967295 (octs (body a b c)) : Nat) : Int) = ((crc a b c : Nat) : Int) := wu64 _ (by omega) (by omega)
    rw [e2, Int.toNat_natCast, Int.toNat_natCast, Int.toNat_natCast]
    rw [show ints (enc a b c) = ints (body a b c) ++ [((crc a b c : Nat) : Int)] from rfl]

end Go.Proofs.Ytlokklfkiechdaa.Fb

set_option maxRecDepth 100000
namespace Go.Proofs.Ytlokklfkiechdaa.Fb
open Go Go.RowKit Go.Proofs.Ytlokklfkiechdaa.PF Go.Proofs.Ytlokklfkiechdaa.Cr Go.Proofs.YtlokklfkiechdaaW.PrintWords Go.Proofs.YtlokklfkiechdaaW.PrintLast Go.Proofs.YtlokklfkiechdaaW.PrintMore
open Go.Proofs.Ytlokklfkiechdaa.Ko (pows up8 tot pows_in)

/-! ### equal lists -/
theorem rd_at (l : List Int) (j : Nat) (h : j < l.length) : rd l (j : Int) = l[j] := by
  simp [rd, List.getD_eq_getElem?_getD, h]

theorem drop_eq {l l' : List Int} {j : Nat} (h : j < l.length) (h' : j < l'.length) : l.drop j = l'.drop j ↔ l[j] = l'[j] ∧ l.drop (j + 1) = l'.drop (j + 1) := by
  rw [List.drop_eq_getElem_cons h, List.drop_eq_getElem_cons h', List.cons.injEq]

theorem equal_l0 (l l' : List Int) (hlen : l.length < 1099511627776) (hll : l.length = l'.length) : ∀ (d k j : Nat), l.length - j = d → j ≤ l.length → d < k →
    slices_Equal_uint64_uint64.l0 k l l' (l.length : Int) j = some (decide (l.drop j = l'.drop j))
  | 0, k, j, hd, hj, hk => by
    obtain ⟨k, rfl⟩ : ∃ m, k = m + 1 := ⟨k - 1, by omega⟩
    simp only [slices_Equal_uint64_uint64.l0]
    rw [if_neg (by omega), List.drop_of_length_le (by omega), List.drop_of_length_le (by omega)]
    simp
  | d + 1, k, j, hd, hj, hk => by
    obtain ⟨k, rfl⟩ : ∃ m, k = m + 1 := ⟨k - 1, by omega⟩
    have h1 : j < l.length := by omega
    have h2 : j < l'.length := by omega
    simp only [slices_Equal_uint64_uint64.l0]
    rw [if_pos (by omega), if_pos (by omega), if_pos (by omega), if_pos (by omega), rd_at l j h1, rd_at l' j h2, w64 _ (by omega) (by omega)]
    have ih := equal_l0 l l' hlen hll d k (j + 1) (by omega) (by omega) (by omega)
    rw [show (((j + 1 : Nat)) : Int) = (j : Int) + 1 from by omega] at ih
    by_cases he : l[j] = l'[j]
    · rw [if_pos he, ih]
      simp only [drop_eq h1 h2, he, true_and]
    · rw [if_neg he]
      simp only [drop_eq h1 h2, he, false_and, decide_false]

theorem equal_f (l l' : List Int) (hlen : l.length < 1099511627776) (k : Nat) (hk : l.length < k) : slices_Equal_uint64_uint64.f k l l' = some (decide (l = l')) := by
  unfold slices_Equal_uint64_uint64.f
  by_cases h : l.length = l'.length
  · rw [if_pos (by omega)]
    have := equal_l0 l l' hlen h l.length k 0 (by omega) (by omega) hk
    rw [List.drop_zero, List.drop_zero] at this
    exact this
  · rw [if_neg (by omega), decide_eq_false (fun e => h (by rw [e]))]

/-! ### a word split in three -/
theorem split_step (k : Nat) (x : Nat) (acc : List Int) (left i : Nat) (hx : x < 18446744073709551616) (hl : 16 ≤ left) (hl2 : left ≤ 64) (hi : i < 3) (ha : acc.length < 10) :
    pack_Split.l0 (k + 1) (x : Int) acc (left : Int) [16, 16, 16] 3 (i : Int) = pack_Split.l0 k ((x / 65536 : Nat) : Int) (acc ++ [((x % 65536 : Nat) : Int)]) ((left - 16 : Nat) : Int) [16, 16, 16] 3 ((i + 1 : Nat) : Int) := by
  have hrd : rd [16, 16, 16] (i : Int) = 16 := by
    rcases (by omega : i = 0 ∨ i = 1 ∨ i = 2) with rfl | rfl | rfl <;> rfl
  have e1 : shr .u64 (x : Int) 16 = ((x / 65536 : Nat) : Int) := by
    unfold shr
    rw [show min ((16 : Int).toNat) IntKind.u64.bits = 16 from rfl]
    have : (2 : Int) ^ 16 = 65536 := by decide
    omega
  have e2 : shr .u64 (shl .u64 (x : Int) 48) 48 = ((x % 65536 : Nat) : Int) := by
    unfold shr shl
    rw [show min ((48 : Int).toNat) IntKind.u64.bits = 48 from rfl, wu64m]
    have : (2 : Int) ^ 48 = 281474976710656 := by decide
    rw [this]
    omega
  simp only [pack_Split.l0]
  rw [if_pos (by omega), if_pos (by omega), if_pos (by simp; omega), hrd, if_neg (by decide), if_neg (by omega), w64 (64 - 16) (by decide) (by decide), if_pos (by decide), if_pos (by omega), if_pos (by decide), show (64 - 16 : Int) = 48 from rfl, e1, e2, w64 _ (by omega) (by omega), w64 _ (by omega) (by omega)]
  rw [show ((left : Int) - 16) = ((left - 16 : Nat) : Int) from by omega]
  rfl

theorem split_f (x : Nat) (hx : x < 18446744073709551616) (k : Nat) (hk : 4 < k) :
    pack_Split.f k (x : Int) [16, 16, 16] = some (if x < 281474976710656 then ([((x % 65536 : Nat) : Int), ((x / 65536 % 65536 : Nat) : Int), ((x / 4294967296 : Nat) : Int)], true) else ([], false)) := by
  obtain ⟨k, rfl⟩ : ∃ m, k = m + 4 := ⟨k - 4, by omega⟩
  unfold pack_Split.f
  have h1 := split_step (k + 3) x [] 64 0 hx (by decide) (by decide) (by decide) (by decide)
  have h2 := split_step (k + 2) (x / 65536) ([] ++ [((x % 65536 : Nat) : Int)]) 48 1 (by omega) (by decide) (by decide) (by decide) (by simp)
  have h3 := split_step (k + 1) (x / 65536 / 65536) ([] ++ [((x % 65536 : Nat) : Int)] ++ [((x / 65536 % 65536 : Nat) : Int)]) 32 2 (by omega) (by decide) (by decide) (by decide) (by simp)
  have h0 : pack_Split.l0 (k + 4) (x : Int) [] 64 [16, 16, 16] (([16, 16, 16] : List Int).length : Int) 0 = _ := (h1.trans h2).trans h3
  rw [h0]
  simp only [pack_Split.l0]
  rw [if_neg (by decide)]
  by_cases h : x < 281474976710656
  · rw [if_pos (by omega), if_pos h]
    simp
    omega
  · rw [if_neg (by omega), if_neg h]

/-! ### decoding -/
def pa (x : Nat) : Nat := x % 65536
def pb (x : Nat) : Nat := x / 65536 % 65536
def pc (x : Nat) : Nat := x / 4294967296
/-- what a superblock's words tell, and whether they are one -/
def good (l : List Int) (x : Nat) : Prop := l.length = 8 ∧ x < 281474976710656 ∧ geoOk (pa x) (pb x) (pc x) = true ∧ ints (enc (pa x) (pb x) (pc x)) = l
instance (l : List Int) (x : Nat) : Decidable (good l x) := by unfold good; infer_instance

theorem enc_length (a b c : Nat) : (ints (enc a b c)).length = 8 := by rw [ints_length]; rfl

theorem decode_f (l : List Int) (x : Nat) (hx : rd l 1 = x) (hw : x < 18446744073709551616) (k : Nat) (hk : 200 < k) :
    super_Decode.f k l = some (if good l x then (((pa x : Nat) : Int), ((pb x : Nat) : Int), ((pc x : Nat) : Int), 0) else (0, 0, 0, 2)) := by
  unfold super_Decode.f
  by_cases h8 : l.length = 8
  · rw [if_pos (by omega), if_pos (by omega)]
    rw [hx, split_f x (by omega) k (by omega), Option.bind_some]
    by_cases h48 : x < 281474976710656
    · rw [if_pos h48]
      simp only [if_true]
      rw [if_pos (by simp), if_pos (by simp), if_pos (by simp)]
      rw [show rd [((x % 65536 : Nat) : Int), ((x / 65536 % 65536 : Nat) : Int), ((x / 4294967296 : Nat) : Int)] 0 = ((pa x : Nat) : Int) from rfl, show rd [((x % 65536 : Nat) : Int), ((x / 65536 % 65536 : Nat) : Int), ((x / 4294967296 : Nat) : Int)] 1 = ((pb x : Nat) : Int) from rfl, show rd [((x % 65536 : Nat) : Int), ((x / 65536 % 65536 : Nat) : Int), ((x / 4294967296 : Nat) : Int)] 2 = ((pc x : Nat) : Int) from rfl]
      have ha : pa x < 65536 := by unfold pa; omega
      have hb : pb x < 65536 := by unfold pb; omega
      have hc : pc x < 65536 := by unfold pc; omega
      rw [w64 (pa x : Int) (by omega) (by omega), w64 (pb x : Int) (by omega) (by omega), w64 (pc x : Int) (by omega) (by omega), encode_f _ _ _ k hk, Option.bind_some]
      cases hg : geoOk (pa x : Int) (pb x : Int) (pc x : Int) with
      | false => rw [if_neg (c := good l x) (fun h => by have := h.2.2.1; rw [hg] at this; exact Bool.noConfusion this)]; rfl
      | true =>
        simp only [if_true, Int.toNat_natCast]
        rw [equal_f _ _ (by rw [enc_length]; decide) k (by rw [enc_length]; omega), Option.bind_some]
        by_cases he : ints (enc (pa x) (pb x) (pc x)) = l
        · rw [if_pos (by simpa using he), if_pos ⟨h8, h48, hg, he⟩]
        · rw [if_neg (by simpa using he), if_neg (c := good l x) (fun h => he h.2.2.2)]
    · rw [if_neg h48, if_neg (c := good l x) (fun h => h48 h.2.1)]
      rfl
  · rw [if_neg (by omega), if_neg (c := good l x) (fun h => h8 h.1)]

theorem enc_rd1 (a b c : Nat) : rd (ints (enc a b c)) 1 = ((word1 a b c : Nat) : Int) := rfl

theorem parts_of (a b c : Nat) (ha : a < 65536) (hb : b < 65536) : pa (word1 a b c) = a ∧ pb (word1 a b c) = b ∧ pc (word1 a b c) = c := by
  unfold pa pb pc word1; omega

theorem good_enc (a b c : Nat) (ha : a < 65536) (hb : b < 65536) (hc : c < 65536) (hg : geoOk a b c = true) : good (ints (enc a b c)) (word1 a b c) := by
  unfold good
  obtain ⟨h1, h2, h3⟩ := parts_of a b c ha hb
  rw [h1, h2, h3]
  exact ⟨enc_length a b c, word1_lt a b c ha hb hc, hg, rfl⟩

theorem lives3 (k : Nat) (hk : 10 < k) : cantlelaw03_Lives.f k = some true := by
  have h : cantlelaw03_Lives.f 10 = some true := by decide +kernel
  exact at_rounds (g := fun k => cantlelaw03_Lives.f k) (fun k => cantlelaw03_Lives.mono k) (by omega) h

theorem lives5 (k : Nat) (hk : 200 < k) : cantlelaw05_Lives.f k = some true := by
  unfold cantlelaw05_Lives.f
  have hg : geoOk 10 3 64 = true := by decide +kernel
  have h4 : cantlelaw04_Lives.f = some true := by decide +kernel
  rw [encode_f _ _ _ k hk, hg, lives3 k (by omega), h4]
  rfl

end Go.Proofs.Ytlokklfkiechdaa.Fb
