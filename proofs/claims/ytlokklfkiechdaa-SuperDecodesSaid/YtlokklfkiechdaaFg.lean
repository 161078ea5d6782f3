/- The laws of encoded and of decoded superblocks: their plain parts. -/
import Derived.Test.YtlokklfkiechdaaSb
import Derived.Test.YtlokklfkiechdaaPFx8
set_option linter.unusedVariables false
set_option linter.unusedSimpArgs false
set_option maxRecDepth 100000
namespace Go.Proofs.Ytlokklfkiechdaa.Fb
open Go Go.RowKit Go.Proofs.Ytlokklfkiechdaa.PF Go.Proofs.Ytlokklfkiechdaa.Cr Go.Proofs.YtlokklfkiechdaaW.PrintWords Go.Proofs.YtlokklfkiechdaaW.PrintLast Go.Proofs.YtlokklfkiechdaaW.PrintMore
open Go.Proofs.Ytlokklfkiechdaa.Ko (pows up8 tot pows_in)

theorem same_l0 (l l' : List Int) (hlen : l.length < 1099511627776) (hll : l.length = l'.length) : ∀ (d k j : Nat), l.length - j = d → j ≤ l.length → d < k →
    cantlelaw03_Same.l0 k l l' (l.length : Int) j = some (decide (l.drop j = l'.drop j))
  | 0, k, j, hd, hj, hk => by
    obtain ⟨k, rfl⟩ : ∃ m, k = m + 1 := ⟨k - 1, by omega⟩
    simp only [cantlelaw03_Same.l0]
    rw [if_neg (by omega), List.drop_of_length_le (by omega), List.drop_of_length_le (by omega)]
    simp
  | d + 1, k, j, hd, hj, hk => by
    obtain ⟨k, rfl⟩ : ∃ m, k = m + 1 := ⟨k - 1, by omega⟩
    have h1 : j < l.length := by omega
    have h2 : j < l'.length := by omega
    simp only [cantlelaw03_Same.l0]
    rw [if_pos (by omega), if_pos (by omega), if_pos (by omega), if_pos (by omega), rd_at l j h1, rd_at l' j h2, w64 _ (by omega) (by omega)]
    have ih := same_l0 l l' hlen hll d k (j + 1) (by omega) (by omega) (by omega)
    rw [show (((j + 1 : Nat)) : Int) = (j : Int) + 1 from by omega] at ih
    by_cases he : l[j] = l'[j]
    · rw [if_pos he, ih]
      simp only [drop_eq h1 h2, he, true_and]
    · rw [if_neg he]
      simp only [drop_eq h1 h2, he, false_and, decide_false]

theorem same_f (l l' : List Int) (hlen : l.length < 1099511627776) (k : Nat) (hk : l.length < k) : cantlelaw03_Same.f k l l' = some (decide (l = l')) := by
  unfold cantlelaw03_Same.f
  by_cases h : l.length = l'.length
  · rw [if_pos (by omega)]
    have := same_l0 l l' hlen h l.length k 0 (by omega) (by omega) hk
    rw [List.drop_zero, List.drop_zero] at this
    exact this
  · rw [if_neg (by omega), decide_eq_false (fun e => h (by rw [e]))]

theorem rdec_l0 (l l' : List Int) (a b c : Int) (hlen : l.length < 1099511627776) (hll : l.length = l'.length) : ∀ (d k j : Nat), l.length - j = d → j ≤ l.length → d < k →
    cantleref05_Decode.l0 k l' a b c l (l.length : Int) j = some (if l.drop j = l'.drop j then (a, b, c, true) else (0, 0, 0, false))
  | 0, k, j, hd, hj, hk => by
    obtain ⟨k, rfl⟩ : ∃ m, k = m + 1 := ⟨k - 1, by omega⟩
    simp only [cantleref05_Decode.l0]
    rw [if_neg (by omega), List.drop_of_length_le (by omega), List.drop_of_length_le (by omega)]
    simp
  | d + 1, k, j, hd, hj, hk => by
    obtain ⟨k, rfl⟩ : ∃ m, k = m + 1 := ⟨k - 1, by omega⟩
    have h1 : j < l.length := by omega
    have h2 : j < l'.length := by omega
    simp only [cantleref05_Decode.l0]
    rw [if_pos (by omega), if_pos (by omega), if_pos (by omega), if_pos (by omega), rd_at l j h1, rd_at l' j h2, w64 _ (by omega) (by omega)]
    have ih := rdec_l0 l l' a b c hlen hll d k (j + 1) (by omega) (by omega) (by omega)
    rw [show (((j + 1 : Nat)) : Int) = (j : Int) + 1 from by omega] at ih
    by_cases he : l[j] = l'[j]
    · rw [if_pos he, ih]
      simp only [drop_eq h1 h2, he, true_and]
    · rw [if_neg he]
      simp only [drop_eq h1 h2, he, false_and, if_false]

theorem rdecode_f (l : List Int) (x : Nat) (hx : rd l 1 = x) (hw : x < 18446744073709551616) (k : Nat) (hk : 700 < k) :
    cantleref05_Decode.f k l = some (if good l x then (((pa x : Nat) : Int), ((pb x : Nat) : Int), ((pc x : Nat) : Int), true) else (0, 0, 0, false)) := by
  unfold cantleref05_Decode.f
  by_cases h8 : l.length = 8
  · rw [if_pos (by omega), if_pos (by omega)]
    have d1 : IntKind.u64.wrap (Int.tdiv (x : Int) 4294967296) = ((pc x : Nat) : Int) := by
      rw [Int.tdiv_eq_ediv_of_nonneg (by omega), wu64 _ (by omega) (by omega)]; unfold pc; omega
    have d2 : IntKind.u64.wrap (Int.tdiv (x : Int) 65536) = ((x / 65536 : Nat) : Int) := by
      rw [Int.tdiv_eq_ediv_of_nonneg (by omega), wu64 _ (by omega) (by omega)]; omega
    have d3 : Int.tmod (x : Int) 65536 = ((pa x : Nat) : Int) := by
      rw [Int.tmod_eq_emod_of_nonneg (by omega)]; unfold pa; omega
    have d4 : Int.tmod ((x / 65536 : Nat) : Int) 65536 = ((pb x : Nat) : Int) := by
      rw [Int.tmod_eq_emod_of_nonneg (by omega)]; unfold pb; omega
    rw [hx, d1, d2, d3, d4]
    have ha : pa x < 65536 := by unfold pa; omega
    have hb : pb x < 65536 := by unfold pb; omega
    by_cases h48 : x < 281474976710656
    · have hc : pc x < 65536 := by unfold pc; omega
      rw [if_neg (by omega), w64 (pa x : Int) (by omega) (by omega), w64 (pb x : Int) (by omega) (by omega), w64 (pc x : Int) (by omega) (by omega), rencode_f _ _ _ k hk, Option.bind_some]
      cases hg : geoOk (pa x : Int) (pb x : Int) (pc x : Int) with
      | false => rw [if_neg (c := good l x) (fun h => by have := h.2.2.1; rw [hg] at this; exact Bool.noConfusion this)]; rfl
      | true =>
        simp only [if_true, Int.toNat_natCast]
        have := rdec_l0 (ints (enc (pa x) (pb x) (pc x))) l (pa x) (pb x) (pc x) (by rw [enc_length]; decide) (by rw [enc_length, h8]) 8 k 0 (by rw [enc_length]) (by omega) (by omega)
        rw [show ((0 : Nat) : Int) = 0 from rfl] at this
        rw [this, List.drop_zero, List.drop_zero]
        by_cases he : ints (enc (pa x) (pb x) (pc x)) = l
        · rw [if_pos he, if_pos ⟨h8, h48, hg, he⟩]
        · rw [if_neg he, if_neg (c := good l x) (fun h => he h.2.2.2)]
    · have hc : 65536 ≤ pc x := by unfold pc; omega
      rw [if_pos (by omega), if_neg (c := good l x) (fun h => h48 h.2.1)]
  · rw [if_neg (by omega), if_neg (c := good l x) (fun h => h8 h.1)]

/-! ### the laws -/
theorem encodes_f (a b c : Int) : cantlelaw05_SuperEncodes.f 1000 a b c = some true := by
  unfold cantlelaw05_SuperEncodes.f
  rw [lives5 1000 (by decide), Option.bind_some, if_pos rfl, encode_f a b c 1000 (by decide), Option.bind_some, rencode_f a b c 1000 (by decide), Option.bind_some]
  cases hg : geoOk a b c with
  | false =>
    simp only [Bool.false_eq_true, if_false]
    rw [same_f _ _ (by decide) 1000 (by decide)]
    rfl
  | true =>
    obtain ⟨n, m, s, rfl, rfl, rfl, hn, hm, hs⟩ := geo_small hg
    have hgd := good_enc n m s hn hm hs hg
    obtain ⟨h1, h2, h3⟩ := parts_of n m s hn hm
    have hd := decode_f (ints (enc n m s)) (word1 n m s) (enc_rd1 n m s) (by have := word1_lt n m s hn hm hs; omega) 999 (by decide)
    rw [if_pos hgd, h1, h2, h3] at hd
    simp only [if_true, Int.toNat_natCast]
    rw [same_f _ _ (by rw [enc_length]; decide) 1000 (by rw [enc_length]; decide), Option.bind_some, if_pos (by simp), if_neg (by decide)]
    show cantlelaw05_SuperEncodes.j0 (999 + 1) _ _ _ _ _ _ = _
    simp only [cantlelaw05_SuperEncodes.j0]
    rw [if_neg (by decide), if_pos trivial, hd]
    simp

theorem decodes_f (l : List Int) (hw : ∀ x ∈ l, (Lit.int .u64 x).wf = true) : cantlelaw05_SuperDecodes.f 1000 l = some true := by
  unfold cantlelaw05_SuperDecodes.f
  rw [lives5 1000 (by decide), Option.bind_some, if_pos rfl]
  show cantlelaw05_SuperDecodes.j0 (999 + 1) _ _ = _
  simp only [cantlelaw05_SuperDecodes.j0]
  by_cases h20 : (l.length : Int) > 20
  · rw [if_pos (by simpa using h20), lives5 999 (by decide)]
    rfl
  · rw [if_neg (by simpa using h20)]
    have hr : 0 ≤ rd l 1 ∧ rd l 1 < 18446744073709551616 := by
      by_cases h1 : 1 < l.length
      · rw [show (1 : Int) = ((1 : Nat) : Int) from rfl, rd_at l 1 h1]
        have := hw _ (List.getElem_mem h1)
        simp [Lit.wf, IntKind.min, IntKind.max, IntKind.bits, IntKind.signed] at this
        omega
      · have : rd l 1 = 0 := by simp [rd, List.getD_eq_getElem?_getD, List.getElem?_eq_none (show l.length ≤ 1 by omega)]
        omega
    rw [decode_f l (rd l 1).toNat (by omega) (by omega) 999 (by decide), Option.bind_some, rdecode_f l (rd l 1).toNat (by omega) (by omega) 999 (by decide), Option.bind_some]
    by_cases hg : good l (rd l 1).toNat
    · rw [if_pos hg, if_pos hg]
      simp
    · rw [if_neg hg, if_neg hg]
      simp

end Go.Proofs.Ytlokklfkiechdaa.Fb
