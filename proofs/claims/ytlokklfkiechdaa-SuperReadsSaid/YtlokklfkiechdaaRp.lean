/- What a device tells behind the stores of a superblock: plain facts. -/
import Derived.Test.YtlokklfkiechdaaRd
import Derived.Test.YtlokklfkiechdaaFt
set_option linter.unusedVariables false
set_option linter.unusedSimpArgs false
set_option maxRecDepth 100000
namespace Go.Proofs.Ytlokklfkiechdaa.Rd
open Go Go.RowKit Go.Proofs.Ytlokklfkiechdaa.PF Go.Proofs.YtlokklfkiechdaaW.PrintWords Go.Proofs.YtlokklfkiechdaaW.PrintLast Go.Proofs.YtlokklfkiechdaaW.PrintMore
open Go.Proofs.Ytlokklfkiechdaa.Dv Go.Proofs.Ytlokklfkiechdaa.Pm Go.Proofs.Ytlokklfkiechdaa.Fb
open Go.Proofs.Ytlokklfkiechdaa.Ko (pows up8 tot pows_in)

/-- a device of n words behind the first j stores of L's words -/
def dv (L : List Nat) (n j : Nat) : Dev := ⟨min j n, min j n, List.replicate n 0, (List.range (min j n)).map fun i : Nat => ((i : Int), ⟨[((L.getD i 0 : Nat) : Int)], 0⟩), none⟩

theorem dv_zero (L : List Nat) (x : Int) (n : Nat) (h : x = n) (hn : n ≤ 4194304) : newDev x = dv L n 0 := by
  unfold newDev dv
  rw [show (min (max 0 x) 4194304).toNat = n from by omega]
  simp

theorem dv_find (L : List Nat) (n j : Nat) (i : Nat) : (dv L n j).find (i : Int) = if i < min j n then some ⟨[((L.getD i 0 : Nat) : Int)], 0⟩ else none := by
  unfold Dev.find dv
  simp only
  by_cases h : i < min j n
  · rw [if_pos h]
    rw [List.find?_map]
    have : (List.range (min j n)).find? ((fun x : Int × Pen => decide (x.1 = (i : Int))) ∘ fun i : Nat => ((i : Int), (⟨[((L.getD i 0 : Nat) : Int)], 0⟩ : Pen))) = some i := by
      rw [List.find?_range_eq_some]
      refine ⟨by simp, by simpa using h, ?_⟩
      intro k hk
      simp
      omega
    rw [this]
    rfl
  · rw [if_neg h]
    rw [List.find?_eq_none.2]
    · rfl
    · intro x hx
      simp only [List.mem_map, List.mem_range] at hx
      obtain ⟨k, hk, rfl⟩ := hx
      simp
      omega

theorem dv_step (L : List Nat) (n j : Nat) : (dv L n j).stored (j : Int) ((L.getD j 0 : Nat) : Int) = dv L n (j + 1) := by
  unfold Dev.stored
  by_cases h : j < n
  · have hok : (dv L n j).storeOk (j : Int) = true := by
      simp [Dev.storeOk, Dev.inn, Dev.down, dv, h]
    rw [if_pos hok, dv_find, if_neg (show ¬ j < min j n by omega)]
    unfold Dev.stepped dv
    simp only [Option.isSome_none, Bool.false_eq_true, if_false, if_true, Option.map_none]
    rw [show min (j + 1) n = min j n + 1 from by omega, List.range_succ, List.map_append, show min j n = j from by omega]
    rfl
  · have hok : (dv L n j).storeOk (j : Int) = false := by
      simp [Dev.storeOk, Dev.inn, dv, h]
    rw [if_neg (by rw [hok]; decide)]
    unfold dv
    rw [show min (j + 1) n = min j n from by omega]

theorem dv_steps (L : List Nat) (n j : Nat) : (dv L n j).steps ≤ j := Nat.min_le_left _ _
theorem dv_len (L : List Nat) (n j : Nat) : (dv L n j).las.length = n := by simp [dv]

theorem dv_loads (L : List Nat) (n m : Nat) (hL : L.length = 8) (hm : m = min 8 n) : loads (dv L n 8) m = ints (L.take m) := by
  unfold loads ints
  apply List.ext_getElem
  · simp; omega
  intro i h1 h2
  have hi : i < m := by simpa using h1
  have hiL : i < L.length := by omega
  rw [List.getElem_map, List.getElem_range, List.getElem_map, List.getElem_take]
  unfold Dev.load
  rw [dv_find, if_pos (by omega)]
  simp [hiL]

theorem words_f (n m s : Nat) (h : geoOk n m s = true) : geometry_Geometry_Words.f n m s = some (tot n m s) := by
  have hg := h
  unfold geoOk at h
  simp only [Bool.and_eq_true, decide_eq_true_eq] at h
  unfold geometry_Geometry_Words.f
  rw [may_f, Option.bind_some, hg, if_pos rfl, all_f _ _ _ h.1.1 h.1.2]
  rfl

theorem words_none : geometry_Geometry_Words.f 0 0 0 = some 0 := by
  unfold geometry_Geometry_Words.f
  rw [may_f, Option.bind_some, if_neg (by decide)]

/-- the small geometries -/
theorem small_geo (n m s : Nat) (hn : 1 ≤ n ∧ n ≤ 30) (hm : 1 ≤ m ∧ m ≤ 30) (hs : s = 64 ∨ s = 128) : geoOk n m s = true ∧ 16 ≤ tot n m s ∧ tot n m s ≤ 2000 := by
  refine ⟨?_, ?_⟩
  · unfold geoOk
    simp only [Bool.and_eq_true]
    refine ⟨⟨?_, ?_⟩, ?_⟩
    · exact decide_eq_true (p := inB (n : Int) (m : Int)) (by unfold inB; omega)
    · rcases hs with rfl | rfl <;> decide
    · rw [decide_eq_true_eq]
      unfold tot up8
      rcases hs with rfl | rfl <;> omega
  · unfold tot up8
    rcases hs with rfl | rfl <;> omega

theorem dec_short (l : List Int) (h : l.length ≠ 8) (k : Nat) : super_Decode.f k l = some (0, 0, 0, 2) := by
  unfold super_Decode.f
  rw [if_neg (by omega)]

/-- unspoilt -/
theorem reads_good (N M S : Nat) (hn : 1 ≤ N ∧ N ≤ 30) (hm : 1 ≤ M ∧ M ≤ 30) (hs : S = 64 ∨ S = 128) (n m : Nat) (hmn : m = min 8 n) :
    ∃ r1 r2 r3 r4 wd, super_Decode.f 1000 (loads (dv (enc N M S) n 8) m) = some (r1, r2, r3, r4) ∧ geometry_Geometry_Words.f r1 r2 r3 = some wd ∧
      ((r4 = 0 ∧ wd = tot N M S ∧ r1 = N ∧ r2 = M ∧ r3 = S) ∨ (r4 = 2 ∧ n < 8)) := by
  obtain ⟨hg, ht, _⟩ := small_geo N M S hn hm hs
  rw [dv_loads _ n m rfl hmn]
  have h8 : (enc N M S).length = 8 := rfl
  by_cases h : n < 8
  · have hl : (ints ((enc N M S).take m)).length ≠ 8 := by
      rw [ints_length, List.length_take, h8]; omega
    exact ⟨0, 0, 0, 2, 0, dec_short _ hl _, words_none, .inr ⟨rfl, h⟩⟩
  · have hS : S < 65536 := by omega
    rw [List.take_of_length_le (by rw [h8]; omega), decode_f _ _ (enc_rd1 N M S) (by have := word1_lt N M S (by omega) (by omega) hS; omega) 1000 (by decide), if_pos (good_enc N M S (by omega) (by omega) hS hg)]
    obtain ⟨h1, h2, h3⟩ := parts_of N M S (by omega) (by omega)
    rw [h1, h2, h3]
    exact ⟨N, M, S, 0, _, rfl, words_f N M S hg, .inl ⟨rfl, rfl, rfl, rfl, rfl⟩⟩

/-- spoilt -/
theorem reads_bad (N M S : Nat) (hn : 1 ≤ N ∧ N ≤ 30) (hm : 1 ≤ M ∧ M ≤ 30) (hs : S = 64 ∨ S = 128) (n m i b : Nat) (hi : i < 8) (hb : b < 64) (hmn : m = min 8 n) :
    super_Decode.f 1000 (loads (dv ((enc N M S).set i ((enc N M S).getD i 0 ^^^ 2 ^ b)) n 8) m) = some (0, 0, 0, 2) := by
  have h8 : ((enc N M S).set i ((enc N M S).getD i 0 ^^^ 2 ^ b)).length = 8 := by rw [List.length_set]; rfl
  rw [dv_loads _ n m h8 hmn]
  by_cases h : n < 8
  · apply dec_short
    rw [ints_length, List.length_take, h8]; omega
  · have hS : S < 65536 := by omega
    rw [List.take_of_length_le (by rw [h8]; omega)]
    have hlt := enc_lt N M S (by omega) (by omega) hS
    generalize hL : (enc N M S).set i ((enc N M S).getD i 0 ^^^ 2 ^ b) = L
    rw [hL] at h8
    have hx : rd (ints L) 1 = ((L[1]'(by omega) : Nat) : Int) := rd_ints L 1 (by omega)
    have hxl : L[1]'(by omega) < 18446744073709551616 := by
      have hbb : ∀ w ∈ L, w < 18446744073709551616 := by
        intro w hw
        rw [← hL] at hw
        rcases List.mem_or_eq_of_mem_set hw with h | rfl
        · exact hlt _ h
        · have h1 : (2 : Nat) ^ b < 2 ^ 64 := Nat.pow_lt_pow_right (by decide) (by omega)
          have e64 : (2 : Nat) ^ 64 = 18446744073709551616 := by decide
          have hi' : i < (enc N M S).length := hi
          have eg : (enc N M S)[i] = (enc N M S).getD i 0 := by rw [List.getD_eq_getElem?_getD, List.getElem?_eq_getElem hi']; rfl
          have := hlt _ (List.getElem_mem hi')
          rw [← e64, ← eg]
          exact Nat.xor_lt_two_pow (by omega) h1
      exact hbb _ (List.getElem_mem _)
    rw [decode_f (ints L) _ hx hxl 1000 (by decide)]
    have hbad := turned N M S i b (by omega) (by omega) hi hb (L[1]'(by omega)) (by rw [hL]; exact hx)
    rw [hL] at hbad
    rw [if_neg hbad]

end Go.Proofs.Ytlokklfkiechdaa.Rd
