/- Parts of the proof, one behind the other: Wp, Vh, Ma, Bn, Bo, Lx, Lv, Ly, In. -/
import Derived.Test.YtichcdoijieddaaGreatG11
import Derived.Test.YtichcdoijieddaaGreatG03
import Derived.Test.YtichcdoijieddaaGreatG02
import Derived.Test.YtichcdoijieddaaGreatG07
import Derived.Test.YtichcdoijieddaaGreatG08
import Derived.Deep.RegionHeld3
import Derived.Test.YtichcdoijieddaaGreatG04
import Derived.Test.YtichcdoijieddaaGreatG09
import Derived.Deep.QuietTactic
import Derived.BigQuiet

/- Words put into a device: what it then holds, and how much was done (plain data). -/
section
set_option linter.unusedVariables false
set_option linter.unusedSimpArgs false
namespace Go.Proofs.YtichcdoijieddaaGreat.Wp
open Go Go.RowKit
open Go.Proofs.YtichcdoijieddaaGreat.Ob Go.Proofs.YtichcdoijieddaaGreat.Ba Go.Proofs.YtichcdoijieddaaGreat.Oc Go.Proofs.YtichcdoijieddaaGreat.Pk Go.Proofs.YtichcdoijieddaaGreat.Rf Go.Proofs.YtichcdoijieddaaGreat.Dv Go.Proofs.YtichcdoijieddaaGreat.Vo

theorem find_put (k x : Int) (l : List (Int × Pen)) (j : Int) : ((putPen k x l).find? fun y => decide (y.1 = j)) = (l.find? fun y => decide (y.1 = j)).map fun y => if y.1 = k then (y.1, ⟨y.2.l ++ [x], y.2.fl⟩) else y := by
  induction l with
  | nil => rfl
  | cons y l ih =>
    unfold putPen at ih ⊢
    rw [List.map_cons, List.find?_cons, List.find?_cons, ih]
    have e : (if y.1 = k then (y.1, (⟨y.2.l ++ [x], y.2.fl⟩ : Pen)) else y).1 = y.1 := by split <;> rfl
    rw [e]
    cases decide (y.1 = j) <;> rfl
theorem find_flush (ln : Int) (l : List (Int × Pen)) (j : Int) : ((l.map (flushPen ln)).find? fun y => decide (y.1 = j)) = (l.find? fun y => decide (y.1 = j)).map (flushPen ln) := by
  induction l with
  | nil => rfl
  | cons y l ih =>
    rw [List.map_cons, List.find?_cons, List.find?_cons, ih]
    have e : (flushPen ln y).1 = y.1 := by unfold flushPen; split <;> rfl
    rw [e]
    cases decide (y.1 = j) <;> rfl

theorem stored_load {d : Dev} {a : Int} {x : Int} (h : d.storeOk a = true) (j : Int) : (d.stored a x).load j = if j = a then x else d.load j := by
  have hopn : (d.stored a x).opn = if (d.find a).isSome then putPen a x d.opn else d.opn ++ [(a, ⟨[x], 0⟩)] := by unfold Dev.stored; rw [if_pos h]
  have hlas : ∀ j, (d.stored a x).lasting j = d.lasting j := by intro j; unfold Dev.stored Dev.lasting Dev.inn; rw [if_pos h]; rfl
  unfold Dev.load
  rw [hlas]
  by_cases hf : (d.find a).isSome
  · rw [if_pos hf] at hopn
    have hfj : (d.stored a x).find j = (d.opn.find? fun y => decide (y.1 = j)).map fun y => (if y.1 = a then (y.1, (⟨y.2.l ++ [x], y.2.fl⟩ : Pen)) else y).2 := by
      unfold Dev.find; rw [hopn, find_put, Option.map_map]; rfl
    rw [hfj]
    unfold Dev.find
    cases hq : d.opn.find? fun y => decide (y.1 = j) with
    | none =>
      by_cases hj : j = a
      · subst hj
        unfold Dev.find at hf
        rw [hq] at hf
        cases hf
      · rw [if_neg hj]; rfl
    | some y =>
      have hy : y.1 = j := by simpa using List.find?_some hq
      by_cases hj : j = a
      · rw [if_pos hj]
        simp [hy, hj]
      · rw [if_neg hj]
        simp [hy, hj]
  · rw [if_neg hf] at hopn
    have hfj : (d.stored a x).find j = ((d.opn.find? fun y => decide (y.1 = j)).or (if a = j then some (a, ⟨[x], 0⟩) else none)).map (·.2) := by
      unfold Dev.find; rw [hopn, List.find?_append]
      by_cases hj : a = j <;> simp [hj]
    rw [hfj]
    by_cases hj : j = a
    · subst hj
      have : d.opn.find? (fun y => decide (y.1 = j)) = none := by
        unfold Dev.find at hf
        cases hq : d.opn.find? fun y => decide (y.1 = j) with
        | none => rfl
        | some y => rw [hq] at hf; exact absurd rfl hf
      rw [this]
      simp
    · rw [if_neg hj, if_neg (fun e => hj e.symm)]
      unfold Dev.find
      cases d.opn.find? fun y => decide (y.1 = j) <;> rfl
theorem flushed_load (d : Dev) (ln j : Int) : (d.flushed ln).load j = d.load j := by
  unfold Dev.flushed
  split
  · unfold Dev.load Dev.find Dev.lasting Dev.inn
    show (match ((d.opn.map (flushPen ln)).find? fun y => decide (y.1 = j)).map (·.2) with | some p => _ | none => _) = _
    rw [find_flush, Option.map_map]
    cases d.opn.find? fun y => decide (y.1 = j) with
    | none => rfl
    | some y =>
      show (flushPen ln y).2.l.getD ((flushPen ln y).2.l.length - 1) 0 = y.2.l.getD (y.2.l.length - 1) 0
      have e : (flushPen ln y).2.l = y.2.l := by unfold flushPen; split <;> rfl
      rw [e]
  · rfl
theorem flushed_words (d : Dev) (ln : Int) : Pm.wordsOf (d.flushed ln) = Pm.wordsOf d := by
  rw [Pm.wordsOf_eq, Pm.wordsOf_eq]
  have e : (d.flushed ln).las = d.las := by unfold Dev.flushed; split <;> rfl
  rw [e]
  congr 1
  funext i
  exact flushed_load d ln i
theorem ok_store {d : Dev} (hf : d.fuse = none) {a : Nat} (ha : a < d.las.length) : d.storeOk a = true := by
  have h2 : d.down = false := by unfold Dev.down; rw [hf]; rfl
  unfold Dev.storeOk Dev.inn
  rw [h2]
  simp [ha]
theorem ok_flush {d : Dev} (hf : d.fuse = none) {a : Nat} (ha : 8 * a < d.las.length) : d.flushOk a = true := by
  have h2 : d.down = false := by unfold Dev.down; rw [hf]; rfl
  unfold Dev.flushOk
  rw [h2]
  simp
  omega
theorem stored_words {d : Dev} (hf : d.fuse = none) {a : Nat} (ha : a < d.las.length) (x : Int) : Pm.wordsOf (d.stored a x) = (Pm.wordsOf d).set a x := by
  have hok := ok_store hf ha
  rw [Pm.wordsOf_eq, Pm.wordsOf_eq]
  have e : (d.stored a x).las = d.las := by unfold Dev.stored; rw [if_pos hok]; rfl
  rw [e]
  apply List.ext_getElem?
  intro i
  rw [List.getElem?_set, List.getElem?_map, List.getElem?_map]
  by_cases hi : i < d.las.length
  · rw [List.getElem?_range hi]
    show some ((d.stored a x).load (i : Int)) = _
    rw [stored_load hok]
    by_cases hj : a = i
    · rw [if_pos (by rw [hj]), if_pos hj]
      simp [ha]
    · rw [if_neg (by omega), if_neg hj]; rfl
  · rw [List.getElem?_eq_none (by simp; omega)]
    by_cases hj : a = i
    · omega
    · rw [if_neg hj]; rfl

/-- what stands behind writes: words, how many more were stored, how many lines were flushed -/
structure Pt (d0 d : Dev) (L : List Int) (c q : Nat) : Prop where
  las : d.las = d0.las
  fuse : d.fuse = none
  words : Pm.wordsOf d = L
  stores : d.stores = d0.stores + c
  steps : d.steps = d0.steps + c + q
theorem Pt.stored {d0 d : Dev} {L : List Int} {c q : Nat} (h : Pt d0 d L c q) {a : Nat} (ha : a < d0.las.length) (x : Int) : Pt d0 (d.stored a x) (L.set a x) (c + 1) q := by
  have ha' : a < d.las.length := by rw [h.las]; exact ha
  have hok := ok_store h.fuse ha'
  refine ⟨?_, ?_, by rw [stored_words h.fuse ha', h.words], ?_, ?_⟩ <;> (unfold Dev.stored; rw [if_pos hok])
  · exact h.las
  · show d.fuse.map _ = none
    rw [h.fuse]; rfl
  · show d.stores + 1 = _
    rw [h.stores]; omega
  · show d.steps + 1 = _
    rw [h.steps]; omega
theorem Pt.flushed {d0 d : Dev} {L : List Int} {c q : Nat} (h : Pt d0 d L c q) {a : Nat} (ha : 8 * a < d0.las.length) : Pt d0 (d.flushed a) L c (q + 1) := by
  have hok := ok_flush h.fuse (a := a) (by rw [h.las]; exact ha)
  refine ⟨?_, ?_, by rw [flushed_words, h.words], ?_, ?_⟩ <;> (unfold Dev.flushed; rw [if_pos hok])
  · exact h.las
  · show d.fuse.map _ = none
    rw [h.fuse]; rfl
  · show d.stores + 0 = _
    rw [h.stores]; omega
  · show d.steps + 1 = _
    rw [h.steps]; omega
theorem flush_all {d0 : Dev} {L : List Int} {c : Nat} : ∀ (ls : List Nat) (d : Dev) (q k : Nat), Pt d0 d L c q → (∀ x ∈ ls, 8 * x < d0.las.length) → ∃ d', flushGo ls d k = (d', some k) ∧ Pt d0 d' L c (q + ls.length)
  | [], d, q, k, h, _ => ⟨d, rfl, h⟩
  | x :: r, d, q, k, h, hl => by
    have hx := hl x (List.mem_cons_self)
    have hok := ok_flush h.fuse (a := x) (by rw [h.las]; exact hx)
    obtain ⟨d', e, h'⟩ := flush_all r _ _ k (h.flushed hx) (fun y hy => hl y (List.mem_cons_of_mem _ hy))
    refine ⟨d', ?_, by rw [show q + (x :: r).length = q + 1 + r.length from by simp; omega]; exact h'⟩
    show (if d.flushOk x then _ else _) = _
    rw [if_pos hok, e]

/-- which words come to be, how many are stored, and in which lines -/
def pgo (all : Bool) : List Int → Nat → List Int × Nat × List Nat → List Int × Nat × List Nat
  | [], _, s => s
  | x :: r, a, s => if !all && decide (s.1.getD a 0 = x) then pgo all r (a + 1) s else pgo all r (a + 1) (s.1.set a x, s.2.1 + 1, addLn s.2.2 (a / 8))

theorem addLn_mem {ls : List Nat} {k x : Nat} (h : x ∈ addLn ls k) : x ∈ ls ∨ x = k := by
  unfold addLn at h
  split at h
  · exact .inl h
  · simpa using h
theorem words_load {d : Dev} {a : Nat} (ha : a < d.las.length) : (Pm.wordsOf d).getD a 0 = d.load a := by
  rw [List.getD_eq_getElem?_getD, Pm.wordsOf_get d a ha]; rfl

theorem put_gen (d0 : Dev) (all : Bool) : ∀ (xs : List Int) (a : Nat) (d : Dev) (L : List Int) (c : Nat) (ls : List Nat), Pt d0 d L c 0 → a + xs.length ≤ d0.las.length → (∀ x ∈ ls, 8 * x < d0.las.length) →
    ∃ d', putGo all xs a ⟨d, c, ls⟩ = (d', some (pgo all xs a (L, c, ls)).2.1) ∧ Pt d0 d' (pgo all xs a (L, c, ls)).1 (pgo all xs a (L, c, ls)).2.1 (pgo all xs a (L, c, ls)).2.2.length
  | [], a, d, L, c, ls, h, ha, hl => by
    obtain ⟨d', e, h'⟩ := flush_all ls d 0 c h hl
    exact ⟨d', e, by rw [Nat.zero_add] at h'; exact h'⟩
  | x :: r, a, d, L, c, ls, h, ha, hl => by
    have ha1 : a < d0.las.length := by simp at ha; omega
    have hload : L.getD a 0 = d.load a := by rw [← h.words]; exact words_load (by rw [h.las]; exact ha1)
    have hk : keepW all d a x = (!all && decide (L.getD a 0 = x)) := by unfold keepW; rw [hload]
    by_cases hb : (!all && decide (L.getD a 0 = x)) = true
    · rw [putGo_keep (hk.trans hb)]
      have e : pgo all (x :: r) a (L, c, ls) = pgo all r (a + 1) (L, c, ls) := by
        show (if (!all && decide (L.getD a 0 = x)) = true then _ else _) = _
        rw [if_pos hb]
      rw [e]
      exact put_gen d0 all r (a + 1) d L c ls h (by simp at ha; omega) hl
    · have hb' : (!all && decide (L.getD a 0 = x)) = false := by simpa using hb
      rw [putGo_store (hk.trans hb') (ok_store h.fuse (by rw [h.las]; exact ha1))]
      have e : pgo all (x :: r) a (L, c, ls) = pgo all r (a + 1) (L.set a x, c + 1, addLn ls (a / 8)) := by
        show (if (!all && decide (L.getD a 0 = x)) = true then _ else _) = _
        rw [if_neg hb]
      rw [e]
      refine put_gen d0 all r (a + 1) _ _ _ _ (h.stored ha1 x) (by simp at ha; omega) (fun y hy => ?_)
      rcases addLn_mem hy with h1 | h1
      · exact hl y h1
      · omega

/-- all of them: line by line -/
def lnsG (k : Nat) : Nat → List Nat
  | 0 => []
  | i + 1 => addLn (lnsG k i) ((k + i) / 8)
theorem lnsG_last (k i : Nat) : (lnsG k (i + 1)).getLast? = some ((k + i) / 8) := by
  show (addLn (lnsG k i) ((k + i) / 8)).getLast? = _
  unfold addLn
  split
  · assumption
  · simp
theorem lnsG_len (k : Nat) : ∀ i, (lnsG k i).length = nline k i
  | 0 => rfl
  | i + 1 => by
    show (addLn (lnsG k i) ((k + i) / 8)).length = nline k i + _
    rw [← lnsG_len k i]
    cases i with
    | zero => rfl
    | succ i =>
      unfold addLn
      rw [lnsG_last]
      by_cases h : (k + (i + 1)) % 8 = 0
      · rw [if_neg (by rw [Option.some.injEq]; omega), if_pos (.inr h)]; simp
      · rw [if_pos (by rw [Option.some.injEq]; omega), if_neg (by omega)]; rfl
theorem pgo_all (k : Nat) (L : List Int) : ∀ (xs : List Int) (i : Nat) (M : List Int), pgo true xs (k + i) (M, i, lnsG k i) = (wput M (k + i) xs, i + xs.length, lnsG k (i + xs.length))
  | [], i, M => rfl
  | x :: r, i, M => by
    show pgo true r (k + i + 1) (M.set (k + i) x, i + 1, lnsG k (i + 1)) = _
    have := pgo_all k L r (i + 1) (M.set (k + i) x)
    rw [show k + i + 1 = k + (i + 1) from rfl, this]
    rw [show i + (x :: r).length = i + 1 + r.length from by simp; omega]
    rfl

theorem put_many (d : Dev) (hf : d.fuse = none) (xs : List Int) (k : Nat) (hk : k + xs.length ≤ d.las.length) :
    ∃ d', putGo true xs k ⟨d, 0, []⟩ = (d', some xs.length) ∧ Pt d d' (wput (Pm.wordsOf d) k xs) xs.length (nline k xs.length) := by
  obtain ⟨d', e, h⟩ := put_gen d true xs k d (Pm.wordsOf d) 0 [] ⟨rfl, hf, rfl, rfl, rfl⟩ hk (by simp)
  have hp := pgo_all k (Pm.wordsOf d) xs 0 (Pm.wordsOf d)
  rw [Nat.zero_add, Nat.add_zero] at hp
  rw [show (Pm.wordsOf d, 0, ([] : List Nat)) = (Pm.wordsOf d, 0, lnsG k 0) from rfl, hp] at e h
  exact ⟨d', e, by rw [lnsG_len] at h; exact h⟩

end Go.Proofs.YtichcdoijieddaaGreat.Wp
end

/- Words and bytes there and back; words put and read again (plain). -/
section
set_option linter.unusedVariables false
set_option linter.unusedSimpArgs false
namespace Go.Proofs.YtichcdoijieddaaGreat.Vh
open Go Go.RowKit
open Go.Proofs.YtichcdoijieddaaGreat.Ob Go.Proofs.YtichcdoijieddaaGreat.Ba Go.Proofs.YtichcdoijieddaaGreat.Oc Go.Proofs.YtichcdoijieddaaGreat.Pk Go.Proofs.YtichcdoijieddaaGreat.Rf Go.Proofs.YtichcdoijieddaaGreat.Dv Go.Proofs.YtichcdoijieddaaGreat.Vo Go.Proofs.YtichcdoijieddaaGreat.Cc

theorem octs_get (l : List Nat) (q r x : Nat) (hr : r < 8) (hx : l[q]? = some x) : (octs l)[8 * q + r]? = some (x / 256 ^ r % 256) := by
  induction l generalizing q with
  | nil => simp at hx
  | cons a l ih =>
    have e : octs (a :: l) = oct a ++ octs l := rfl
    rw [e]
    cases q with
    | zero =>
      simp at hx
      subst hx
      rw [List.getElem?_append_left (by simp [oct]; omega)]
      simp [oct, hr]
    | succ q =>
      rw [List.getElem?_cons_succ] at hx
      rw [List.getElem?_append_right (by simp [oct]; omega)]
      have := ih q hx
      rw [show 8 * (q + 1) + r - (oct a).length = 8 * q + r from by simp [oct]; omega]
      exact this
theorem digit (b : List Nat) (h : ∀ x ∈ b, x < 256) (q r : Nat) (hr : r < 8) : wd8 b q / 256 ^ r % 256 = by_ b q r := by
  have h0 := by_lt h q 0
  have h1 := by_lt h q 1
  have h2 := by_lt h q 2
  have h3 := by_lt h q 3
  have h4 := by_lt h q 4
  have h5 := by_lt h q 5
  have h6 := by_lt h q 6
  have h7 := by_lt h q 7
  unfold wd8
  match r, hr with
  | 0, _ => omega
  | 1, _ => rw [show (256 : Nat) ^ 1 = 256 from rfl]; omega
  | 2, _ => rw [show (256 : Nat) ^ 2 = 65536 from rfl]; omega
  | 3, _ => rw [show (256 : Nat) ^ 3 = 16777216 from rfl]; omega
  | 4, _ => rw [show (256 : Nat) ^ 4 = 4294967296 from rfl]; omega
  | 5, _ => rw [show (256 : Nat) ^ 5 = 1099511627776 from rfl]; omega
  | 6, _ => rw [show (256 : Nat) ^ 6 = 281474976710656 from rfl]; omega
  | 7, _ => rw [show (256 : Nat) ^ 7 = 72057594037927936 from rfl]; omega
theorem octs_wds (b : List Nat) (h : ∀ x ∈ b, x < 256) (h8 : b.length % 8 = 0) : octs (wds b) = b := by
  apply List.ext_getElem?
  intro i
  by_cases hi : i < b.length
  · obtain ⟨q, r, hqr, hr⟩ : ∃ q r, i = 8 * q + r ∧ r < 8 := ⟨i / 8, i % 8, by omega, by omega⟩
    subst hqr
    rw [octs_get (wds b) q r (wd8 b q) hr (by rw [wds_get, if_pos (by omega)]), digit b h q r hr]
    unfold by_
    rw [List.getD_eq_getElem?_getD, List.getElem?_eq_getElem hi]
    rfl
  · rw [List.getElem?_eq_none (by rw [octs_length, wds_len]; omega), List.getElem?_eq_none (by omega)]
theorem wds_lt {b : List Nat} (h : ∀ x ∈ b, x < 256) : ∀ x ∈ wds b, x < 18446744073709551616 := by
  intro x hx
  simp only [wds, List.mem_map] at hx
  obtain ⟨i, _, rfl⟩ := hx
  exact wd8_lt h i

theorem wput_get (L : List Int) (k : Nat) (xs : List Int) (hk : k + xs.length ≤ L.length) (j : Nat) : (wput L k xs)[j]? = if k ≤ j ∧ j < k + xs.length then xs[j - k]? else L[j]? := by
  induction xs generalizing L k with
  | nil => rw [if_neg (by simp only [List.length_nil]; omega)]; rfl
  | cons x r ih =>
    show (wput (L.set k x) (k + 1) r)[j]? = _
    rw [ih (L.set k x) (k + 1) (by simp at hk ⊢; omega)]
    by_cases h1 : k + 1 ≤ j ∧ j < k + 1 + r.length
    · rw [if_pos h1, if_pos (by simp; omega)]
      rw [show j - k = (j - (k + 1)) + 1 from by omega, List.getElem?_cons_succ]
    · rw [if_neg h1]
      by_cases h2 : j = k
      · subst h2
        rw [if_pos (by simp), Nat.sub_self, List.getElem?_set_self (by simp at hk; omega)]
        rfl
      · rw [if_neg (by simp; omega), List.getElem?_set_ne (by omega)]
theorem lds_wput {d : Dev} {L : List Int} {k : Nat} {xs : List Int} (hw : Pm.wordsOf d = wput L k xs) (hk : k + xs.length ≤ L.length) : lds d k xs.length = xs := by
  have hlen : d.las.length = L.length := by
    have := congrArg List.length hw
    rw [Pm.wordsOf_length, wput_length] at this
    exact this
  apply List.ext_getElem?
  intro i
  by_cases hi : i < xs.length
  · unfold lds
    rw [List.getElem?_map, List.getElem?_range hi]
    have h1 := Pm.wordsOf_get d (k + i) (by omega)
    rw [hw, wput_get L k xs hk, if_pos (by omega), show k + i - k = i from by omega] at h1
    rw [h1]
    rfl
  · rw [List.getElem?_eq_none (by rw [lds_length]; omega), List.getElem?_eq_none (by omega)]

end Go.Proofs.YtichcdoijieddaaGreat.Vh
end

/- Bitmaps in one word; a fence keeps what is seen; words cleared (plain). -/
section
set_option linter.unusedVariables false
set_option linter.unusedSimpArgs false
namespace Go.Proofs.YtichcdoijieddaaGreat.Ma
open Go Go.RowKit
open Go.Proofs.YtichcdoijieddaaGreat.Ob Go.Proofs.YtichcdoijieddaaGreat.Ba Go.Proofs.YtichcdoijieddaaGreat.Oc Go.Proofs.YtichcdoijieddaaGreat.Pk Go.Proofs.YtichcdoijieddaaGreat.Rf Go.Proofs.YtichcdoijieddaaGreat.Dv Go.Proofs.YtichcdoijieddaaGreat.Vo Go.Proofs.YtichcdoijieddaaGreat.Bm Go.Proofs.YtichcdoijieddaaGreat.R0 Go.Proofs.YtichcdoijieddaaGreat.Wp

def bitsOf (n x : Nat) : List Bool := (List.range n).map fun b => x.testBit b
theorem bitsOf_len (n x : Nat) : (bitsOf n x).length = n := by simp [bitsOf]
theorem bwr_bits (n x : Nat) : bwr (bitsOf n x) = x % 2 ^ n := by
  induction n with
  | zero => simp [bitsOf, bwr, Nat.mod_one]
  | succ n ih =>
    have e : bitsOf (n + 1) x = bitsOf n x ++ [x.testBit n] := by simp [bitsOf, List.range_succ]
    rw [e, bwr_snoc, ih, bitsOf_len, Nat.mod_pow_succ, Nat.testBit_eq_decide_div_mod_eq]
    by_cases hb : x / 2 ^ n % 2 = 1
    · rw [hb]; simp
    · have : x / 2 ^ n % 2 = 0 := by omega
      rw [this]; simp
theorem turn_bits (n x : Nat) (h1 : 1 ≤ n) (h2 : n ≤ 63) (hx : x < 2 ^ n) (k : Nat) (i : Int) : ∃ y k', turnF n false ([x], k) i = ([y], k') ∧ y < 2 ^ n ∧ btn (bitsOf n x) i = bitsOf n y := by
  unfold turnF btn
  rw [bitsOf_len]
  by_cases hi : 0 ≤ i ∧ i < n
  · obtain ⟨j, rfl⟩ : ∃ j : Nat, i = j := ⟨i.toNat, by omega⟩
    have hj : j < n := by omega
    have hg : bget [x] j = x.testBit j := by
      unfold bget
      rw [show j / 64 = 0 from by omega, show j % 64 = j from by omega]
      rfl
    rw [if_pos hi]
    show ∃ y k', (if _ ∧ _ ∧ bget [x] j = false then _ else _) = _ ∧ _ ∧ (bitsOf n x).set j true = _
    rw [hg]
    by_cases hb : x.testBit j = false
    · rw [if_pos ⟨hi.1, hi.2, hb⟩]
      refine ⟨x ^^^ 2 ^ j, k + 1, ?_, Nat.xor_lt_two_pow hx (Nat.pow_lt_pow_right (by decide) hj), ?_⟩
      · show (bturn [x] j, _) = _
        unfold bturn
        rw [show j / 64 = 0 from by omega, show j % 64 = j from by omega]
        rfl
      · apply List.ext_getElem?
        intro a
        rw [List.getElem?_set]
        unfold bitsOf
        rw [List.getElem?_map, List.getElem?_map]
        by_cases ha : a < n
        · rw [List.getElem?_range ha]
          by_cases hja : j = a
          · subst hja
            rw [if_pos rfl, if_pos (by simp; exact hj)]
            simp [Nat.testBit_xor, hb, Nat.testBit_two_pow_self]
          · rw [if_neg hja]
            simp [Nat.testBit_xor, Nat.testBit_two_pow_of_ne hja]
        · rw [List.getElem?_eq_none (by simp; omega), if_neg (by omega)]
          rfl
    · rw [if_neg (fun h => hb h.2.2)]
      refine ⟨x, k, rfl, hx, ?_⟩
      have hb' : x.testBit j = true := by simpa using hb
      apply List.ext_getElem?
      intro a
      rw [List.getElem?_set]
      by_cases hja : j = a
      · subst hja
        rw [if_pos rfl, if_pos (by rw [bitsOf_len]; exact hj)]
        unfold bitsOf
        rw [List.getElem?_map, List.getElem?_range hj]
        simp [hb']
      · rw [if_neg hja]
  · rw [if_neg hi, if_neg (fun h => hi ⟨h.1, h.2.1⟩)]
    exact ⟨x, k, rfl, hx, rfl⟩
theorem fold_bits (n : Nat) (h1 : 1 ≤ n) (h2 : n ≤ 63) : ∀ (us : List Int) (x k : Nat), x < 2 ^ n → ∃ y k', us.foldl (turnF n false) ([x], k) = ([y], k') ∧ y < 2 ^ n ∧ us.foldl btn (bitsOf n x) = bitsOf n y
  | [], x, k, hx => ⟨x, k, rfl, hx, rfl⟩
  | u :: r, x, k, hx => by
    obtain ⟨y, k', e1, hy, e2⟩ := turn_bits n x h1 h2 hx k u
    obtain ⟨z, k2, e3, hz, e4⟩ := fold_bits n h1 h2 r y k' hy
    exact ⟨z, k2, by rw [List.foldl_cons, e1, e3], hz, by rw [List.foldl_cons, e2, e4]⟩
theorem bits_zero (n : Nat) : bitsOf n 0 = List.replicate n false := by
  apply List.ext_getElem?
  intro a
  unfold bitsOf
  by_cases ha : a < n
  · rw [List.getElem?_map, List.getElem?_range ha, List.getElem?_replicate, if_pos ha]
    simp
  · rw [List.getElem?_eq_none (by simp; omega), List.getElem?_eq_none (by simp; omega)]
theorem btn_fold_len (us : List Int) (l : List Bool) : (us.foldl btn l).length = l.length := by
  induction us generalizing l with
  | nil => rfl
  | cons u r ih => rw [List.foldl_cons, ih, btn_len]

/-- a fence keeps what is seen -/
theorem fence_find (k : Int) : ∀ (l : List (Int × Pen)), (l.map (·.1)).Nodup → ((l.filterMap fencePen).find? fun y => decide (y.1 = k)) = (l.find? fun y => decide (y.1 = k)).bind fencePen
  | [], _ => rfl
  | a :: l, hn => by
    rw [List.map_cons, List.nodup_cons] at hn
    have ih := fence_find k l hn.2
    have hfk : ∀ z, fencePen a = some z → z.1 = a.1 := by
      intro z hz
      unfold fencePen at hz
      split at hz
      · cases hz; rfl
      · split at hz
        · cases hz
        · cases hz; rfl
    by_cases hk : a.1 = k
    · rw [List.find?_cons_of_pos (by simp [hk])]
      cases hf : fencePen a with
      | none =>
        rw [List.filterMap_cons_none hf, ih]
        have hno : l.find? (fun y => decide (y.1 = k)) = none := by
          rw [List.find?_eq_none]
          intro z hz
          simp only [decide_eq_true_eq]
          intro e
          exact hn.1 (by rw [hk, ← e]; exact List.mem_map_of_mem hz)
        rw [hno]
        simp [hf]
      | some z =>
        rw [List.filterMap_cons_some hf, List.find?_cons_of_pos (by simp [hfk z hf, hk])]
        simp [hf]
    · rw [List.find?_cons_of_neg (by simp [hk])]
      cases hf : fencePen a with
      | none => rw [List.filterMap_cons_none hf, ih]
      | some z => rw [List.filterMap_cons_some hf, List.find?_cons_of_neg (by simp [hfk z hf, hk]), ih]

theorem fenced_words {d : Dev} (hw : d.Wf) (hf : d.fuse = none) : Pm.wordsOf d.fenced = Pm.wordsOf d ∧ d.fenced.fuse = none ∧ d.fenced.las.length = d.las.length ∧ d.fenced.steps = d.steps + 1 := by
  have hd : d.down = false := by unfold Dev.down; rw [hf]; rfl
  have e : d.fenced = { d.stepped false with opn := d.opn.filterMap fencePen, las := d.las.mapIdx (fenceWord d.opn) } := by unfold Dev.fenced; rw [hd]; rfl
  refine ⟨?_, by rw [e]; show d.fuse.map _ = none; rw [hf]; rfl, by rw [e]; simp, by rw [e]; rfl⟩
  rw [Pm.wordsOf_eq, Pm.wordsOf_eq, e]
  simp only [List.length_mapIdx]
  apply List.map_congr_left
  intro i hi
  rw [List.mem_range] at hi
  unfold Dev.load Dev.find Dev.lasting Dev.inn
  simp only [List.length_mapIdx]
  rw [fence_find _ _ hw.keys]
  have hin : (decide (0 ≤ (i : Int)) && decide ((i : Int) < d.las.length)) = true := by simp [hi]
  rw [hin]
  simp only [if_true, Int.toNat_natCast]
  have hlas : (d.las.mapIdx (fenceWord d.opn)).getD i 0 = fenceWord d.opn i (d.las.getD i 0) := by
    rw [List.getD_eq_getElem?_getD, List.getElem?_mapIdx, List.getD_eq_getElem?_getD, List.getElem?_eq_getElem hi]
    rfl
  rw [hlas]
  unfold fenceWord
  cases hq : d.opn.find? fun y => decide (y.1 = (i : Int)) with
  | none => rfl
  | some y =>
    have hm := List.mem_of_find?_eq_some hq
    have hfl := hw.fl y hm
    have hne := hw.ne y hm
    have hlen : 0 < y.2.l.length := List.length_pos_iff.2 hne
    show (match ((some y).bind fencePen).map (·.2) with | some p => _ | none => _) = _
    simp only [Option.bind_some, Option.map_some]
    unfold fencePen
    by_cases h0 : y.2.fl = 0
    · rw [if_pos h0]
      rfl
    · rw [if_neg h0]
      by_cases h1 : y.2.l.length ≤ y.2.fl
      · rw [if_pos h1]
        show (if y.2.fl = 0 then _ else _) = _
        rw [if_neg h0, show y.2.fl = y.2.l.length from by omega]
      · rw [if_neg h1]
        show (y.2.l.drop y.2.fl).getD _ 0 = _
        rw [List.getD_eq_getElem?_getD, List.getD_eq_getElem?_getD, List.length_drop, List.getElem?_drop]
        rw [show y.2.fl + (y.2.l.length - y.2.fl - 1) = y.2.l.length - 1 from by omega]

/-- words cleared: how many -/
theorem pgo_clear : ∀ (m : Nat) (a : Nat) (L : List Int) (c : Nat) (ls : List Nat), a + m ≤ L.length →
    (pgo false (List.replicate m 0) a (L, c, ls)).1 = wput L a (List.replicate m 0) ∧ (pgo false (List.replicate m 0) a (L, c, ls)).2.1 = c + (((L.drop a).take m).filter fun x => decide (x ≠ 0)).length
  | 0, a, L, c, ls, _ => by constructor <;> simp [pgo, wput]
  | m + 1, a, L, c, ls, h => by
    have ha : a < L.length := by omega
    obtain ⟨x, hx⟩ := some_at ha
    have hgd : L.getD a 0 = x := by rw [List.getD_eq_getElem?_getD, hx]; rfl
    have hdr : L.drop a = x :: L.drop (a + 1) := drop_next hx
    rw [List.replicate_succ]
    by_cases hz : x = 0
    · have e : pgo false (0 :: List.replicate m 0) a (L, c, ls) = pgo false (List.replicate m 0) (a + 1) (L, c, ls) := by
        show (if (!false && decide (L.getD a 0 = 0)) = true then _ else _) = _
        rw [hgd, if_pos (by simp [hz])]
      obtain ⟨q1, q2⟩ := pgo_clear m (a + 1) L c ls (by omega)
      rw [e, q1, q2, hdr]
      have hs : L.set a 0 = L := by
        subst hz
        apply List.ext_getElem?
        intro i
        rw [List.getElem?_set]
        by_cases h2 : a = i
        · subst h2; rw [if_pos rfl, if_pos ha, hx]
        · rw [if_neg h2]
      refine ⟨?_, ?_⟩
      · show _ = wput (L.set a 0) (a + 1) (List.replicate m 0)
        rw [hs]
      · simp [hz]
    · have e : pgo false (0 :: List.replicate m 0) a (L, c, ls) = pgo false (List.replicate m 0) (a + 1) (L.set a 0, c + 1, addLn ls (a / 8)) := by
        show (if (!false && decide (L.getD a 0 = 0)) = true then _ else _) = _
        rw [hgd, if_neg (by simp [hz])]
      obtain ⟨q1, q2⟩ := pgo_clear m (a + 1) (L.set a 0) (c + 1) (addLn ls (a / 8)) (by rw [List.length_set]; omega)
      rw [e, q1, q2, hdr]
      refine ⟨rfl, ?_⟩
      rw [List.drop_set_of_lt (by omega)]
      simp [hz]
      omega

end Go.Proofs.YtichcdoijieddaaGreat.Ma
end

/- package bitmap: New, Put, Words, Next. -/
section
set_option linter.unusedVariables false
set_option linter.unusedSimpArgs false
set_option maxHeartbeats 2000000
set_option maxRecDepth 100000
namespace Go.Proofs.YtichcdoijieddaaGreat.Bm
open Go Go.RowKit
open Go.Proofs.YtichcdoijieddaaGreat.Ob Go.Proofs.YtichcdoijieddaaGreat.Ba Go.Proofs.YtichcdoijieddaaGreat.Oc Go.Proofs.YtichcdoijieddaaGreat.Pk

theorem words_ (n : Nat) (hn : n ≤ 65534) (w : World) : Calls Tryz.prog 62 #[.int .i64 n] w fun e w' => e = .returned (.int .i64 ((n + 63) / 64 : Nat)) ∧ w' = w := by
  go_enter Tryz.func62, Tryz.ntmps62
  go_wp2_with fail
  go_ret
  refine ⟨?_, rfl⟩
  go_num

theorem new_ (n : Nat) (hn : n ≤ 65534) (w : World) : Calls Tryz.prog 14 #[.int .i64 n] w fun e w' => ∃ b, e = .returned (.pointer (some ⟨b, 0, none⟩)) ∧ Bm w' w.heap.size b n (List.replicate ((n + 63) / 64) 0) (some ⟨w.heap.size, 0, none⟩) ((n + 63) / 64) ∧ Below w.heap.size w w' := by
  have hu := Tryz.underlying125
  have hm : (n + 63) / 64 ≤ 1024 := by omega
  have hz : ivs .u64 (ints (List.replicate ((n + 63) / 64) 0)) = List.replicate ((n + 63) / 64) (.int .u64 0) := by simp [ivs, ints]
  have HFIN : Hid (Bm ((w.alloc (.cells (Array.replicate ((n + 63) / 64) (.int .u64 0)) 60)).alloc (.cells #[.int .i64 n, .slice (some ⟨w.heap.size, 0, none⟩) ((n + 63) / 64) ((n + 63) / 64)] 125)) w.heap.size (w.heap.size + 1) n (List.replicate ((n + 63) / 64) 0) (some ⟨w.heap.size, 0, none⟩) ((n + 63) / 64)) := by
    have h1 := alloc_new w (.cells (Array.replicate ((n + 63) / 64) (.int .u64 0)) 60)
    have h2 := alloc_new (w.alloc (.cells (Array.replicate ((n + 63) / 64) (.int .u64 0)) 60)) (.cells #[.int .i64 n, .slice (some ⟨w.heap.size, 0, none⟩) ((n + 63) / 64) ((n + 63) / 64)] 125)
    rw [World.size_alloc] at h2
    have h3 := alloc_old h1 (.cells #[.int .i64 n, .slice (some ⟨w.heap.size, 0, none⟩) ((n + 63) / 64) ((n + 63) / 64)] 125)
    refine ⟨by rw [List.length_replicate]; exact h2, ?_, by omega, ?_, by simp, ?_, hn⟩
    · rw [List.length_replicate]
      refine own_new (k := .u64) (l := ints (List.replicate ((n + 63) / 64) 0)) ?_ (Nat.le_refl _) (by rw [ints_length, List.length_replicate]) (by unfold maxLen; omega)
      rw [hz, List.toArray_replicate]
      exact h3
    · intro a ha
      cases ha
      simp
    · intro x hx
      rw [(List.mem_replicate.1 hx).2]
      decide
  clear hz
  rcases Nat.eq_zero_or_pos n with rfl | h0
  · have HW := Lib.hid (words_ 0 hn w)
    go_enter Tryz.func14, Tryz.ntmps14
    go_wp2_with fail
    refine HW.out.mono ?_
    rintro e w1 ⟨rfl, rfl⟩
    go_wp2_with (at_make; refine Go.Proofs.YtichcdoijieddaaGreat.Wl.wpl_make rfl _ 22 60 rfl (.int .u64 0) 8 Tryz.underlying22 info_u64 rfl 0 .i64 _ rfl rfl (by omega) (by omega) ?_)
    go_ret
    exact ⟨_, rfl, HFIN.out, bl_alloc (bl_alloc (Below.refl _ _) _) _⟩
  have HW := Lib.hid (words_ n hn w)
  by_cases h9 : n < 65534
  · generalize (n + 63) / 64 = m at *
    go_enter Tryz.func14, Tryz.ntmps14
    go_wp2_with fail
    refine HW.out.mono ?_
    rintro e w1 ⟨rfl, rfl⟩
    go_wp2_with (at_make; refine Go.Proofs.YtichcdoijieddaaGreat.Wl.wpl_make rfl _ 22 60 rfl (.int .u64 0) 8 Tryz.underlying22 info_u64 rfl m .i64 _ rfl rfl (by omega) (by omega) ?_)
    go_ret
    exact ⟨_, rfl, HFIN.out, bl_alloc (bl_alloc (Below.refl _ _) _) _⟩
  · obtain rfl : n = 65534 := by omega
    go_enter Tryz.func14, Tryz.ntmps14
    go_wp2_with fail
    refine HW.out.mono ?_
    rintro e w1 ⟨rfl, rfl⟩
    go_wp2_with (at_make; refine Go.Proofs.YtichcdoijieddaaGreat.Wl.wpl_make rfl _ 22 60 rfl (.int .u64 0) 8 Tryz.underlying22 info_u64 rfl 1024 .i64 _ rfl rfl (by omega) (by omega) ?_)
    go_ret
    exact ⟨_, rfl, HFIN.out, bl_alloc (bl_alloc (Below.refl _ _) _) _⟩

theorem put_ {W : World} {B b n : Nat} {l : List Nat} {A : Option Addr} {c : Nat} (h : Bm W B b n l A c) {D : Option Addr} {xs : List Int} (hxs : Rk .i64 W D xs) (hD : ∀ a a', D = some a → A = some a' → a'.block ≠ a.block) (cd : Nat) (hn : xs.length ≤ 1000000000) :
    Calls Tryz.prog 16 #[.pointer (some ⟨b, 0, none⟩), .slice D xs.length cd] W fun e w' => e = .returned (.int .i64 (turnL n false l xs).2) ∧ Bm w' B b n (turnL n false l xs).1 A c ∧ Only A W w' := by
  have HT := Lib.hid (turn_ h false hxs hD cd hn)
  generalize turnL n false l xs = r at *
  clear h hxs hD
  go_enter Tryz.func16, Tryz.ntmps16
  go_wp2_with fail
  refine HT.out.mono ?_
  rintro e w1 ⟨rfl, h1, h2⟩
  have H := Lib.hid (And.intro h1 h2)
  clear h1 h2
  go_wp2_with fail
  go_ret
  exact ⟨rfl, H.out.1, H.out.2⟩

theorem words_of {W : World} {B b n : Nat} {l : List Nat} {A : Option Addr} {c : Nat} (h : Bm W B b n l A c) :
    Calls Tryz.prog 66 #[.pointer (some ⟨b, 0, none⟩)] W fun e w' => ∃ v, e = .returned v ∧ w'.ownsRow W.heap.size 60 1 v l.length (ivs .u64 (ints l)) ∧ Below W.heap.size W w' := by
  have hu := Tryz.underlying125
  have k0 := cell_of h.box 0
  have k1 := cell_of h.box 1
  have hrk := own_rk (k := .u64) h.row
  have hcl := Pm.clone_big (show Pm.Rd W A (ints l) from hrk.1) c (by rw [ints_length]; have := h.len; have := h.le; omega) (by
    intro hA
    obtain ⟨h1, ⟨h2, h3⟩ | ⟨g, cap, cur, hv, hg, hb, hn, hm, hs, ht⟩⟩ := h.row
    · simp only [Value.slice.injEq] at h2
      refine ⟨?_, h2.2.2⟩
      have := h2.2.1
      rw [← ints_length] at this
      exact List.length_eq_zero_iff.1 this
    · rw [hA] at hv; cases hv)
  rw [ints_length] at hcl
  have HCL := Lib.hid hcl
  clear hcl hrk
  go_enter Tryz.func66, Tryz.ntmps66
  go_wp2_with fail
  refine HCL.out.mono ?_
  rintro e w1 ⟨v, rfl, h1, h2⟩
  have H := Lib.hid (And.intro h1 h2)
  clear h1 h2
  go_wp2_with fail
  go_ret
  exact ⟨_, rfl, H.out.1, H.out.2⟩

/-- the least one from i on -/
def NextIs (n : Nat) (l : List Nat) (i : Int) (used : Bool) (r : Int) : Prop :=
  (r = -1 ∧ ∀ j : Nat, i ≤ j → j < n → bget l j ≠ used) ∨ (∃ j : Nat, r = j ∧ i ≤ j ∧ j < n ∧ bget l j = used ∧ ∀ k : Nat, i ≤ k → k < j → bget l k ≠ used)

theorem next_ {W : World} {B b n : Nat} {l : List Nat} {A : Option Addr} {c : Nat} (h : Bm W B b n l A c) (i : Int) (used : Bool) : Calls Tryz.prog 97 #[.pointer (some ⟨b, 0, none⟩), .int .i64 i, .bool used] W fun e w' => ∃ r, e = .returned (.int .i64 r) ∧ NextIs n l i used r ∧ w' = W := by
  have hu := Tryz.underlying125
  have k0 := cell_of h.box 0
  have hn := h.le
  have H := Lib.hid h
  clear h
  go_enter Tryz.func97, Tryz.ntmps97
  go_wp2_with fail
  all_goals
    go_loop [7] (fun c7 => ∃ s : Int, c7 = .int .i64 s ∧ 0 ≤ s ∧ Hid (i ≤ s ∧ ∀ k : Nat, i ≤ k → (k : Int) < s → bget l k ≠ used)) (fun c7 => n - (intOf c7).toNat)
    case atStart =>
      first
        | exact ⟨i, rfl, by omega, Int.le_refl _, fun k h1 h2 => by omega⟩
        | exact ⟨0, rfl, Int.le_refl _, by omega, fun k h1 h2 => by omega⟩
    case round =>
      obtain ⟨s, rfl, hs, HR⟩ := hrel
      by_cases hlt : s < n
      · have HH := Lib.hid (has_ H.out s)
        have hbg : bhas n l s = bget l s.toNat := by unfold bhas; rw [decide_eq_true hs, decide_eq_true hlt]; rfl
        rw [hbg] at HH
        by_cases h3 : bget l s.toNat = used
        · have HF : Hid (NextIs n l i used s) := .inr ⟨s.toNat, by omega, by have := HR.out.1; omega, by omega, h3, fun k h1 h2 => HR.out.2 k h1 (by omega)⟩
          rw [h3] at HH
          clear h3 hbg
          go_wp2_with fail
          refine HH.out.mono ?_
          rintro e w5 ⟨rfl, rfl⟩
          go_wp2_with fail
          go_ret
          exact ⟨_, rfl, HF.out, rfl⟩
        · have HF : Hid (i ≤ s + 1 ∧ ∀ k : Nat, i ≤ k → (k : Int) < s + 1 → bget l k ≠ used) := by
            refine ⟨by have := HR.out.1; omega, fun k h1 h2 => ?_⟩
            by_cases hk : (k : Int) < s
            · exact HR.out.2 k h1 hk
            · have : k = s.toNat := by omega
              rw [this]; exact h3
          have e3 : (bget l s.toNat == used) = false := beq_eq_false_iff_ne.2 h3
          generalize bget l s.toNat = r at *
          clear h3 hbg
          go_wp2_with fail
          refine HH.out.mono ?_
          rintro e w5 ⟨rfl, rfl⟩
          go_wp2_with fail
          go_round
          case rel => exact ⟨s + 1, by go_num, by omega, HF⟩
          case measure => simp [intOf]; omega
      · have HF : Hid (NextIs n l i used (-1)) := .inl ⟨rfl, fun j h1 h2 => HR.out.2 j h1 (by omega)⟩
        go_wp2_with fail
        go_ret
        exact ⟨_, rfl, HF.out, rfl⟩

end Go.Proofs.YtichcdoijieddaaGreat.Bm
end

/- package bitmap: Len, Of (one word), Same. -/
section
set_option linter.unusedVariables false
set_option linter.unusedSimpArgs false
set_option maxHeartbeats 2000000
set_option maxRecDepth 100000
namespace Go.Proofs.YtichcdoijieddaaGreat.Bm
open Go Go.RowKit
open Go.Proofs.YtichcdoijieddaaGreat.Ob Go.Proofs.YtichcdoijieddaaGreat.Ba Go.Proofs.YtichcdoijieddaaGreat.Oc Go.Proofs.YtichcdoijieddaaGreat.Pk

theorem len_ {W : World} {B b n : Nat} {l : List Nat} {A : Option Addr} {c : Nat} (h : Bm W B b n l A c) : Calls Tryz.prog 64 #[.pointer (some ⟨b, 0, none⟩)] W fun e w' => e = .returned (.int .i64 n) ∧ w' = W := by
  have hu := Tryz.underlying125
  have k0 := cell_of h.box 0
  clear h
  go_enter Tryz.func64, Tryz.ntmps64
  go_wp2
  go_ret
  exact ⟨rfl, rfl⟩

theorem own_blk' {W : World} {B T s n k : Nat} {v : Value} {xs : List Value} (h : W.ownsRow B T s v n xs) (hk : v.ownBlock = some k) : ∃ cur, W.heap[k]? = some (.cells cur T (0, 0)) := by
  obtain ⟨h1, ⟨rfl, _⟩ | ⟨g, cap, cur, rfl, hg, hb, r⟩⟩ := h
  · simp [Value.ownBlock] at hk
  · simp [Value.ownBlock] at hk
    subst hk
    exact ⟨_, hb⟩

/-- of one word: of n blocks, or none -/
theorem of_one {w : World} {A : Option Addr} {x : Nat} (h : Rk .u64 w A (ints [x])) (hx : x < 18446744073709551616) (c n : Nat) (h1 : 1 ≤ n) (h2 : n ≤ 63) :
    Calls Tryz.prog 67 #[.int .i64 n, .slice A 1 c] w fun e w' =>
      (x / 2 ^ n = 0 → ∃ b A' c', e = .returned (.tuple #[.pointer (some ⟨b, 0, none⟩), .int .i64 0]) ∧ Bm w' w.heap.size b n [x] A' c') ∧ (x / 2 ^ n ≠ 0 → e = .returned (.tuple #[.pointer none, .int .i64 2])) ∧ Below w.heap.size w w' := by
  have hu := Tryz.underlying125
  obtain ⟨a, rfl, ha0, ha⟩ := h 0 x rfl
  have ha : w.cell? a = some (.int .u64 x) := ha
  have hW : Hid (∀ W, Calls Tryz.prog 62 #[.int .i64 n] W fun e w' => e = .returned (.int .i64 1) ∧ w' = W) := fun W => by
    have := words_ n (by omega) W
    rw [show (n + 63) / 64 = 1 from by omega] at this
    exact this
  have hcl := Pm.clone_big (show Pm.Rd w (some a) (ints [x]) from h) c (by simp [ints]) (by intro h; cases h)
  rw [ints_length] at hcl
  have HCL := Lib.hid hcl
  have hmod : (n : Int) % 64 = n := by omega
  have hne : ((n : Int) != 0) = true := by rw [bne_iff_ne]; omega
  have hdv : (x : Int) / 2 ^ n = ((x / 2 ^ n : Nat) : Int) := by norm_cast
  clear hcl h
  by_cases hz : x / 2 ^ n = 0
  · have e0 : (((x / 2 ^ n : Nat) : Int) != 0) = false := by rw [hz]; rfl
    have HX : Hid (x / 2 ^ n = 0 ∧ x < 18446744073709551616) := ⟨hz, hx⟩
    generalize x / 2 ^ n = y at *
    clear hz
    go_enter Tryz.func67, Tryz.ntmps67
    go_wp2_with (first | (go_at_call 62; refine (hW.out _).mono ?_; rintro e w1 ⟨rfl, rfl⟩) |
      (go_at_call 69; refine (show Calls _ _ #[.slice (some a) 1 c] _ _ from HCL.out).mono ?_; rintro e w1 ⟨v, rfl, hown, hb⟩; (obtain ⟨A1, c1, rfl⟩ := own_slice hown); (have HO := Lib.hid hown); (have HB := Lib.hid hb); clear hown hb))
    go_ret2
    refine ⟨fun _ => ⟨_, A1, c1, rfl, ?_⟩, fun h => absurd HX.out.1 h, bl_alloc HB.out _⟩
    refine ⟨alloc_new w1 _, own_kp HO.out (fun k _ hk => Below.heap_alloc _ _ k hk), HB.out.size, ?_, by simp; omega, ?_, by omega⟩
    · intro p hp
      subst hp
      obtain ⟨cur, hc⟩ := own_blk' HO.out rfl
      exact Nat.ne_of_lt (lt_of hc)
    · intro z hz
      simp at hz
      subst hz
      exact HX.out.2
  · have e0 : (((x / 2 ^ n : Nat) : Int) != 0) = true := by rw [bne_iff_ne]; omega
    have HX : Hid (x / 2 ^ n ≠ 0) := hz
    generalize x / 2 ^ n = y at *
    clear hz
    go_enter Tryz.func67, Tryz.ntmps67
    go_wp2_with (go_at_call 62; refine (hW.out _).mono ?_; rintro e w1 ⟨rfl, rfl⟩)
    go_ret2
    exact ⟨fun h => absurd h HX.out, fun _ => rfl, Below.refl _ _⟩

structure Bk (w W : World) : Prop where
  same : ∃ k, W = w.drewN k
theorem same_ {W : World} {B B' b b' n n' : Nat} {l l' : List Nat} {A A' : Option Addr} {c c' : Nat} (h : Bm W B b n l A c) (h' : Bm W B' b' n' l' A' c') :
    Calls Tryz.prog 22 #[.pointer (some ⟨b, 0, none⟩), .pointer (some ⟨b', 0, none⟩)] W fun e w' => e = .returned (.bool (decide (n = n' ∧ l = l'))) ∧ Below W.heap.size W w' := by
  have hu := Tryz.underlying125
  have k0 := cell_of h.box 0
  have k1 := cell_of h.box 1
  have p0 := cell_of h'.box 0
  have p1 := cell_of h'.box 1
  have hr := (own_rk (k := .u64) h.row).1
  have hr' := (own_rk (k := .u64) h'.row).1
  have HEQ : Hid (∀ j, Calls Tryz.prog 68 #[.slice A l.length c, .slice A' l'.length c'] (W.drewN j) fun e w' => e = .returned (.bool (decide (ints l = ints l'))) ∧ ∃ q, w' = (W.drewN j).drewN q) := fun j => by
    have := Pm.equal_any (w := W.drewN j) (show Pm.Rd (W.drewN j) A (ints l) from hr) (show Pm.Rd (W.drewN j) A' (ints l') from hr') c c' (by rw [ints_length]; have := h.len; have := h.le; omega) (by rw [ints_length]; have := h'.len; have := h'.le; omega)
    rw [ints_length, ints_length] at this
    exact this
  have fin : ∀ (W' : World) (r : Bool), r = decide (n = n' ∧ l = l') → Below W.heap.size W W' → (Ending.returned (.bool r) = .returned (.bool (decide (n = n' ∧ l = l'))) ∧ Below W.heap.size W W') := fun W' r h hb => ⟨by rw [h], hb⟩
  have HDL : Hid (decide (ints l = ints l') = decide (l = l')) := by
    show _ = _
    by_cases q : l = l'
    · rw [q, decide_eq_true rfl, decide_eq_true rfl]
    · rw [decide_eq_false q, decide_eq_false (fun e => q (ints_inj.1 e))]
  obtain ⟨r, hr9⟩ : ∃ r, r = decide (ints l = ints l') := ⟨_, rfl⟩
  rw [← hr9] at HEQ HDL
  clear h h' hr hr' hr9
  generalize l.length = ln at *
  generalize l'.length = ln' at *
  have hnn : (((n : Int)) == (n' : Int)) = decide (n = n') := by
    by_cases q : n = n'
    · rw [q, decide_eq_true rfl]; exact beq_self_eq_true _
    · rw [decide_eq_false q, beq_eq_false_iff_ne]; omega
  by_cases hq : n = n'
  · have HV : Hid (r = decide (n = n' ∧ l = l')) := by
      show _ = _
      rw [HDL.out]
      by_cases q : l = l'
      · rw [decide_eq_true q, decide_eq_true ⟨hq, q⟩]
      · rw [decide_eq_false q, decide_eq_false (fun h => q h.2)]
    generalize decide (n = n' ∧ l = l') = R at *
    subst hq
    clear hnn
    go_enter Tryz.func22, Tryz.ntmps22
    go_wp2_with fail
    go_region_held3 (fun w' => w'.cell? ⟨b, 0, none⟩ = some (.int .i64 n) ∧ w'.cell? ⟨b, 1, none⟩ = some (.slice A ln c) ∧ w'.cell? ⟨b', 0, none⟩ = some (.int .i64 n) ∧ w'.cell? ⟨b', 1, none⟩ = some (.slice A' ln' c') ∧ Bk W w')
      (first | assumption | exact ⟨k0, k1, p0, p1, ⟨1, rfl⟩⟩ | exact ⟨k0, k1, p0, p1, ⟨_, rfl⟩⟩)
      ((go_at_call 68; refine (HEQ.out 1).mono ?_; rintro e w1 ⟨rfl, j, rfl⟩))
    all_goals
      go_wp2
      go_ret
      exact fin _ _ HV.out (bl_drewN (Below.refl _ _) _)
  · have HV : Hid (false = decide (n = n' ∧ l = l')) := by
      show _ = _
      rw [decide_eq_false (fun h => hq h.1)]
    rw [decide_eq_false hq] at hnn
    generalize decide (n = n' ∧ l = l') = R at *
    go_enter Tryz.func22, Tryz.ntmps22
    go_wp2_with fail
    go_quiet (fail)
    go_wp2
    go_ret
    exact fin _ _ HV.out (bl_drewN (Below.refl _ _) _)

end Go.Proofs.YtichcdoijieddaaGreat.Bm
end

/- The fourth chapter's example. -/
section
set_option linter.unusedVariables false
set_option linter.unusedSimpArgs false
set_option maxHeartbeats 2000000
set_option maxRecDepth 100000
namespace Go.Proofs.YtichcdoijieddaaGreat.Li
open Go Go.RowKit
open Go.Proofs.YtichcdoijieddaaGreat.Ob Go.Proofs.YtichcdoijieddaaGreat.Ba Go.Proofs.YtichcdoijieddaaGreat.Ge Go.Proofs.YtichcdoijieddaaGreat.Ko

theorem lives04 (w : World) : Calls Tryz.prog 95 #[] w fun e w' => e = .returned (.bool true) ∧ Below w.heap.size w w' := by
  have hu := Tryz.underlying83
  have hok : geoOk 10 3 64 = true := by decide
  have H1 : Hid (∀ w, Calls Tryz.prog 65 #[.agg #[.int .i64 10, .int .i64 3, .int .i64 64]] w fun e w' => e = .returned (.tuple #[.int .i64 56, .int .i64 1]) ∧ Below w.heap.size w w') := fun w => bmap_ 10 3 64 hok w
  have H2 : Hid (∀ w, Calls Tryz.prog 56 #[.agg #[.int .i64 10, .int .i64 3, .int .i64 64], .int .i64 2] w fun e w' => e = .returned (.int .i64 32) ∧ Below w.heap.size w w') := fun w => inode_ 10 3 64 2 hok w
  have H3 : Hid (∀ w, Calls Tryz.prog 75 #[.agg #[.int .i64 10, .int .i64 3, .int .i64 64], .int .i64 0] w fun e w' => e = .returned (.int .i64 40) ∧ Below w.heap.size w w') := fun w => slot_ 10 3 64 0 hok w
  have H4 : Hid (∀ w, Calls Tryz.prog 79 #[.agg #[.int .i64 10, .int .i64 3, .int .i64 64], .int .i64 0] w fun e w' => e = .returned (.int .i64 64) ∧ Below w.heap.size w w') := fun w => block_ 10 3 64 0 hok w
  have H5 : Hid (∀ w, Calls Tryz.prog 123 #[.agg #[.int .i64 10, .int .i64 3, .int .i64 64]] w fun e w' => e = .returned (.int .i64 144) ∧ Below w.heap.size w w') := fun w => words_ 10 3 64 hok w
  clear hok
  go_enter Tryz.func95, Tryz.ntmps95
  go_wp2_with (first | (go_at_call 65; refine (H1.out _).mono ?_; rintro e w1 ⟨rfl, hb1⟩; (have hq := blk_bl (alloc_new w (.cells #[.int .i64 10, .int .i64 3, .int .i64 64] 83)) hb1); (have k10 : w1.cell? ⟨w.heap.size, 0, none⟩ = some (.int .i64 10) := cell_of hq 0); (have k11 : w1.cell? ⟨w.heap.size, 1, none⟩ = some (.int .i64 3) := cell_of hq 1); (have k12 : w1.cell? ⟨w.heap.size, 2, none⟩ = some (.int .i64 64) := cell_of hq 2); (have HB1 : Hid (Bx w w1) := ⟨bl_then (bl_alloc (Below.refl _ _) _) hb1, lt_of hq⟩); clear hb1 hq) |
    (go_at_call 56; refine (H2.out _).mono ?_; rintro e w2 ⟨rfl, hb2⟩; (obtain ⟨k20, k21, k22, hx2⟩ := bx_keep ⟨k10, k11, k12, HB1.out⟩ hb2); (have HB2 := Lib.hid hx2); clear hb2 hx2) |
    (go_at_call 75; refine (H3.out _).mono ?_; rintro e w3 ⟨rfl, hb3⟩; (obtain ⟨k30, k31, k32, hx3⟩ := bx_keep ⟨k20, k21, k22, HB2.out⟩ hb3); (have HB3 := Lib.hid hx3); clear hb3 hx3) |
    (go_at_call 79; refine (H4.out _).mono ?_; rintro e w4 ⟨rfl, hb4⟩; (obtain ⟨k40, k41, k42, hx4⟩ := bx_keep ⟨k30, k31, k32, HB3.out⟩ hb4); (have HB4 := Lib.hid hx4); clear hb4 hx4) |
    (go_at_call 123; refine (H5.out _).mono ?_; rintro e w5 ⟨rfl, hb5⟩; (obtain ⟨k50, k51, k52, hx5⟩ := bx_keep ⟨k40, k41, k42, HB4.out⟩ hb5); (have HB5 := Lib.hid hx5); clear hb5 hx5))
  go_ret
  exact ⟨rfl, HB5.out.below⟩

end Go.Proofs.YtichcdoijieddaaGreat.Li
end

/- The chapters' examples: cantlelaw02.Lives. -/
section
set_option linter.unusedVariables false
set_option linter.unusedSimpArgs false
set_option maxHeartbeats 2000000
set_option maxRecDepth 100000
namespace Go.Proofs.YtichcdoijieddaaGreat.Li
open Go Go.RowKit
open Go.Proofs.YtichcdoijieddaaGreat.Ob Go.Proofs.YtichcdoijieddaaGreat.Ba Go.Proofs.YtichcdoijieddaaGreat.Oc Go.Proofs.YtichcdoijieddaaGreat.Pk Go.Proofs.YtichcdoijieddaaGreat.Cr Go.Proofs.YtichcdoijieddaaGreat.C6 Go.Proofs.YtichcdoijieddaaGreat.Cc Go.Proofs.YtichcdoijieddaaGreat.Su

def nine : List Nat := [49, 50, 51, 52, 53, 54, 55, 56, 57]

theorem lives02 (w : World) : Calls Tryz.prog 93 #[] w fun e w' => e = .returned (.bool true) ∧ Below w.heap.size w w' := by
  have kc := Lib.run_convert_bytes_const (P := Tryz.prog) w 95 5 #[.int .u8 49, .int .u8 50, .int .u8 51, .int .u8 52, .int .u8 53, .int .u8 54, .int .u8 55, .int .u8 56, .int .u8 57] 9 9 Tryz.underlying95 Tryz.underlying5
  go_enter Tryz.func93, Tryz.ntmps93
  go_wp2_with fail
  have hrk : Rk .u8 (w.alloc (.cells #[.int .u8 49, .int .u8 50, .int .u8 51, .int .u8 52, .int .u8 53, .int .u8 54, .int .u8 55, .int .u8 56, .int .u8 57] 5 (9, 10))) (some ⟨w.heap.size, 0, none⟩) (ints nine) := by
    refine blk_rk (alloc_new w (.cells #[.int .u8 49, .int .u8 50, .int .u8 51, .int .u8 52, .int .u8 53, .int .u8 54, .int .u8 55, .int .u8 56, .int .u8 57] 5 (9, 10))) fun i x hx => ?_
    match i with
    | 0 | 1 | 2 | 3 | 4 | 5 | 6 | 7 | 8 => simpa [ints, nine] using hx
    | i + 9 => simp [ints, nine] at hx
  have hps : ∀ W, Below (w.alloc (.cells #[.int .u8 49, .int .u8 50, .int .u8 51, .int .u8 52, .int .u8 53, .int .u8 54, .int .u8 55, .int .u8 56, .int .u8 57] 5 (9, 10))).heap.size (w.alloc (.cells #[.int .u8 49, .int .u8 50, .int .u8 51, .int .u8 52, .int .u8 53, .int .u8 54, .int .u8 55, .int .u8 56, .int .u8 57] 5 (9, 10))) W → PsAt (W.alloc (.cells #[.slice (some ⟨w.heap.size, 0, none⟩) 9 9] 95)) (some ⟨W.heap.size, 0, none⟩) [⟨some ⟨w.heap.size, 0, none⟩, 9, nine⟩] := by
    intro W hb i p hp
    match i with
    | 0 =>
      simp at hp
      subst hp
      exact ⟨⟨hrk.below (bl_alloc hb _), (by decide : ∀ x ∈ nine, x < 256), by simp [nine]⟩, _, rfl, one_at _ _ _ 0 _ rfl⟩
    | i + 1 => simp at hp
  have h32 := sum32_ (hps _ (Below.refl _ _)) 1 (by simp)
  rw [show (4294967295 - (sumB 4294967295 (allOf [(⟨some ⟨w.heap.size, 0, none⟩, 9, nine⟩ : Part)]) : Nat) : Int) = 3421780262 from by
    rw [show allOf [(⟨some ⟨w.heap.size, 0, none⟩, 9, nine⟩ : Part)] = nine from by simp [allOf]]
    decide] at h32
  have h16 := sum16_ (hps _ (bl_alloc (Below.refl _ _) (.cells #[.slice (some ⟨w.heap.size, 0, none⟩) 9 9] 95))) 1 (by simp)
  rw [show (sum6 65535 (allOf [(⟨some ⟨w.heap.size, 0, none⟩, 9, nine⟩ : Part)])) = 10673 from by
    rw [show allOf [(⟨some ⟨w.heap.size, 0, none⟩, 9, nine⟩ : Part)] = nine from by simp [allOf]]
    decide] at h16
  simp only [World.size_alloc] at h32 h16
  have H16 := Lib.hid h16
  refine (show Calls _ _ #[.slice (some ⟨w.heap.size + 1, 0, none⟩) 1 1] _ _ from h32).mono ?_
  rintro e w1 ⟨rfl, rfl⟩
  clear h32 h16 hps hrk kc
  go_wp2_with fail
  refine (show Calls _ _ #[.slice (some ⟨w.heap.size + 1 + 1, 0, none⟩) 1 1] _ _ from H16.out).mono ?_
  rintro e w2 ⟨rfl, rfl⟩
  go_wp2_with fail
  go_ret
  exact ⟨rfl, bl_alloc (bl_alloc (bl_alloc (Below.refl _ _) _) _) _⟩

theorem lives03 (w : World) : Calls Tryz.prog 94 #[] w fun e w' => e = .returned (.bool true) ∧ Below w.heap.size w w' := by
  have hfs : FsAt (w.alloc (.cells #[.int .i64 4, .int .u64 5, .int .i64 8, .int .u64 7] 163)) (some ⟨w.heap.size, 0, none⟩) [(4, 5), (8, 7)] := by
    refine fields_at (T := 163) (fr := (0, 0)) (alloc_new _ _) ?_
    intro p hp
    simp only [List.mem_cons, List.not_mem_nil, or_false] at hp
    rcases hp with rfl | rfl
    · exact ⟨by decide, by decide, by decide⟩
    · exact ⟨by decide, by decide, by decide⟩
  have hpk := pack_ hfs 2 (by decide) (by decide)
  rw [show pv [(4, 5), (8, 7)] = 117 from by decide] at hpk
  have HPK := Lib.hid hpk
  clear hfs hpk
  go_enter Tryz.func94, Tryz.ntmps94
  go_wp2_with fail
  refine (show Calls _ _ #[.slice (some ⟨w.heap.size, 0, none⟩) 2 2] _ _ from HPK.out).mono ?_
  rintro e w1 ⟨rfl, hb1⟩
  have HB1 := Lib.hid (bl_then (bl_alloc (Below.refl _ _) _) hb1)
  clear hb1 HPK
  have hrk : Rk .i64 (w1.alloc (.cells #[.int .i64 4, .int .i64 8] 3)) (some ⟨w1.heap.size, 0, none⟩) (ints [4, 8]) := by
    refine blk_rk (alloc_new w1 (.cells #[.int .i64 4, .int .i64 8] 3)) fun i x hx => ?_
    match i with
    | 0 | 1 => simpa [ints] using hx
    | i + 2 => simp [ints] at hx
  have hsp := split_ hrk 117 (by decide) 2 (by simp) (by decide) (by decide)
  rw [show decide (117 / 2 ^ [4, 8].sum = 0) = true from by decide] at hsp
  have HSP := Lib.hid hsp
  clear hrk hsp
  go_wp2_with fail
  refine (show Calls _ _ #[.int .u64 117, .slice (some ⟨w1.heap.size, 0, none⟩) 2 2] _ _ from HSP.out).mono ?_
  rintro e w2 ⟨v, rfl, hown, hb2⟩
  have hown := hown (by decide)
  obtain ⟨A2, c2, rfl⟩ := own_slice hown
  obtain ⟨g2, rfl, hc0, -⟩ := own_at (i := 0) (x := 5) hown rfl
  obtain ⟨_, e2, hc1, -⟩ := own_at (i := 1) (x := 7) hown rfl
  cases e2
  have HB2 := Lib.hid (bl_then (bl_alloc HB1.out _) hb2)
  have HOWN := Lib.hid hown
  clear hown hb2
  go_wp2_with fail
  go_ret
  exact ⟨rfl, HB2.out⟩

end Go.Proofs.YtichcdoijieddaaGreat.Li
end

/- The fifth chapter's example. -/
section
set_option linter.unusedVariables false
set_option linter.unusedSimpArgs false
set_option maxHeartbeats 2000000
set_option maxRecDepth 100000
namespace Go.Proofs.YtichcdoijieddaaGreat.Li
open Go Go.RowKit
open Go.Proofs.YtichcdoijieddaaGreat.Ob Go.Proofs.YtichcdoijieddaaGreat.Ba Go.Proofs.YtichcdoijieddaaGreat.Oc Go.Proofs.YtichcdoijieddaaGreat.Pk

theorem lives05 (w : World) : Calls Tryz.prog 46 #[] w fun e w' => e = .returned (.bool true) ∧ Below w.heap.size w w' := by
  have hen := Su.encode_yes 10 3 64 (by decide) (by decide) (by decide) (by decide) w
  have hl1 : (ints (Su.enc 10 3 64))[1]? = some 274878103562 := by decide
  have HL := Lib.hid hl1
  generalize Su.enc 10 3 64 = l at *
  have HE := Lib.hid hen
  clear hen hl1
  go_enter Tryz.func46, Tryz.ntmps46
  go_wp2_with (first | (go_at_call 91; refine HE.out.mono ?_; rintro e w1 ⟨v, rfl, hown, hb1⟩; (obtain ⟨A1, c1, rfl⟩ := own_slice hown); (obtain ⟨q1, rfl, -, -⟩ := own_at hown HL.out); (have HO := Lib.hid hown); (have HB1 := Lib.hid hb1); clear hb1 hown) |
    (go_at_call 92; refine (Pm.lives_any _).mono ?_; rintro e w2 ⟨rfl, hb2⟩; (have HB2 := Lib.hid hb2); clear hb2) |
    (go_at_call 93; refine (lives02 _).mono ?_; rintro e w3 ⟨rfl, hb3⟩; (have HB3 := Lib.hid (bl_then HB2.out hb3)); clear hb3) |
    (go_at_call 94; refine (lives03 _).mono ?_; rintro e w4 ⟨rfl, hb4⟩; (have HB4 := Lib.hid (bl_then HB3.out hb4)); clear hb4) |
    (go_at_call 95; refine (lives04 _).mono ?_; rintro e w5 ⟨rfl, hb5⟩; (have HB5 := Lib.hid (bl_then HB4.out hb5)); clear hb5; (obtain ⟨_, e5, hc5, -⟩ := own_at (own_bl HO.out HB5.out) HL.out); cases e5))
  go_ret
  exact ⟨rfl, bl_then HB1.out HB5.out⟩

end Go.Proofs.YtichcdoijieddaaGreat.Li
end

/- package inode: what a file is, in a line. -/
section
set_option linter.unusedVariables false
set_option linter.unusedSimpArgs false
set_option maxHeartbeats 2000000
set_option maxRecDepth 100000
namespace Go.Proofs.YtichcdoijieddaaGreat.In
open Go Go.RowKit
open Go.Proofs.YtichcdoijieddaaGreat.Ob Go.Proofs.YtichcdoijieddaaGreat.Ba Go.Proofs.YtichcdoijieddaaGreat.Oc Go.Proofs.YtichcdoijieddaaGreat.Pk Go.Proofs.YtichcdoijieddaaGreat.Su Go.Proofs.YtichcdoijieddaaGreat.Cc Go.Proofs.YtichcdoijieddaaGreat.Cr

/-- a file or a directory may be -/
def iOk (k h z : Int) : Prop := (k = 1 ∨ k = 2) ∧ 0 ≤ z ∧ z ≤ 268435456 ∧ -1 ≤ h ∧ h < 65534 ∧ (h < 0 ↔ z = 0) ∧ (k = 1 ∨ z % 64 = 0)

theorem may_yes (k h z : Int) (hk : iOk k h z) (w : World) : Calls Tryz.prog 100 #[.agg #[.int .i64 k, .int .i64 h, .int .i64 z]] w fun e w' => e = .returned (.bool true) ∧ Below w.heap.size w w' := by
  have hu := Tryz.underlying27
  obtain ⟨h1, h2, h3, h4, h5, h6, h7⟩ := hk
  have he : ((decide (h < 0)) == (z == 0)) = true := by
    by_cases hn : h < 0
    · have := h6.1 hn; simp [hn, this]
    · have h8 : ¬ z = 0 := fun e => hn (h6.2 e)
      simp [hn, h8]
  rcases h1 with rfl | rfl
  · clear h7 h6
    go_enter Tryz.func100, Tryz.ntmps100
    go_wp2
    go_ret
    exact ⟨rfl, bl_alloc (Below.refl _ _) _⟩
  · have h8 : z % 64 = 0 := by omega
    clear h7 h6
    go_enter Tryz.func100, Tryz.ntmps100
    go_wp2
    go_ret
    exact ⟨rfl, bl_alloc (Below.refl _ _) _⟩

theorem encode_file (k p z : Nat) (h : Int) (hp : (p : Int) = h + 1) (hk : iOk k h z) (w : World) :
    Calls Tryz.prog 57 #[.agg #[.int .i64 k, .int .i64 h, .int .i64 z]] w fun e w' => ∃ v, e = .returned (.tuple #[v, .int .i64 0]) ∧ w'.ownsRow w.heap.size 60 1 v 8 (ivs .u64 (ints (line (k + 65536 * p) z))) ∧ Below w.heap.size w w' := by
  have hu := Tryz.underlying27
  have HM := Lib.hid (may_yes k h z hk)
  obtain ⟨h1, h2, h3, h4, h5, h6, h7⟩ := hk
  have hk9 : k < 65536 := by omega
  have hp9 : p < 65536 := by omega
  have hz9 : z < 18446744073709551616 := by omega
  have e0 : ((k : Int) == 0) = false := by rw [beq_eq_false_iff_ne]; omega
  have HF := Lib.hid (And.intro (f16 hk9) (f16 hp9))
  obtain ⟨x, hx⟩ : ∃ x, x = k + 65536 * p := ⟨_, rfl⟩
  have hpv : pv [(16, k), (16, p)] = x := by simp [pv, hx]
  have hx9 : x < 18446744073709551616 := by omega
  have HPV := Lib.hid hpv
  have HP := Lib.hid hp
  rw [← hx]
  have hzz : (z : Int) ≤ 268435456 := h3
  clear h1 h2 h6 h7 hpv hx
  go_enter Tryz.func57, Tryz.ntmps57
  go_wp2_with (first | (at_make; refine Go.Proofs.YtichcdoijieddaaGreat.Wl.wpl_make rfl _ 22 60 rfl (.int .u64 0) 8 Tryz.underlying22 info_u64 rfl 8 .i64 _ rfl rfl (by decide) (by decide) ?_) | (go_at_call 100; refine (HM.out _).mono ?_; rintro e w1 ⟨rfl, hb⟩; (have hq := blk_bl (alloc_new w (.cells #[.int .i64 k, .int .i64 h, .int .i64 z] 27)) hb); (have HQ := Lib.hid hq); (have k0 := cell_of hq 0); (have k1 := cell_of hq 1); (have k2 := cell_of hq 2); (have hlt := lt_of hq); (have HB := Lib.hid (bl_then (bl_alloc (Below.refl _ _) _) hb)); clear hb hq))
  rw [← HP.out]
  have hfs : FsAt ((w1.alloc (.cells (Array.replicate 8 (.int .u64 0)) 60)).alloc (.cells #[.int .i64 16, .int .u64 k, .int .i64 16, .int .u64 p] 163)) (some ⟨w1.heap.size + 1, 0, none⟩) [(16, k), (16, p)] := by
    have := alloc_new (w1.alloc (.cells (Array.replicate 8 (.int .u64 0)) 60)) (.cells #[.int .i64 16, .int .u64 k, .int .i64 16, .int .u64 p] 163)
    rw [World.size_alloc] at this
    refine fields_at (T := 163) (fr := (0, 0)) this ?_
    intro u hu
    simp only [List.mem_cons, List.not_mem_nil, or_false] at hu
    rcases hu with rfl | rfl
    · exact HF.out.1
    · exact HF.out.2
  have hpk := pack_ hfs 2 (by simp [wid]) (by simp)
  rw [HPV.out] at hpk
  refine (show Calls _ _ #[.slice (some ⟨w1.heap.size + 1, 0, none⟩) 2 2] _ _ from hpk).mono ?_
  rintro e w3 ⟨rfl, hb3⟩
  have hL3 : w3.heap[w1.heap.size]? = some (.cells (Array.replicate 8 (.int .u64 0)) 60 (0, 0)) := blk_bl (alloc_old (alloc_new w1 _) _) hb3
  have hz3 := hb3.size
  simp only [World.size_alloc] at hz3
  have HB3 := Lib.hid (bl_then (bl_alloc (bl_alloc (Below.refl _ _) _) _) hb3)
  have hq3 := blk_bl HQ.out HB3.out
  clear k0 k1 k2
  have k0 := cell_of hq3 0
  have k1 := cell_of hq3 1
  have k2 := cell_of hq3 2
  have l0 := cell_of hL3 0
  have l1 := cell_of hL3 1
  have f0 := free_of hL3 0
  have f1 := free_of hL3 1
  simp only [Array.getElem?_replicate] at l0 l1
  have hL4 := set_same (set_same hL3 0 (.int .u64 x)) 1 (.int .u64 z)
  have hr4 := fill_line hL4
  have hr5 := words32_ hr4 (head7_lt (a := x) (b := z) hx9 hz9) 8 (by simp [head7])
  rw [show (head7 x z).length = 7 from rfl] at hr5
  have HR4 := Lib.hid hr5
  have HL4 := Lib.hid hL4
  have HB := Lib.hid HB.out
  clear hfs hpk hb3 hL3 hL4 hr4 hr5 hq3
  go_wp2_with fail
  refine HR4.out.mono ?_
  rw [sum7_int]
  rintro e w5 ⟨rfl, hb5⟩
  have hL5 := (hb5.block _ (lt_of HL4.out)).trans HL4.out
  have l7 : w5.cell? ⟨w1.heap.size, 7, none⟩ = some (.int .u64 0) := cell_of hL5 7
  have f7 := free_of hL5 7
  have hs7 := sum7_lt x z
  have HL5 := Lib.hid hL5
  have HB5 := Lib.hid hb5
  clear hL5 hb5 l0 l1 f0 f1
  go_wp2_with fail
  go_ret2
  have hfin := set_same HL5.out 7 (.int .u64 (sum7 x z : Nat))
  have h1 := HB.out.size
  refine ⟨_, rfl, own_new (q := w1.heap.size) hfin h1 rfl (by unfold maxLen; omega), ?_⟩
  have u1 : Below w.heap.size w w3 := bl_then HB.out HB3.out
  have u2 := bl_set (o := 1) (bl_set (o := 0) u1 h1 (.int .u64 x)) h1 (.int .u64 z)
  exact bl_set (o := 7) (bl_then u2 HB5.out) h1 _

end Go.Proofs.YtichcdoijieddaaGreat.In
end
