/- Parts of the proof, one behind the other: Rh, Wp, Vh, Ma, Lx, Lv, Ly, Lp, Lw, Lq, Lr, Ri, Ls, Vt. -/
import Derived.Test.YtgnagbbdnlmgeaaGreatC14
import Derived.Test.YtgnagbbdnlmgeaaGreatC07
import Derived.Test.YtgnagbbdnlmgeaaGreatC11
import Derived.Test.YtgnagbbdnlmgeaaGreatC02
import Derived.Test.YtgnagbbdnlmgeaaGreatC06
import Derived.Test.YtgnagbbdnlmgeaaGreatC08
import Derived.Test.YtgnagbbdnlmgeaaGreatC05
import Derived.Test.YtgnagbbdnlmgeaaGreatC09
import Derived.Test.YtgnagbbdnlmgeaaGreatC10
import Derived.Test.YtgnagbbdnlmgeaaGreatC12

/- One word put into a device that was made of words. -/
section
set_option linter.unusedVariables false
set_option linter.unusedSimpArgs false
namespace Go.Proofs.YtgnagbbdnlmgeaaGreat.Ra
open Go Go.RowKit
open Go.Proofs.YtgnagbbdnlmgeaaGreat.Ob Go.Proofs.YtgnagbbdnlmgeaaGreat.Ba Go.Proofs.YtgnagbbdnlmgeaaGreat.Oc Go.Proofs.YtgnagbbdnlmgeaaGreat.Pk Go.Proofs.YtgnagbbdnlmgeaaGreat.Rf Go.Proofs.YtgnagbbdnlmgeaaGreat.Dv Go.Proofs.YtgnagbbdnlmgeaaGreat.Vo

/-- the device behind one word stored and its line flushed -/
def one (L : List Int) (k : Nat) (x : Int) : Dev := ⟨2, 1, L, [((k : Int), ⟨[x], 1⟩)], none⟩
theorem put_one (L : List Int) (k : Nat) (x : Int) (hk : k < L.length) : putGo true [x] k ⟨Pm.devOf L, 0, []⟩ = (one L k x, some 1) := by
  have h1 : (Pm.devOf L).storeOk k = true := by simp [Dev.storeOk, Dev.inn, Dev.down, Pm.devOf, hk]
  have h2 : (Pm.devOf L).stored k x = ⟨1, 1, L, [((k : Int), ⟨[x], 0⟩)], none⟩ := by
    unfold Dev.stored
    rw [h1]
    simp [Dev.stepped, Pm.devOf, Dev.find]
  rw [putGo_store rfl h1, h2]
  have h3 : (⟨1, 1, L, [((k : Int), ⟨[x], 0⟩)], none⟩ : Dev).flushOk ((k / 8 : Nat) : Int) = true := by
    simp [Dev.flushOk, Dev.down]
    omega
  show flushGo (addLn [] (k / 8)) _ _ = _
  show (if Dev.flushOk _ ((k / 8 : Nat) : Int) then flushGo [] (Dev.flushed _ ((k / 8 : Nat) : Int)) _ else _) = _
  rw [if_pos h3]
  show ((Dev.flushed _ ((k / 8 : Nat) : Int)), some 1) = _
  unfold Dev.flushed
  rw [h3]
  simp [Dev.stepped, flushPen, one]
theorem one_load (L : List Int) (k : Nat) (x : Int) : (one L k x).load k = x := by
  simp [Dev.load, Dev.find, one]
theorem one_words (L : List Int) (k : Nat) (x : Int) (hk : k < L.length) : Pm.wordsOf (one L k x) = wput L k [x] := by
  rw [Pm.wordsOf_eq]
  show (List.range L.length).map _ = L.set k x
  apply List.ext_getElem?
  intro i
  by_cases hi : i < L.length
  · rw [List.getElem?_map, List.getElem?_range hi, List.getElem?_set]
    show some ((one L k x).load (i : Int)) = _
    by_cases e : k = i
    · subst e
      rw [one_load, if_pos rfl, if_pos hk]
    · rw [if_neg e]
      have hne : ¬ ((k : Int) = (i : Int)) := by omega
      simp [Dev.load, Dev.find, one, hne, Dev.lasting, Dev.inn, hi]
  · rw [List.getElem?_eq_none (by simp; omega), List.getElem?_eq_none (by simp; omega)]

end Go.Proofs.YtgnagbbdnlmgeaaGreat.Ra
end

/- Words put into a device: what it then holds, and how much was done (plain data). -/
section
set_option linter.unusedVariables false
set_option linter.unusedSimpArgs false
namespace Go.Proofs.YtgnagbbdnlmgeaaGreat.Wp
open Go Go.RowKit
open Go.Proofs.YtgnagbbdnlmgeaaGreat.Ob Go.Proofs.YtgnagbbdnlmgeaaGreat.Ba Go.Proofs.YtgnagbbdnlmgeaaGreat.Oc Go.Proofs.YtgnagbbdnlmgeaaGreat.Pk Go.Proofs.YtgnagbbdnlmgeaaGreat.Rf Go.Proofs.YtgnagbbdnlmgeaaGreat.Dv Go.Proofs.YtgnagbbdnlmgeaaGreat.Vo

theorem find_put (k x : Int) (l : List (Int × Pen)) (j : Int) : ((putPen k x l).find? fun y => decide (y.1 = j)) = (l.find? fun y => decide (y.1 = j)).map fun y => if y.1 = k then (y.1, ⟨y.2.l ++ [x], y.2.fl⟩) else y := by
  induction l with
  | nil => rfl
  | cons y l ih =>
    unfold putPen at ih ⊢
    rw [List.map_cons, List.find?_cons, List.find?_cons, ih]
    have e : (if y.1 = k then (y.1, (⟨y.2.l ++ [x], y.2.fl⟩ : Pen)) else y).1 = y.1 := by split <;> rfl
    rw [e]
    cases decide (y.1 = j) <;> rfl
theorem find_flush (ln : Int) (l : List (Int × Pen)) (j : Int) : ((l.map (flushPen ln)).find? fun y => decide (y.1 = j)) = (l.find? fun y => decide (y.1 = j)).map (flushPen ln) := by
  induction l with
  | nil => rfl
  | cons y l ih =>
    rw [List.map_cons, List.find?_cons, List.find?_cons, ih]
    have e : (flushPen ln y).1 = y.1 := by unfold flushPen; split <;> rfl
    rw [e]
    cases decide (y.1 = j) <;> rfl

theorem stored_load {d : Dev} {a : Int} {x : Int} (h : d.storeOk a = true) (j : Int) : (d.stored a x).load j = if j = a then x else d.load j := by
  have hopn : (d.stored a x).opn = if (d.find a).isSome then putPen a x d.opn else d.opn ++ [(a, ⟨[x], 0⟩)] := by unfold Dev.stored; rw [if_pos h]
  have hlas : ∀ j, (d.stored a x).lasting j = d.lasting j := by intro j; unfold Dev.stored Dev.lasting Dev.inn; rw [if_pos h]; rfl
  unfold Dev.load
  rw [hlas]
  by_cases hf : (d.find a).isSome
  · rw [if_pos hf] at hopn
    have hfj : (d.stored a x).find j = (d.opn.find? fun y => decide (y.1 = j)).map fun y => (if y.1 = a then (y.1, (⟨y.2.l ++ [x], y.2.fl⟩ : Pen)) else y).2 := by
      unfold Dev.find; rw [hopn, find_put, Option.map_map]; rfl
    rw [hfj]
    unfold Dev.find
    cases hq : d.opn.find? fun y => decide (y.1 = j) with
    | none =>
      by_cases hj : j = a
      · subst hj
        unfold Dev.find at hf
        rw [hq] at hf
        cases hf
      · rw [if_neg hj]; rfl
    | some y =>
      have hy : y.1 = j := by simpa using List.find?_some hq
      by_cases hj : j = a
      · rw [if_pos hj]
        simp [hy, hj]
      · rw [if_neg hj]
        simp [hy, hj]
  · rw [if_neg hf] at hopn
    have hfj : (d.stored a x).find j = ((d.opn.find? fun y => decide (y.1 = j)).or (if a = j then some (a, ⟨[x], 0⟩) else none)).map (·.2) := by
      unfold Dev.find; rw [hopn, List.find?_append]
      by_cases hj : a = j <;> simp [hj]
    rw [hfj]
    by_cases hj : j = a
    · subst hj
      have : d.opn.find? (fun y => decide (y.1 = j)) = none := by
        unfold Dev.find at hf
        cases hq : d.opn.find? fun y => decide (y.1 = j) with
        | none => rfl
        | some y => rw [hq] at hf; exact absurd rfl hf
      rw [this]
      simp
    · rw [if_neg hj, if_neg (fun e => hj e.symm)]
      unfold Dev.find
      cases d.opn.find? fun y => decide (y.1 = j) <;> rfl
theorem flushed_load (d : Dev) (ln j : Int) : (d.flushed ln).load j = d.load j := by
  unfold Dev.flushed
  split
  · unfold Dev.load Dev.find Dev.lasting Dev.inn
    show (match ((d.opn.map (flushPen ln)).find? fun y => decide (y.1 = j)).map (·.2) with | some p => _ | none => _) = _
    rw [find_flush, Option.map_map]
    cases d.opn.find? fun y => decide (y.1 = j) with
    | none => rfl
    | some y =>
      show (flushPen ln y).2.l.getD ((flushPen ln y).2.l.length - 1) 0 = y.2.l.getD (y.2.l.length - 1) 0
      have e : (flushPen ln y).2.l = y.2.l := by unfold flushPen; split <;> rfl
      rw [e]
  · rfl
theorem flushed_words (d : Dev) (ln : Int) : Pm.wordsOf (d.flushed ln) = Pm.wordsOf d := by
  rw [Pm.wordsOf_eq, Pm.wordsOf_eq]
  have e : (d.flushed ln).las = d.las := by unfold Dev.flushed; split <;> rfl
  rw [e]
  congr 1
  funext i
  exact flushed_load d ln i
theorem ok_store {d : Dev} (hf : d.fuse = none) {a : Nat} (ha : a < d.las.length) : d.storeOk a = true := by
  have h2 : d.down = false := by unfold Dev.down; rw [hf]; rfl
  unfold Dev.storeOk Dev.inn
  rw [h2]
  simp [ha]
theorem ok_flush {d : Dev} (hf : d.fuse = none) {a : Nat} (ha : 8 * a < d.las.length) : d.flushOk a = true := by
  have h2 : d.down = false := by unfold Dev.down; rw [hf]; rfl
  unfold Dev.flushOk
  rw [h2]
  simp
  omega
theorem stored_words {d : Dev} (hf : d.fuse = none) {a : Nat} (ha : a < d.las.length) (x : Int) : Pm.wordsOf (d.stored a x) = (Pm.wordsOf d).set a x := by
  have hok := ok_store hf ha
  rw [Pm.wordsOf_eq, Pm.wordsOf_eq]
  have e : (d.stored a x).las = d.las := by unfold Dev.stored; rw [if_pos hok]; rfl
  rw [e]
  apply List.ext_getElem?
  intro i
  rw [List.getElem?_set, List.getElem?_map, List.getElem?_map]
  by_cases hi : i < d.las.length
  · rw [List.getElem?_range hi]
    show some ((d.stored a x).load (i : Int)) = _
    rw [stored_load hok]
    by_cases hj : a = i
    · rw [if_pos (by rw [hj]), if_pos hj]
      simp [ha]
    · rw [if_neg (by omega), if_neg hj]; rfl
  · rw [List.getElem?_eq_none (by simp; omega)]
    by_cases hj : a = i
    · omega
    · rw [if_neg hj]; rfl

/-- what stands behind writes: words, how many more were stored, how many lines were flushed -/
structure Pt (d0 d : Dev) (L : List Int) (c q : Nat) : Prop where
  las : d.las = d0.las
  fuse : d.fuse = none
  words : Pm.wordsOf d = L
  stores : d.stores = d0.stores + c
  steps : d.steps = d0.steps + c + q
theorem Pt.stored {d0 d : Dev} {L : List Int} {c q : Nat} (h : Pt d0 d L c q) {a : Nat} (ha : a < d0.las.length) (x : Int) : Pt d0 (d.stored a x) (L.set a x) (c + 1) q := by
  have ha' : a < d.las.length := by rw [h.las]; exact ha
  have hok := ok_store h.fuse ha'
  refine ⟨?_, ?_, by rw [stored_words h.fuse ha', h.words], ?_, ?_⟩ <;> (unfold Dev.stored; rw [if_pos hok])
  · exact h.las
  · show d.fuse.map _ = none
    rw [h.fuse]; rfl
  · show d.stores + 1 = _
    rw [h.stores]; omega
  · show d.steps + 1 = _
    rw [h.steps]; omega
theorem Pt.flushed {d0 d : Dev} {L : List Int} {c q : Nat} (h : Pt d0 d L c q) {a : Nat} (ha : 8 * a < d0.las.length) : Pt d0 (d.flushed a) L c (q + 1) := by
  have hok := ok_flush h.fuse (a := a) (by rw [h.las]; exact ha)
  refine ⟨?_, ?_, by rw [flushed_words, h.words], ?_, ?_⟩ <;> (unfold Dev.flushed; rw [if_pos hok])
  · exact h.las
  · show d.fuse.map _ = none
    rw [h.fuse]; rfl
  · show d.stores + 0 = _
    rw [h.stores]; omega
  · show d.steps + 1 = _
    rw [h.steps]; omega
theorem flush_all {d0 : Dev} {L : List Int} {c : Nat} : ∀ (ls : List Nat) (d : Dev) (q k : Nat), Pt d0 d L c q → (∀ x ∈ ls, 8 * x < d0.las.length) → ∃ d', flushGo ls d k = (d', some k) ∧ Pt d0 d' L c (q + ls.length)
  | [], d, q, k, h, _ => ⟨d, rfl, h⟩
  | x :: r, d, q, k, h, hl => by
    have hx := hl x (List.mem_cons_self)
    have hok := ok_flush h.fuse (a := x) (by rw [h.las]; exact hx)
    obtain ⟨d', e, h'⟩ := flush_all r _ _ k (h.flushed hx) (fun y hy => hl y (List.mem_cons_of_mem _ hy))
    refine ⟨d', ?_, by rw [show q + (x :: r).length = q + 1 + r.length from by simp; omega]; exact h'⟩
    show (if d.flushOk x then _ else _) = _
    rw [if_pos hok, e]

/-- which words come to be, how many are stored, and in which lines -/
def pgo (all : Bool) : List Int → Nat → List Int × Nat × List Nat → List Int × Nat × List Nat
  | [], _, s => s
  | x :: r, a, s => if !all && decide (s.1.getD a 0 = x) then pgo all r (a + 1) s else pgo all r (a + 1) (s.1.set a x, s.2.1 + 1, addLn s.2.2 (a / 8))

theorem addLn_mem {ls : List Nat} {k x : Nat} (h : x ∈ addLn ls k) : x ∈ ls ∨ x = k := by
  unfold addLn at h
  split at h
  · exact .inl h
  · simpa using h
theorem words_load {d : Dev} {a : Nat} (ha : a < d.las.length) : (Pm.wordsOf d).getD a 0 = d.load a := by
  rw [List.getD_eq_getElem?_getD, Pm.wordsOf_get d a ha]; rfl

theorem put_gen (d0 : Dev) (all : Bool) : ∀ (xs : List Int) (a : Nat) (d : Dev) (L : List Int) (c : Nat) (ls : List Nat), Pt d0 d L c 0 → a + xs.length ≤ d0.las.length → (∀ x ∈ ls, 8 * x < d0.las.length) →
    ∃ d', putGo all xs a ⟨d, c, ls⟩ = (d', some (pgo all xs a (L, c, ls)).2.1) ∧ Pt d0 d' (pgo all xs a (L, c, ls)).1 (pgo all xs a (L, c, ls)).2.1 (pgo all xs a (L, c, ls)).2.2.length
  | [], a, d, L, c, ls, h, ha, hl => by
    obtain ⟨d', e, h'⟩ := flush_all ls d 0 c h hl
    exact ⟨d', e, by rw [Nat.zero_add] at h'; exact h'⟩
  | x :: r, a, d, L, c, ls, h, ha, hl => by
    have ha1 : a < d0.las.length := by simp at ha; omega
    have hload : L.getD a 0 = d.load a := by rw [← h.words]; exact words_load (by rw [h.las]; exact ha1)
    have hk : keepW all d a x = (!all && decide (L.getD a 0 = x)) := by unfold keepW; rw [hload]
    by_cases hb : (!all && decide (L.getD a 0 = x)) = true
    · rw [putGo_keep (hk.trans hb)]
      have e : pgo all (x :: r) a (L, c, ls) = pgo all r (a + 1) (L, c, ls) := by
        show (if (!all && decide (L.getD a 0 = x)) = true then _ else _) = _
        rw [if_pos hb]
      rw [e]
      exact put_gen d0 all r (a + 1) d L c ls h (by simp at ha; omega) hl
    · have hb' : (!all && decide (L.getD a 0 = x)) = false := by simpa using hb
      rw [putGo_store (hk.trans hb') (ok_store h.fuse (by rw [h.las]; exact ha1))]
      have e : pgo all (x :: r) a (L, c, ls) = pgo all r (a + 1) (L.set a x, c + 1, addLn ls (a / 8)) := by
        show (if (!all && decide (L.getD a 0 = x)) = true then _ else _) = _
        rw [if_neg hb]
      rw [e]
      refine put_gen d0 all r (a + 1) _ _ _ _ (h.stored ha1 x) (by simp at ha; omega) (fun y hy => ?_)
      rcases addLn_mem hy with h1 | h1
      · exact hl y h1
      · omega

/-- all of them: line by line -/
def lnsG (k : Nat) : Nat → List Nat
  | 0 => []
  | i + 1 => addLn (lnsG k i) ((k + i) / 8)
theorem lnsG_last (k i : Nat) : (lnsG k (i + 1)).getLast? = some ((k + i) / 8) := by
  show (addLn (lnsG k i) ((k + i) / 8)).getLast? = _
  unfold addLn
  split
  · assumption
  · simp
theorem lnsG_len (k : Nat) : ∀ i, (lnsG k i).length = nline k i
  | 0 => rfl
  | i + 1 => by
    show (addLn (lnsG k i) ((k + i) / 8)).length = nline k i + _
    rw [← lnsG_len k i]
    cases i with
    | zero => rfl
    | succ i =>
      unfold addLn
      rw [lnsG_last]
      by_cases h : (k + (i + 1)) % 8 = 0
      · rw [if_neg (by rw [Option.some.injEq]; omega), if_pos (.inr h)]; simp
      · rw [if_pos (by rw [Option.some.injEq]; omega), if_neg (by omega)]; rfl
theorem pgo_all (k : Nat) (L : List Int) : ∀ (xs : List Int) (i : Nat) (M : List Int), pgo true xs (k + i) (M, i, lnsG k i) = (wput M (k + i) xs, i + xs.length, lnsG k (i + xs.length))
  | [], i, M => rfl
  | x :: r, i, M => by
    show pgo true r (k + i + 1) (M.set (k + i) x, i + 1, lnsG k (i + 1)) = _
    have := pgo_all k L r (i + 1) (M.set (k + i) x)
    rw [show k + i + 1 = k + (i + 1) from rfl, this]
    rw [show i + (x :: r).length = i + 1 + r.length from by simp; omega]
    rfl

theorem put_many (d : Dev) (hf : d.fuse = none) (xs : List Int) (k : Nat) (hk : k + xs.length ≤ d.las.length) :
    ∃ d', putGo true xs k ⟨d, 0, []⟩ = (d', some xs.length) ∧ Pt d d' (wput (Pm.wordsOf d) k xs) xs.length (nline k xs.length) := by
  obtain ⟨d', e, h⟩ := put_gen d true xs k d (Pm.wordsOf d) 0 [] ⟨rfl, hf, rfl, rfl, rfl⟩ hk (by simp)
  have hp := pgo_all k (Pm.wordsOf d) xs 0 (Pm.wordsOf d)
  rw [Nat.zero_add, Nat.add_zero] at hp
  rw [show (Pm.wordsOf d, 0, ([] : List Nat)) = (Pm.wordsOf d, 0, lnsG k 0) from rfl, hp] at e h
  exact ⟨d', e, by rw [lnsG_len] at h; exact h⟩

end Go.Proofs.YtgnagbbdnlmgeaaGreat.Wp
end

/- Words and bytes there and back; words put and read again (plain). -/
section
set_option linter.unusedVariables false
set_option linter.unusedSimpArgs false
namespace Go.Proofs.YtgnagbbdnlmgeaaGreat.Vh
open Go Go.RowKit
open Go.Proofs.YtgnagbbdnlmgeaaGreat.Ob Go.Proofs.YtgnagbbdnlmgeaaGreat.Ba Go.Proofs.YtgnagbbdnlmgeaaGreat.Oc Go.Proofs.YtgnagbbdnlmgeaaGreat.Pk Go.Proofs.YtgnagbbdnlmgeaaGreat.Rf Go.Proofs.YtgnagbbdnlmgeaaGreat.Dv Go.Proofs.YtgnagbbdnlmgeaaGreat.Vo Go.Proofs.YtgnagbbdnlmgeaaGreat.Cc

theorem octs_get (l : List Nat) (q r x : Nat) (hr : r < 8) (hx : l[q]? = some x) : (octs l)[8 * q + r]? = some (x / 256 ^ r % 256) := by
  induction l generalizing q with
  | nil => simp at hx
  | cons a l ih =>
    have e : octs (a :: l) = oct a ++ octs l := rfl
    rw [e]
    cases q with
    | zero =>
      simp at hx
      subst hx
      rw [List.getElem?_append_left (by simp [oct]; omega)]
      simp [oct, hr]
    | succ q =>
      rw [List.getElem?_cons_succ] at hx
      rw [List.getElem?_append_right (by simp [oct]; omega)]
      have := ih q hx
      rw [show 8 * (q + 1) + r - (oct a).length = 8 * q + r from by simp [oct]; omega]
      exact this
theorem digit (b : List Nat) (h : ∀ x ∈ b, x < 256) (q r : Nat) (hr : r < 8) : wd8 b q / 256 ^ r % 256 = by_ b q r := by
  have h0 := by_lt h q 0
  have h1 := by_lt h q 1
  have h2 := by_lt h q 2
  have h3 := by_lt h q 3
  have h4 := by_lt h q 4
  have h5 := by_lt h q 5
  have h6 := by_lt h q 6
  have h7 := by_lt h q 7
  unfold wd8
  match r, hr with
  | 0, _ => omega
  | 1, _ => rw [show (256 : Nat) ^ 1 = 256 from rfl]; omega
  | 2, _ => rw [show (256 : Nat) ^ 2 = 65536 from rfl]; omega
  | 3, _ => rw [show (256 : Nat) ^ 3 = 16777216 from rfl]; omega
  | 4, _ => rw [show (256 : Nat) ^ 4 = 4294967296 from rfl]; omega
  | 5, _ => rw [show (256 : Nat) ^ 5 = 1099511627776 from rfl]; omega
  | 6, _ => rw [show (256 : Nat) ^ 6 = 281474976710656 from rfl]; omega
  | 7, _ => rw [show (256 : Nat) ^ 7 = 72057594037927936 from rfl]; omega
theorem octs_wds (b : List Nat) (h : ∀ x ∈ b, x < 256) (h8 : b.length % 8 = 0) : octs (wds b) = b := by
  apply List.ext_getElem?
  intro i
  by_cases hi : i < b.length
  · obtain ⟨q, r, hqr, hr⟩ : ∃ q r, i = 8 * q + r ∧ r < 8 := ⟨i / 8, i % 8, by omega, by omega⟩
    subst hqr
    rw [octs_get (wds b) q r (wd8 b q) hr (by rw [wds_get, if_pos (by omega)]), digit b h q r hr]
    unfold by_
    rw [List.getD_eq_getElem?_getD, List.getElem?_eq_getElem hi]
    rfl
  · rw [List.getElem?_eq_none (by rw [octs_length, wds_len]; omega), List.getElem?_eq_none (by omega)]
theorem wds_lt {b : List Nat} (h : ∀ x ∈ b, x < 256) : ∀ x ∈ wds b, x < 18446744073709551616 := by
  intro x hx
  simp only [wds, List.mem_map] at hx
  obtain ⟨i, _, rfl⟩ := hx
  exact wd8_lt h i

theorem wput_get (L : List Int) (k : Nat) (xs : List Int) (hk : k + xs.length ≤ L.length) (j : Nat) : (wput L k xs)[j]? = if k ≤ j ∧ j < k + xs.length then xs[j - k]? else L[j]? := by
  induction xs generalizing L k with
  | nil => rw [if_neg (by simp only [List.length_nil]; omega)]; rfl
  | cons x r ih =>
    show (wput (L.set k x) (k + 1) r)[j]? = _
    rw [ih (L.set k x) (k + 1) (by simp at hk ⊢; omega)]
    by_cases h1 : k + 1 ≤ j ∧ j < k + 1 + r.length
    · rw [if_pos h1, if_pos (by simp; omega)]
      rw [show j - k = (j - (k + 1)) + 1 from by omega, List.getElem?_cons_succ]
    · rw [if_neg h1]
      by_cases h2 : j = k
      · subst h2
        rw [if_pos (by simp), Nat.sub_self, List.getElem?_set_self (by simp at hk; omega)]
        rfl
      · rw [if_neg (by simp; omega), List.getElem?_set_ne (by omega)]
theorem lds_wput {d : Dev} {L : List Int} {k : Nat} {xs : List Int} (hw : Pm.wordsOf d = wput L k xs) (hk : k + xs.length ≤ L.length) : lds d k xs.length = xs := by
  have hlen : d.las.length = L.length := by
    have := congrArg List.length hw
    rw [Pm.wordsOf_length, wput_length] at this
    exact this
  apply List.ext_getElem?
  intro i
  by_cases hi : i < xs.length
  · unfold lds
    rw [List.getElem?_map, List.getElem?_range hi]
    have h1 := Pm.wordsOf_get d (k + i) (by omega)
    rw [hw, wput_get L k xs hk, if_pos (by omega), show k + i - k = i from by omega] at h1
    rw [h1]
    rfl
  · rw [List.getElem?_eq_none (by rw [lds_length]; omega), List.getElem?_eq_none (by omega)]

end Go.Proofs.YtgnagbbdnlmgeaaGreat.Vh
end

/- Bitmaps in one word; a fence keeps what is seen; words cleared (plain). -/
section
set_option linter.unusedVariables false
set_option linter.unusedSimpArgs false
namespace Go.Proofs.YtgnagbbdnlmgeaaGreat.Ma
open Go Go.RowKit
open Go.Proofs.YtgnagbbdnlmgeaaGreat.Ob Go.Proofs.YtgnagbbdnlmgeaaGreat.Ba Go.Proofs.YtgnagbbdnlmgeaaGreat.Oc Go.Proofs.YtgnagbbdnlmgeaaGreat.Pk Go.Proofs.YtgnagbbdnlmgeaaGreat.Rf Go.Proofs.YtgnagbbdnlmgeaaGreat.Dv Go.Proofs.YtgnagbbdnlmgeaaGreat.Vo Go.Proofs.YtgnagbbdnlmgeaaGreat.Bm Go.Proofs.YtgnagbbdnlmgeaaGreat.R0 Go.Proofs.YtgnagbbdnlmgeaaGreat.Wp

def bitsOf (n x : Nat) : List Bool := (List.range n).map fun b => x.testBit b
theorem bitsOf_len (n x : Nat) : (bitsOf n x).length = n := by simp [bitsOf]
theorem bwr_bits (n x : Nat) : bwr (bitsOf n x) = x % 2 ^ n := by
  induction n with
  | zero => simp [bitsOf, bwr, Nat.mod_one]
  | succ n ih =>
    have e : bitsOf (n + 1) x = bitsOf n x ++ [x.testBit n] := by simp [bitsOf, List.range_succ]
    rw [e, bwr_snoc, ih, bitsOf_len, Nat.mod_pow_succ, Nat.testBit_eq_decide_div_mod_eq]
    by_cases hb : x / 2 ^ n % 2 = 1
    · rw [hb]; simp
    · have : x / 2 ^ n % 2 = 0 := by omega
      rw [this]; simp
theorem turn_bits (n x : Nat) (h1 : 1 ≤ n) (h2 : n ≤ 63) (hx : x < 2 ^ n) (k : Nat) (i : Int) : ∃ y k', turnF n false ([x], k) i = ([y], k') ∧ y < 2 ^ n ∧ btn (bitsOf n x) i = bitsOf n y := by
  unfold turnF btn
  rw [bitsOf_len]
  by_cases hi : 0 ≤ i ∧ i < n
  · obtain ⟨j, rfl⟩ : ∃ j : Nat, i = j := ⟨i.toNat, by omega⟩
    have hj : j < n := by omega
    have hg : bget [x] j = x.testBit j := by
      unfold bget
      rw [show j / 64 = 0 from by omega, show j % 64 = j from by omega]
      rfl
    rw [if_pos hi]
    show ∃ y k', (if _ ∧ _ ∧ bget [x] j = false then _ else _) = _ ∧ _ ∧ (bitsOf n x).set j true = _
    rw [hg]
    by_cases hb : x.testBit j = false
    · rw [if_pos ⟨hi.1, hi.2, hb⟩]
      refine ⟨x ^^^ 2 ^ j, k + 1, ?_, Nat.xor_lt_two_pow hx (Nat.pow_lt_pow_right (by decide) hj), ?_⟩
      · show (bturn [x] j, _) = _
        unfold bturn
        rw [show j / 64 = 0 from by omega, show j % 64 = j from by omega]
        rfl
      · apply List.ext_getElem?
        intro a
        rw [List.getElem?_set]
        unfold bitsOf
        rw [List.getElem?_map, List.getElem?_map]
        by_cases ha : a < n
        · rw [List.getElem?_range ha]
          by_cases hja : j = a
          · subst hja
            rw [if_pos rfl, if_pos (by simp; exact hj)]
            simp [Nat.testBit_xor, hb, Nat.testBit_two_pow_self]
          · rw [if_neg hja]
            simp [Nat.testBit_xor, Nat.testBit_two_pow_of_ne hja]
        · rw [List.getElem?_eq_none (by simp; omega), if_neg (by omega)]
          rfl
    · rw [if_neg (fun h => hb h.2.2)]
      refine ⟨x, k, rfl, hx, ?_⟩
      have hb' : x.testBit j = true := by simpa using hb
      apply List.ext_getElem?
      intro a
      rw [List.getElem?_set]
      by_cases hja : j = a
      · subst hja
        rw [if_pos rfl, if_pos (by rw [bitsOf_len]; exact hj)]
        unfold bitsOf
        rw [List.getElem?_map, List.getElem?_range hj]
        simp [hb']
      · rw [if_neg hja]
  · rw [if_neg hi, if_neg (fun h => hi ⟨h.1, h.2.1⟩)]
    exact ⟨x, k, rfl, hx, rfl⟩
theorem fold_bits (n : Nat) (h1 : 1 ≤ n) (h2 : n ≤ 63) : ∀ (us : List Int) (x k : Nat), x < 2 ^ n → ∃ y k', us.foldl (turnF n false) ([x], k) = ([y], k') ∧ y < 2 ^ n ∧ us.foldl btn (bitsOf n x) = bitsOf n y
  | [], x, k, hx => ⟨x, k, rfl, hx, rfl⟩
  | u :: r, x, k, hx => by
    obtain ⟨y, k', e1, hy, e2⟩ := turn_bits n x h1 h2 hx k u
    obtain ⟨z, k2, e3, hz, e4⟩ := fold_bits n h1 h2 r y k' hy
    exact ⟨z, k2, by rw [List.foldl_cons, e1, e3], hz, by rw [List.foldl_cons, e2, e4]⟩
theorem bits_zero (n : Nat) : bitsOf n 0 = List.replicate n false := by
  apply List.ext_getElem?
  intro a
  unfold bitsOf
  by_cases ha : a < n
  · rw [List.getElem?_map, List.getElem?_range ha, List.getElem?_replicate, if_pos ha]
    simp
  · rw [List.getElem?_eq_none (by simp; omega), List.getElem?_eq_none (by simp; omega)]
theorem btn_fold_len (us : List Int) (l : List Bool) : (us.foldl btn l).length = l.length := by
  induction us generalizing l with
  | nil => rfl
  | cons u r ih => rw [List.foldl_cons, ih, btn_len]

/-- a fence keeps what is seen -/
theorem fence_find (k : Int) : ∀ (l : List (Int × Pen)), (l.map (·.1)).Nodup → ((l.filterMap fencePen).find? fun y => decide (y.1 = k)) = (l.find? fun y => decide (y.1 = k)).bind fencePen
  | [], _ => rfl
  | a :: l, hn => by
    rw [List.map_cons, List.nodup_cons] at hn
    have ih := fence_find k l hn.2
    have hfk : ∀ z, fencePen a = some z → z.1 = a.1 := by
      intro z hz
      unfold fencePen at hz
      split at hz
      · cases hz; rfl
      · split at hz
        · cases hz
        · cases hz; rfl
    by_cases hk : a.1 = k
    · rw [List.find?_cons_of_pos (by simp [hk])]
      cases hf : fencePen a with
      | none =>
        rw [List.filterMap_cons_none hf, ih]
        have hno : l.find? (fun y => decide (y.1 = k)) = none := by
          rw [List.find?_eq_none]
          intro z hz
          simp only [decide_eq_true_eq]
          intro e
          exact hn.1 (by rw [hk, ← e]; exact List.mem_map_of_mem hz)
        rw [hno]
        simp [hf]
      | some z =>
        rw [List.filterMap_cons_some hf, List.find?_cons_of_pos (by simp [hfk z hf, hk])]
        simp [hf]
    · rw [List.find?_cons_of_neg (by simp [hk])]
      cases hf : fencePen a with
      | none => rw [List.filterMap_cons_none hf, ih]
      | some z => rw [List.filterMap_cons_some hf, List.find?_cons_of_neg (by simp [hfk z hf, hk]), ih]

theorem fenced_words {d : Dev} (hw : d.Wf) (hf : d.fuse = none) : Pm.wordsOf d.fenced = Pm.wordsOf d ∧ d.fenced.fuse = none ∧ d.fenced.las.length = d.las.length ∧ d.fenced.steps = d.steps + 1 := by
  have hd : d.down = false := by unfold Dev.down; rw [hf]; rfl
  have e : d.fenced = { d.stepped false with opn := d.opn.filterMap fencePen, las := d.las.mapIdx (fenceWord d.opn) } := by unfold Dev.fenced; rw [hd]; rfl
  refine ⟨?_, by rw [e]; show d.fuse.map _ = none; rw [hf]; rfl, by rw [e]; simp, by rw [e]; rfl⟩
  rw [Pm.wordsOf_eq, Pm.wordsOf_eq, e]
  simp only [List.length_mapIdx]
  apply List.map_congr_left
  intro i hi
  rw [List.mem_range] at hi
  unfold Dev.load Dev.find Dev.lasting Dev.inn
  simp only [List.length_mapIdx]
  rw [fence_find _ _ hw.keys]
  have hin : (decide (0 ≤ (i : Int)) && decide ((i : Int) < d.las.length)) = true := by simp [hi]
  rw [hin]
  simp only [if_true, Int.toNat_natCast]
  have hlas : (d.las.mapIdx (fenceWord d.opn)).getD i 0 = fenceWord d.opn i (d.las.getD i 0) := by
    rw [List.getD_eq_getElem?_getD, List.getElem?_mapIdx, List.getD_eq_getElem?_getD, List.getElem?_eq_getElem hi]
    rfl
  rw [hlas]
  unfold fenceWord
  cases hq : d.opn.find? fun y => decide (y.1 = (i : Int)) with
  | none => rfl
  | some y =>
    have hm := List.mem_of_find?_eq_some hq
    have hfl := hw.fl y hm
    have hne := hw.ne y hm
    have hlen : 0 < y.2.l.length := List.length_pos_iff.2 hne
    show (match ((some y).bind fencePen).map (·.2) with | some p => _ | none => _) = _
    simp only [Option.bind_some, Option.map_some]
    unfold fencePen
    by_cases h0 : y.2.fl = 0
    · rw [if_pos h0]
      rfl
    · rw [if_neg h0]
      by_cases h1 : y.2.l.length ≤ y.2.fl
      · rw [if_pos h1]
        show (if y.2.fl = 0 then _ else _) = _
        rw [if_neg h0, show y.2.fl = y.2.l.length from by omega]
      · rw [if_neg h1]
        show (y.2.l.drop y.2.fl).getD _ 0 = _
        rw [List.getD_eq_getElem?_getD, List.getD_eq_getElem?_getD, List.length_drop, List.getElem?_drop]
        rw [show y.2.fl + (y.2.l.length - y.2.fl - 1) = y.2.l.length - 1 from by omega]

/-- words cleared: how many -/
theorem pgo_clear : ∀ (m : Nat) (a : Nat) (L : List Int) (c : Nat) (ls : List Nat), a + m ≤ L.length →
    (pgo false (List.replicate m 0) a (L, c, ls)).1 = wput L a (List.replicate m 0) ∧ (pgo false (List.replicate m 0) a (L, c, ls)).2.1 = c + (((L.drop a).take m).filter fun x => decide (x ≠ 0)).length
  | 0, a, L, c, ls, _ => by constructor <;> simp [pgo, wput]
  | m + 1, a, L, c, ls, h => by
    have ha : a < L.length := by omega
    obtain ⟨x, hx⟩ := some_at ha
    have hgd : L.getD a 0 = x := by rw [List.getD_eq_getElem?_getD, hx]; rfl
    have hdr : L.drop a = x :: L.drop (a + 1) := drop_next hx
    rw [List.replicate_succ]
    by_cases hz : x = 0
    · have e : pgo false (0 :: List.replicate m 0) a (L, c, ls) = pgo false (List.replicate m 0) (a + 1) (L, c, ls) := by
        show (if (!false && decide (L.getD a 0 = 0)) = true then _ else _) = _
        rw [hgd, if_pos (by simp [hz])]
      obtain ⟨q1, q2⟩ := pgo_clear m (a + 1) L c ls (by omega)
      rw [e, q1, q2, hdr]
      have hs : L.set a 0 = L := by
        subst hz
        apply List.ext_getElem?
        intro i
        rw [List.getElem?_set]
        by_cases h2 : a = i
        · subst h2; rw [if_pos rfl, if_pos ha, hx]
        · rw [if_neg h2]
      refine ⟨?_, ?_⟩
      · show _ = wput (L.set a 0) (a + 1) (List.replicate m 0)
        rw [hs]
      · simp [hz]
    · have e : pgo false (0 :: List.replicate m 0) a (L, c, ls) = pgo false (List.replicate m 0) (a + 1) (L.set a 0, c + 1, addLn ls (a / 8)) := by
        show (if (!false && decide (L.getD a 0 = 0)) = true then _ else _) = _
        rw [hgd, if_neg (by simp [hz])]
      obtain ⟨q1, q2⟩ := pgo_clear m (a + 1) (L.set a 0) (c + 1) (addLn ls (a / 8)) (by rw [List.length_set]; omega)
      rw [e, q1, q2, hdr]
      refine ⟨rfl, ?_⟩
      rw [List.drop_set_of_lt (by omega)]
      simp [hz]
      omega

end Go.Proofs.YtgnagbbdnlmgeaaGreat.Ma
end

/- The fourth chapter's example. -/
section
set_option linter.unusedVariables false
set_option linter.unusedSimpArgs false
set_option maxHeartbeats 2000000
set_option maxRecDepth 100000
namespace Go.Proofs.YtgnagbbdnlmgeaaGreat.Li
open Go Go.RowKit
open Go.Proofs.YtgnagbbdnlmgeaaGreat.Ob Go.Proofs.YtgnagbbdnlmgeaaGreat.Ba Go.Proofs.YtgnagbbdnlmgeaaGreat.Ge Go.Proofs.YtgnagbbdnlmgeaaGreat.Ko

theorem lives04 (w : World) : Calls Tryz.prog 129 #[] w fun e w' => e = .returned (.bool true) ∧ Below w.heap.size w w' := by
  have hu := Tryz.underlying34
  have hok : geoOk 10 3 64 = true := by decide
  have H1 : Hid (∀ w, Calls Tryz.prog 88 #[.agg #[.int .i64 10, .int .i64 3, .int .i64 64]] w fun e w' => e = .returned (.tuple #[.int .i64 56, .int .i64 1]) ∧ Below w.heap.size w w') := fun w => bmap_ 10 3 64 hok w
  have H2 : Hid (∀ w, Calls Tryz.prog 76 #[.agg #[.int .i64 10, .int .i64 3, .int .i64 64], .int .i64 2] w fun e w' => e = .returned (.int .i64 32) ∧ Below w.heap.size w w') := fun w => inode_ 10 3 64 2 hok w
  have H3 : Hid (∀ w, Calls Tryz.prog 80 #[.agg #[.int .i64 10, .int .i64 3, .int .i64 64], .int .i64 0] w fun e w' => e = .returned (.int .i64 40) ∧ Below w.heap.size w w') := fun w => slot_ 10 3 64 0 hok w
  have H4 : Hid (∀ w, Calls Tryz.prog 84 #[.agg #[.int .i64 10, .int .i64 3, .int .i64 64], .int .i64 0] w fun e w' => e = .returned (.int .i64 64) ∧ Below w.heap.size w w') := fun w => block_ 10 3 64 0 hok w
  have H5 : Hid (∀ w, Calls Tryz.prog 167 #[.agg #[.int .i64 10, .int .i64 3, .int .i64 64]] w fun e w' => e = .returned (.int .i64 144) ∧ Below w.heap.size w w') := fun w => words_ 10 3 64 hok w
  clear hok
  go_enter Tryz.func129, Tryz.ntmps129
  go_wp2_with (first | (go_at_call 88; refine (H1.out _).mono ?_; rintro e w1 ⟨rfl, hb1⟩; (have hq := blk_bl (alloc_new w (.cells #[.int .i64 10, .int .i64 3, .int .i64 64] 34)) hb1); (have k10 : w1.cell? ⟨w.heap.size, 0, none⟩ = some (.int .i64 10) := cell_of hq 0); (have k11 : w1.cell? ⟨w.heap.size, 1, none⟩ = some (.int .i64 3) := cell_of hq 1); (have k12 : w1.cell? ⟨w.heap.size, 2, none⟩ = some (.int .i64 64) := cell_of hq 2); (have HB1 : Hid (Bx w w1) := ⟨bl_then (bl_alloc (Below.refl _ _) _) hb1, lt_of hq⟩); clear hb1 hq) |
    (go_at_call 76; refine (H2.out _).mono ?_; rintro e w2 ⟨rfl, hb2⟩; (obtain ⟨k20, k21, k22, hx2⟩ := bx_keep ⟨k10, k11, k12, HB1.out⟩ hb2); (have HB2 := Lib.hid hx2); clear hb2 hx2) |
    (go_at_call 80; refine (H3.out _).mono ?_; rintro e w3 ⟨rfl, hb3⟩; (obtain ⟨k30, k31, k32, hx3⟩ := bx_keep ⟨k20, k21, k22, HB2.out⟩ hb3); (have HB3 := Lib.hid hx3); clear hb3 hx3) |
    (go_at_call 84; refine (H4.out _).mono ?_; rintro e w4 ⟨rfl, hb4⟩; (obtain ⟨k40, k41, k42, hx4⟩ := bx_keep ⟨k30, k31, k32, HB3.out⟩ hb4); (have HB4 := Lib.hid hx4); clear hb4 hx4) |
    (go_at_call 167; refine (H5.out _).mono ?_; rintro e w5 ⟨rfl, hb5⟩; (obtain ⟨k50, k51, k52, hx5⟩ := bx_keep ⟨k40, k41, k42, HB4.out⟩ hb5); (have HB5 := Lib.hid hx5); clear hb5 hx5))
  go_ret
  exact ⟨rfl, HB5.out.below⟩

end Go.Proofs.YtgnagbbdnlmgeaaGreat.Li
end

/- The chapters' examples: cantlelaw02.Lives. -/
section
set_option linter.unusedVariables false
set_option linter.unusedSimpArgs false
set_option maxHeartbeats 2000000
set_option maxRecDepth 100000
namespace Go.Proofs.YtgnagbbdnlmgeaaGreat.Li
open Go Go.RowKit
open Go.Proofs.YtgnagbbdnlmgeaaGreat.Ob Go.Proofs.YtgnagbbdnlmgeaaGreat.Ba Go.Proofs.YtgnagbbdnlmgeaaGreat.Oc Go.Proofs.YtgnagbbdnlmgeaaGreat.Pk Go.Proofs.YtgnagbbdnlmgeaaGreat.Cr Go.Proofs.YtgnagbbdnlmgeaaGreat.C6 Go.Proofs.YtgnagbbdnlmgeaaGreat.Cc Go.Proofs.YtgnagbbdnlmgeaaGreat.Su

def nine : List Nat := [49, 50, 51, 52, 53, 54, 55, 56, 57]

theorem lives02 (w : World) : Calls Tryz.prog 127 #[] w fun e w' => e = .returned (.bool true) ∧ Below w.heap.size w w' := by
  have kc := Lib.run_convert_bytes_const (P := Tryz.prog) w 59 5 #[.int .u8 49, .int .u8 50, .int .u8 51, .int .u8 52, .int .u8 53, .int .u8 54, .int .u8 55, .int .u8 56, .int .u8 57] 9 9 Tryz.underlying59 Tryz.underlying5
  go_enter Tryz.func127, Tryz.ntmps127
  go_wp2_with fail
  have hrk : Rk .u8 (w.alloc (.cells #[.int .u8 49, .int .u8 50, .int .u8 51, .int .u8 52, .int .u8 53, .int .u8 54, .int .u8 55, .int .u8 56, .int .u8 57] 5 (9, 10))) (some ⟨w.heap.size, 0, none⟩) (ints nine) := by
    refine blk_rk (alloc_new w (.cells #[.int .u8 49, .int .u8 50, .int .u8 51, .int .u8 52, .int .u8 53, .int .u8 54, .int .u8 55, .int .u8 56, .int .u8 57] 5 (9, 10))) fun i x hx => ?_
    match i with
    | 0 | 1 | 2 | 3 | 4 | 5 | 6 | 7 | 8 => simpa [ints, nine] using hx
    | i + 9 => simp [ints, nine] at hx
  have hps : ∀ W, Below (w.alloc (.cells #[.int .u8 49, .int .u8 50, .int .u8 51, .int .u8 52, .int .u8 53, .int .u8 54, .int .u8 55, .int .u8 56, .int .u8 57] 5 (9, 10))).heap.size (w.alloc (.cells #[.int .u8 49, .int .u8 50, .int .u8 51, .int .u8 52, .int .u8 53, .int .u8 54, .int .u8 55, .int .u8 56, .int .u8 57] 5 (9, 10))) W → PsAt (W.alloc (.cells #[.slice (some ⟨w.heap.size, 0, none⟩) 9 9] 59)) (some ⟨W.heap.size, 0, none⟩) [⟨some ⟨w.heap.size, 0, none⟩, 9, nine⟩] := by
    intro W hb i p hp
    match i with
    | 0 =>
      simp at hp
      subst hp
      exact ⟨⟨hrk.below (bl_alloc hb _), (by decide : ∀ x ∈ nine, x < 256), by simp [nine]⟩, _, rfl, one_at _ _ _ 0 _ rfl⟩
    | i + 1 => simp at hp
  have h32 := sum32_ (hps _ (Below.refl _ _)) 1 (by simp)
  rw [show (4294967295 - (sumB 4294967295 (allOf [(⟨some ⟨w.heap.size, 0, none⟩, 9, nine⟩ : Part)]) : Nat) : Int) = 3421780262 from by
    rw [show allOf [(⟨some ⟨w.heap.size, 0, none⟩, 9, nine⟩ : Part)] = nine from by simp [allOf]]
    decide] at h32
  have h16 := sum16_ (hps _ (bl_alloc (Below.refl _ _) (.cells #[.slice (some ⟨w.heap.size, 0, none⟩) 9 9] 59))) 1 (by simp)
  rw [show (sum6 65535 (allOf [(⟨some ⟨w.heap.size, 0, none⟩, 9, nine⟩ : Part)])) = 10673 from by
    rw [show allOf [(⟨some ⟨w.heap.size, 0, none⟩, 9, nine⟩ : Part)] = nine from by simp [allOf]]
    decide] at h16
  simp only [World.size_alloc] at h32 h16
  have H16 := Lib.hid h16
  refine (show Calls _ _ #[.slice (some ⟨w.heap.size + 1, 0, none⟩) 1 1] _ _ from h32).mono ?_
  rintro e w1 ⟨rfl, rfl⟩
  clear h32 h16 hps hrk kc
  go_wp2_with fail
  refine (show Calls _ _ #[.slice (some ⟨w.heap.size + 1 + 1, 0, none⟩) 1 1] _ _ from H16.out).mono ?_
  rintro e w2 ⟨rfl, rfl⟩
  go_wp2_with fail
  go_ret
  exact ⟨rfl, bl_alloc (bl_alloc (bl_alloc (Below.refl _ _) _) _) _⟩

theorem lives03 (w : World) : Calls Tryz.prog 128 #[] w fun e w' => e = .returned (.bool true) ∧ Below w.heap.size w w' := by
  have hfs : FsAt (w.alloc (.cells #[.int .i64 4, .int .u64 5, .int .i64 8, .int .u64 7] 215)) (some ⟨w.heap.size, 0, none⟩) [(4, 5), (8, 7)] := by
    refine fields_at (T := 215) (fr := (0, 0)) (alloc_new _ _) ?_
    intro p hp
    simp only [List.mem_cons, List.not_mem_nil, or_false] at hp
    rcases hp with rfl | rfl
    · exact ⟨by decide, by decide, by decide⟩
    · exact ⟨by decide, by decide, by decide⟩
  have hpk := pack_ hfs 2 (by decide) (by decide)
  rw [show pv [(4, 5), (8, 7)] = 117 from by decide] at hpk
  have HPK := Lib.hid hpk
  clear hfs hpk
  go_enter Tryz.func128, Tryz.ntmps128
  go_wp2_with fail
  refine (show Calls _ _ #[.slice (some ⟨w.heap.size, 0, none⟩) 2 2] _ _ from HPK.out).mono ?_
  rintro e w1 ⟨rfl, hb1⟩
  have HB1 := Lib.hid (bl_then (bl_alloc (Below.refl _ _) _) hb1)
  clear hb1 HPK
  have hrk : Rk .i64 (w1.alloc (.cells #[.int .i64 4, .int .i64 8] 3)) (some ⟨w1.heap.size, 0, none⟩) (ints [4, 8]) := by
    refine blk_rk (alloc_new w1 (.cells #[.int .i64 4, .int .i64 8] 3)) fun i x hx => ?_
    match i with
    | 0 | 1 => simpa [ints] using hx
    | i + 2 => simp [ints] at hx
  have hsp := split_ hrk 117 (by decide) 2 (by simp) (by decide) (by decide)
  rw [show decide (117 / 2 ^ [4, 8].sum = 0) = true from by decide] at hsp
  have HSP := Lib.hid hsp
  clear hrk hsp
  go_wp2_with fail
  refine (show Calls _ _ #[.int .u64 117, .slice (some ⟨w1.heap.size, 0, none⟩) 2 2] _ _ from HSP.out).mono ?_
  rintro e w2 ⟨v, rfl, hown, hb2⟩
  have hown := hown (by decide)
  obtain ⟨A2, c2, rfl⟩ := own_slice hown
  obtain ⟨g2, rfl, hc0, -⟩ := own_at (i := 0) (x := 5) hown rfl
  obtain ⟨_, e2, hc1, -⟩ := own_at (i := 1) (x := 7) hown rfl
  cases e2
  have HB2 := Lib.hid (bl_then (bl_alloc HB1.out _) hb2)
  have HOWN := Lib.hid hown
  clear hown hb2
  go_wp2_with fail
  go_ret
  exact ⟨rfl, HB2.out⟩

end Go.Proofs.YtgnagbbdnlmgeaaGreat.Li
end

/- The fifth chapter's example. -/
section
set_option linter.unusedVariables false
set_option linter.unusedSimpArgs false
set_option maxHeartbeats 2000000
set_option maxRecDepth 100000
namespace Go.Proofs.YtgnagbbdnlmgeaaGreat.Li
open Go Go.RowKit
open Go.Proofs.YtgnagbbdnlmgeaaGreat.Ob Go.Proofs.YtgnagbbdnlmgeaaGreat.Ba Go.Proofs.YtgnagbbdnlmgeaaGreat.Oc Go.Proofs.YtgnagbbdnlmgeaaGreat.Pk

theorem lives05 (w : World) : Calls Tryz.prog 69 #[] w fun e w' => e = .returned (.bool true) ∧ Below w.heap.size w w' := by
  have hen := Su.encode_yes 10 3 64 (by decide) (by decide) (by decide) (by decide) w
  have hl1 : (ints (Su.enc 10 3 64))[1]? = some 274878103562 := by decide
  have HL := Lib.hid hl1
  generalize Su.enc 10 3 64 = l at *
  have HE := Lib.hid hen
  clear hen hl1
  go_enter Tryz.func69, Tryz.ntmps69
  go_wp2_with (first | (go_at_call 125; refine HE.out.mono ?_; rintro e w1 ⟨v, rfl, hown, hb1⟩; (obtain ⟨A1, c1, rfl⟩ := own_slice hown); (obtain ⟨q1, rfl, -, -⟩ := own_at hown HL.out); (have HO := Lib.hid hown); (have HB1 := Lib.hid hb1); clear hb1 hown) |
    (go_at_call 126; refine (Pm.lives_any _).mono ?_; rintro e w2 ⟨rfl, hb2⟩; (have HB2 := Lib.hid hb2); clear hb2) |
    (go_at_call 127; refine (lives02 _).mono ?_; rintro e w3 ⟨rfl, hb3⟩; (have HB3 := Lib.hid (bl_then HB2.out hb3)); clear hb3) |
    (go_at_call 128; refine (lives03 _).mono ?_; rintro e w4 ⟨rfl, hb4⟩; (have HB4 := Lib.hid (bl_then HB3.out hb4)); clear hb4) |
    (go_at_call 129; refine (lives04 _).mono ?_; rintro e w5 ⟨rfl, hb5⟩; (have HB5 := Lib.hid (bl_then HB4.out hb5)); clear hb5; (obtain ⟨_, e5, hc5, -⟩ := own_at (own_bl HO.out HB5.out) HL.out); cases e5))
  go_ret
  exact ⟨rfl, bl_then HB1.out HB5.out⟩

end Go.Proofs.YtgnagbbdnlmgeaaGreat.Li
end

/- The sixth chapter's example. -/
section
set_option linter.unusedVariables false
set_option linter.unusedSimpArgs false
set_option maxHeartbeats 2000000
set_option maxRecDepth 100000
namespace Go.Proofs.YtgnagbbdnlmgeaaGreat.Li
open Go Go.RowKit
open Go.Proofs.YtgnagbbdnlmgeaaGreat.Ob Go.Proofs.YtgnagbbdnlmgeaaGreat.Ba Go.Proofs.YtgnagbbdnlmgeaaGreat.Oc Go.Proofs.YtgnagbbdnlmgeaaGreat.Pk

theorem lives06 (w : World) : Calls Tryz.prog 70 #[] w fun e w' => e = .returned (.bool true) ∧ Below w.heap.size w w' := by
  have hen := In.encode_file 1 3 5 2 (by decide) ⟨.inl rfl, by decide, by decide, by decide, by decide, by decide, .inl rfl⟩ w
  have hl0 : (ints (Su.line (1 + 65536 * 3) 5))[0]? = some 196609 := by decide
  have HL := Lib.hid hl0
  generalize Su.line (1 + 65536 * 3) 5 = l at *
  have HE := Lib.hid hen
  clear hen hl0
  go_enter Tryz.func70, Tryz.ntmps70
  go_wp2_with (first | (go_at_call 108; refine (show Calls _ _ #[.agg #[.int .i64 1, .int .i64 2, .int .i64 5]] _ _ from HE.out).mono ?_; rintro e w1 ⟨v, rfl, hown, hb1⟩; (obtain ⟨A1, c1, rfl⟩ := own_slice hown); (obtain ⟨q1, rfl, -, -⟩ := own_at hown HL.out); (have HO := Lib.hid hown); (have HB1 := Lib.hid hb1); clear hb1 hown) |
    (go_at_call 127; refine (lives02 _).mono ?_; rintro e w3 ⟨rfl, hb3⟩; (have HB3 := Lib.hid hb3); clear hb3) |
    (go_at_call 128; refine (lives03 _).mono ?_; rintro e w4 ⟨rfl, hb4⟩; (have HB4 := Lib.hid (bl_then HB3.out hb4)); clear hb4; (obtain ⟨_, e5, hc5, -⟩ := own_at (own_bl HO.out HB4.out) HL.out); cases e5))
  go_ret
  exact ⟨rfl, bl_then HB1.out HB4.out⟩

end Go.Proofs.YtgnagbbdnlmgeaaGreat.Li
end

/- The seventh chapter's example. -/
section
set_option linter.unusedVariables false
set_option linter.unusedSimpArgs false
set_option maxHeartbeats 2000000
set_option maxRecDepth 100000
namespace Go.Proofs.YtgnagbbdnlmgeaaGreat.Li
open Go Go.RowKit
open Go.Proofs.YtgnagbbdnlmgeaaGreat.Ob Go.Proofs.YtgnagbbdnlmgeaaGreat.Ba Go.Proofs.YtgnagbbdnlmgeaaGreat.Oc

theorem lives07 (w : World) : Calls Tryz.prog 71 #[] w fun e w' => e = .returned (.bool true) ∧ Below w.heap.size w w' := by
  have HE := Lib.hid (Lo.encode_yes 1 2 3 (by decide) w)
  have hx : bits .and .u64 ((Lo.sEnc 1 2 3 : Nat) : Int) 281474976710655 = 12885032961 := by decide
  generalize Lo.sEnc 1 2 3 = x at *
  go_enter Tryz.func71, Tryz.ntmps71
  go_wp2_with (first | (go_at_call 103; refine HE.out.mono ?_; rintro e w1 ⟨rfl, hb1⟩; (have HB1 := Lib.hid hb1); clear hb1) |
    (go_at_call 127; refine (lives02 _).mono ?_; rintro e w2 ⟨rfl, hb2⟩; (have HB2 := Lib.hid hb2); clear hb2) |
    (go_at_call 128; refine (lives03 _).mono ?_; rintro e w3 ⟨rfl, hb3⟩; (have HB3 := Lib.hid hb3); clear hb3))
  go_ret
  exact ⟨rfl, bl_then (bl_then HB1.out HB2.out) HB3.out⟩

end Go.Proofs.YtgnagbbdnlmgeaaGreat.Li
end

/- The ninth chapter's example. -/
section
set_option linter.unusedVariables false
set_option linter.unusedSimpArgs false
set_option maxHeartbeats 2000000
set_option maxRecDepth 100000
namespace Go.Proofs.YtgnagbbdnlmgeaaGreat.Li
open Go Go.RowKit
open Go.Proofs.YtgnagbbdnlmgeaaGreat.Ob Go.Proofs.YtgnagbbdnlmgeaaGreat.Ba Go.Proofs.YtgnagbbdnlmgeaaGreat.Oc Go.Proofs.YtgnagbbdnlmgeaaGreat.Pk

theorem lives09 (w : World) : Calls Tryz.prog 72 #[] w fun e w' => e = .returned (.bool true) ∧ Below w.heap.size w w' := by
  have hen := Rj.encode_yes 2 3 4 5 ⟨⟨by decide, by decide⟩, ⟨by decide, by decide⟩, ⟨by decide, by decide⟩, by decide, by decide⟩ w
  have hpv : pv (Rj.f16s [1, 2, 3, 4]) = 1125912791875585 := by decide
  rw [hpv] at hen
  have hl0 : (ints (Su.line 1125912791875585 5))[0]? = some 1125912791875585 := rfl
  have HL := Lib.hid hl0
  generalize Su.line 1125912791875585 5 = l at *
  have HE := Lib.hid hen
  clear hen hl0 hpv
  go_enter Tryz.func72, Tryz.ntmps72
  go_wp2_with (first | (go_at_call 130; refine (show Calls _ _ #[.agg #[.int .i64 2, .int .i64 3, .int .i64 4, .int .i64 5]] _ _ from HE.out).mono ?_; rintro e w1 ⟨v, rfl, hown, hb1⟩; (obtain ⟨A1, c1, rfl⟩ := own_slice hown); (obtain ⟨q1, rfl, -, -⟩ := own_at hown HL.out); (have HO := Lib.hid hown); (have HB1 := Lib.hid hb1); clear hb1 hown) |
    (go_at_call 127; refine (lives02 _).mono ?_; rintro e w3 ⟨rfl, hb3⟩; (have HB3 := Lib.hid hb3); clear hb3) |
    (go_at_call 128; refine (lives03 _).mono ?_; rintro e w4 ⟨rfl, hb4⟩; (have HB4 := Lib.hid (bl_then HB3.out hb4)); clear hb4; (obtain ⟨_, e5, hc5, -⟩ := own_at (own_bl HO.out HB4.out) HL.out); cases e5))
  go_ret
  exact ⟨rfl, bl_then HB1.out HB4.out⟩

end Go.Proofs.YtgnagbbdnlmgeaaGreat.Li
end

/- The tenth chapter's example. -/
section
set_option linter.unusedVariables false
set_option linter.unusedSimpArgs false
set_option maxHeartbeats 2000000
set_option maxRecDepth 100000
namespace Go.Proofs.YtgnagbbdnlmgeaaGreat.Li
open Go Go.RowKit
open Go.Proofs.YtgnagbbdnlmgeaaGreat.Ob Go.Proofs.YtgnagbbdnlmgeaaGreat.Ba Go.Proofs.YtgnagbbdnlmgeaaGreat.Oc Go.Proofs.YtgnagbbdnlmgeaaGreat.Pk Go.Proofs.YtgnagbbdnlmgeaaGreat.Bm

theorem rk_rd {w : World} {A : Option Addr} {l : List Int} (h : Rk .u64 w A l) : Pm.Rd w A l := h

theorem next65 {r : Int} (h : NextIs 70 [1, 2] 1 true r) : r = 65 := by
  have key : ∀ k : Nat, k < 70 → 1 ≤ k → k < 65 → bget [1, 2] k ≠ true := by decide
  rcases h with ⟨_, h⟩ | ⟨j, rfl, h1, h2, h3, h4⟩
  · exact absurd (by decide : bget [1, 2] 65 = true) (h 65 (by decide) (by decide))
  · by_cases h5 : j < 65
    · exact absurd h3 (key j h2 (by omega) h5)
    · by_cases h6 : 65 < j
      · exact absurd (by decide : bget [1, 2] 65 = true) (h4 65 (by decide) h6)
      · omega
theorem next1 {r : Int} (h : NextIs 70 [1, 2] 0 false r) : r = 1 := by
  rcases h with ⟨_, h⟩ | ⟨j, rfl, h1, h2, h3, h4⟩
  · exact absurd (by decide : bget [1, 2] 1 = false) (h 1 (by decide) (by decide))
  · by_cases h5 : j < 1
    · obtain rfl : j = 0 := by omega
      revert h3; decide
    · by_cases h6 : 1 < j
      · exact absurd (by decide : bget [1, 2] 1 = false) (h4 1 (by decide) h6)
      · omega

theorem three_rk {W : World} {q T : Nat} {fr : Nat × Nat} {k : IntKind} {x y z : Int} (h : W.heap[q]? = some (.cells #[.int k x, .int k y, .int k z] T fr)) : Rk k W (some ⟨q, 0, none⟩) [x, y, z] := by
  refine blk_rk h ?_
  intro i u hu
  match i, hu with
  | 0, hu => simp at hu; subst hu; rfl
  | 1, hu => simp at hu; subst hu; rfl
  | 2, hu => simp at hu; subst hu; rfl
  | i + 3, hu => simp at hu
theorem two_rk {W : World} {q T : Nat} {fr : Nat × Nat} {k : IntKind} {x y : Int} (h : W.heap[q]? = some (.cells #[.int k x, .int k y] T fr)) : Rk k W (some ⟨q, 0, none⟩) [x, y] := by
  refine blk_rk h ?_
  intro i u hu
  match i, hu with
  | 0, hu => simp at hu; subst hu; rfl
  | 1, hu => simp at hu; subst hu; rfl
  | i + 2, hu => simp at hu

theorem lives10 (w : World) : Calls Tryz.prog 73 #[] w fun e w' => e = .returned (.bool true) ∧ Below w.heap.size w w' := by
  go_enter Tryz.func73, Tryz.ntmps73
  go_wp2_with fail
  refine (show Calls _ _ #[.int .i64 70] _ _ from new_ 70 (by decide) w).mono ?_
  rintro e w1 ⟨b, rfl, hm1, hb1⟩
  have HM1 := Lib.hid hm1
  have HB1 := Lib.hid hb1
  clear hm1 hb1
  go_wp2_with fail
  refine (lives03 w1).mono ?_
  rintro e w2 ⟨rfl, hb2⟩
  have HM2 := Lib.hid (HM1.out.keep hb2)
  have HB2 := Lib.hid (bl_then HB1.out hb2)
  have hlt2 : w1.heap.size ≤ w2.heap.size := hb2.size
  have hq1 : w.heap.size < w1.heap.size := by
    have := own_at (l := ints (List.replicate ((70 + 63) / 64) 0)) (i := 0) (x := 0) HM1.out.row (by simp [ints])
    obtain ⟨q, hq, hc, -⟩ := this
    cases hq
    by_cases h : w.heap.size < w1.heap.size
    · exact h
    · rw [show w1.cell? ⟨w.heap.size, 0, none⟩ = none from by simp [World.cell?, Array.getElem?_eq_none (Nat.le_of_not_lt h)]] at hc
      cases hc
  clear hb2
  go_wp2_with fail
  have hlt3 : w.heap.size < w2.heap.size := by omega
  have hput := put_ (xs := [0, 65, 70]) (HM2.out.keep (bl_alloc (Below.refl _ _) (.cells #[.int .i64 0, .int .i64 65, .int .i64 70] 3))) (three_rk (alloc_new w2 _)) (by intro a a' h1 h2; cases h1; cases h2; exact Nat.ne_of_lt hlt3) 3 (by decide)
  rw [show turnL 70 false (List.replicate ((70 + 63) / 64) 0) [0, 65, 70] = ([1, 2], 2) from by decide] at hput
  have HPU := Lib.hid hput
  clear hput
  refine (show Calls _ _ #[.pointer (some ⟨b, 0, none⟩), .slice (some ⟨w2.heap.size, 0, none⟩) 3 3] _ _ from HPU.out).mono ?_
  rintro e w3 ⟨rfl, hm3, ho3⟩
  have HM3 := Lib.hid hm3
  have HB3 := Lib.hid ((bl_alloc HB2.out (.cells #[.int .i64 0, .int .i64 65, .int .i64 70] 3)).trans (ho3.below (B := w.heap.size) (by intro a ha; cases ha; exact Nat.le_refl _)))
  clear hm3 ho3
  go_wp2_with fail
  refine (words_of HM3.out).mono ?_
  rintro e w4 ⟨v4, rfl, hown, hb4⟩
  obtain ⟨A4, c4, rfl⟩ := own_slice hown
  have HM4 := Lib.hid (HM3.out.keep hb4)
  have HB4 := Lib.hid (bl_then HB3.out hb4)
  have HO4 := Lib.hid (own_rk (k := .u64) hown).1
  clear hown hb4
  go_wp2_with fail
  have hsm := Pm.same_words (m := [1, 2]) (rk_rd (HO4.out.below (bl_alloc (Below.refl _ _) (.cells #[.int .u64 1, .int .u64 2] 94)))) (rk_rd (two_rk (alloc_new w4 _))) c4 2 (by decide) (by decide)
  rw [show decide (ints [1, 2] = [1, 2]) = true from by decide] at hsm
  have HSM := Lib.hid hsm
  clear hsm
  refine (show Calls _ _ #[.slice A4 2 c4, .slice (some ⟨w4.heap.size, 0, none⟩) 2 2] _ _ from HSM.out).mono ?_
  rintro e w5 ⟨rfl, n5, hw5⟩
  have hb5 : Below w4.heap.size w4 w5 := by rw [hw5]; exact bl_drewN (bl_alloc (Below.refl _ _) _) _
  have HM5 := Lib.hid (HM4.out.keep hb5)
  have HB5 := Lib.hid (bl_then HB4.out hb5)
  clear hb5 hw5
  go_wp2_with fail
  refine (next_ HM5.out 1 true).mono ?_
  rintro e w6 ⟨r, rfl, hr, rfl⟩
  obtain rfl := next65 hr
  clear hr
  go_wp2_with fail
  refine (next_ HM5.out 0 false).mono ?_
  rintro e w7 ⟨r, rfl, hr, rfl⟩
  obtain rfl := next1 hr
  clear hr
  go_wp2_with fail
  go_ret
  exact ⟨rfl, HB5.out⟩

end Go.Proofs.YtgnagbbdnlmgeaaGreat.Li
end

/- A slot's word gives the slot back. -/
section
set_option linter.unusedVariables false
set_option linter.unusedSimpArgs false
namespace Go.Proofs.YtgnagbbdnlmgeaaGreat.Lo
open Go Go.RowKit
open Go.Proofs.YtgnagbbdnlmgeaaGreat.Su

theorem sEnc_lt (s c n : Int) (h : sMay s c n = true) : sEnc s c n < 18446744073709551616 := by
  obtain ⟨h1, h2, h3, h4, h5, h6⟩ := of_decide_eq_true h
  unfold sEnc
  have := sSum_lt (word1 s.toNat c.toNat (nx n))
  have hk : nx n < 65536 := by unfold nx; split <;> omega
  have hw : word1 s.toNat c.toNat (nx n) < 281474976710656 := by unfold word1; omega
  omega
theorem sEnc_parts (s c n : Int) (h : sMay s c n = true) : pa (sEnc s c n) = s.toNat ∧ pb (sEnc s c n) = c.toNat ∧ pc (sEnc s c n) = nx n := by
  obtain ⟨h1, h2, h3, h4, h5, h6⟩ := of_decide_eq_true h
  unfold sEnc
  have hs := sSum_lt (word1 s.toNat c.toNat (nx n))
  generalize sSum (word1 s.toNat c.toNat (nx n)) = y at *
  have hk : nx n < 65536 := by unfold nx; split <;> omega
  generalize nx n = k at *
  unfold pa pb pc word1
  omega
theorem nxt_nx (n : Int) (h0 : -1 ≤ n) (h1 : n < 65534) : nxt (nx n) = n := by
  unfold nxt nx
  split <;> split <;> omega
theorem sdec_enc (s c n : Int) (h : sMay s c n = true) (e : Ending) (hd : SDec (sEnc s c n) (pa (sEnc s c n)) (pb (sEnc s c n)) (pc (sEnc s c n)) e) : e = .returned (.tuple #[.agg #[.int .i64 s, .int .i64 c, .int .i64 n], .int .i64 0]) := by
  obtain ⟨h1, h2, h3, h4, h5, h6⟩ := of_decide_eq_true h
  obtain ⟨q1, q2, q3⟩ := sEnc_parts s c n h
  rw [q1, q2, q3] at hd
  have hs : ((s.toNat : Nat) : Int) = s := by omega
  have hc : ((c.toNat : Nat) : Int) = c := by omega
  have hx := nxt_nx n h5 h6
  have h9 := hd.1
  rw [hx, hs, hc] at h9
  exact h9 ⟨h, rfl⟩

end Go.Proofs.YtgnagbbdnlmgeaaGreat.Lo
end

/- The fifteenth chapter's example. -/
section
set_option linter.unusedVariables false
set_option linter.unusedSimpArgs false
set_option maxHeartbeats 2000000
set_option maxRecDepth 100000
namespace Go.Proofs.YtgnagbbdnlmgeaaGreat.Li
open Go Go.RowKit
open Go.Proofs.YtgnagbbdnlmgeaaGreat.Ob Go.Proofs.YtgnagbbdnlmgeaaGreat.Ba Go.Proofs.YtgnagbbdnlmgeaaGreat.Ko Go.Proofs.YtgnagbbdnlmgeaaGreat.Ge Go.Proofs.YtgnagbbdnlmgeaaGreat.Oc Go.Proofs.YtgnagbbdnlmgeaaGreat.Pk Go.Proofs.YtgnagbbdnlmgeaaGreat.Su Go.Proofs.YtgnagbbdnlmgeaaGreat.Rf Go.Proofs.YtgnagbbdnlmgeaaGreat.Dv Go.Proofs.YtgnagbbdnlmgeaaGreat.Vo Go.Proofs.YtgnagbbdnlmgeaaGreat.Ra Go.Proofs.YtgnagbbdnlmgeaaGreat.Lo

theorem opn_any {W : World} {b : Nat} {g : Lay} (r0 r1 r2 : Nat) (l : List Int) (n m s T : Nat) (hn : n = gB r0) (hm : m = gB r1) (hs : s = gS r2) (hT : (T : Int) = tot n m s) (hD : DevIs W b (Pm.devOf (dws (ints (enc n m s)) l T)) g) :
    Calls Tryz.prog 74 #[.pointer (some ⟨b, 0, none⟩)] W fun e w' => ∃ v, e = .returned (.tuple #[.pointer (some ⟨v, 0, none⟩), .int .i64 0]) ∧ W.heap.size ≤ v ∧ VolIs w' v b n m s (Pm.devOf (dws (ints (enc n m s)) l T)) g ∧ Below W.heap.size W w' := by
  have hok : geoOk n m s = true := by rw [hn, hm, hs]; exact g_ok r0 r1 r2
  have htt := g_tot r0 r1 r2
  rw [← hn, ← hm, ← hs, ← hT] at htt
  have hn9 : n < 65536 := by have := gB_in r0; omega
  have hm9 : m < 65536 := by have := gB_in r1; omega
  have hs9 : s < 65536 := by have := gS_or r2; omega
  have hlen : (dws (ints (enc n m s)) l T).length = T := dws_length _ _ _ rfl (by omega)
  have htk : (dws (ints (enc n m s)) l T).take 8 = ints (enc n m s) := dws_take8 _ _ _ rfl
  exact open_ok hD n m s hok hn9 hm9 hs9 (by show ((dws (ints (enc n m s)) l T).length : Int) = _; rw [hlen, hT]) (by show 8 ≤ (dws (ints (enc n m s)) l T).length; rw [hlen]; omega) (fun i x hx => by
    refine devOf_load ?_
    have hi := (List.getElem?_eq_some_iff.1 hx).1
    have h8 : i < 8 := hi
    have h9 : ((dws (ints (enc n m s)) l T).take 8)[i]? = some (x : Int) := by rw [htk]; exact ints_get hx
    rw [List.getElem?_take, if_pos h8] at h9
    exact h9)

theorem lives15 (w : World) : Calls Tryz.prog 12 #[] w fun e w' => e = .returned (.bool true) ∧ Below w.heap.size w w' := by
  have hu := Tryz.underlying30
  have hdv := device_ 3 3 0 (by decide) (by decide) (by decide) (A := none) (l := []) 0 (w := w) (Rk.nil _ _ _) (by decide) 4 4 64 96 rfl rfl rfl (by decide)
  have HOP : Hid (∀ {W : World} {b : Nat} {g : Lay}, DevIs W b (Pm.devOf (dws (ints (enc (4 : Nat) (4 : Nat) (64 : Nat))) [] 96)) g → _) := fun {W} {b} {g} hD => opn_any 3 3 0 [] 4 4 64 96 rfl rfl rfl (by decide) hD
  have hlen : (dws (ints (enc (4 : Nat) (4 : Nat) (64 : Nat))) [] 96).length = 96 := dws_length _ _ _ rfl (by decide)
  have HV : Hid (∀ v, vcells (4 : Nat) (4 : Nat) (64 : Nat) v = #[.int .i64 4, .int .i64 4, .int .i64 64, .int .i64 16, .int .i64 48, .int .i64 56, .int .i64 64, .int .i64 96, v]) := fun _ => rfl
  generalize dws (ints (enc (4 : Nat) (4 : Nat) (64 : Nat))) [] 96 = L at *
  have HP1 := Lib.hid (put_one L 48 (sEnc 0 1 (-1) : Nat) (by omega))
  have HLN := Lib.hid hlen
  have HD := Lib.hid hdv
  clear hdv hlen
  go_enter Tryz.func12, Tryz.ntmps12
  go_wp2_with fail
  refine (show Calls _ _ #[.agg #[.int .u8 3, .int .u8 3, .int .u8 0, .slice none 0 0]] _ _ from HD.out).mono ?_
  rintro e w1 ⟨b, g, vw, rfl, hd1, hf1, ho1, ha1, hb1⟩
  obtain ⟨A8, c8, e8⟩ := own_slice ho1
  subst e8
  rw [HV.out]
  have HD1 := Lib.hid hd1
  have HF1 := Lib.hid hf1
  have HB1 := Lib.hid hb1
  clear hd1 hf1 hb1 ho1 ha1
  go_wp2_with fail
  have hb0 : Below w1.heap.size w1 (w1.alloc (.cells #[.int .i64 4, .int .i64 4, .int .i64 64, .int .i64 16, .int .i64 48, .int .i64 56, .int .i64 64, .int .i64 96, .slice A8 96 c8] 30)) := bl_alloc (Below.refl _ _) _
  have HB0 := Lib.hid hb0
  clear hb0
  refine (lives05 _).mono ?_
  rintro e w2 ⟨rfl, hb2⟩
  have HB2 := Lib.hid (bl_then HB0.out hb2)
  clear hb2
  go_wp2_with fail
  refine (lives06 _).mono ?_
  rintro e w3 ⟨rfl, hb3⟩
  have HB3 := Lib.hid (bl_then HB2.out hb3)
  clear hb3
  go_wp2_with fail
  refine (lives07 _).mono ?_
  rintro e w4 ⟨rfl, hb4⟩
  have HB4 := Lib.hid (bl_then HB3.out hb4)
  clear hb4
  go_wp2_with fail
  refine (lives09 _).mono ?_
  rintro e w5 ⟨rfl, hb5⟩
  have HB5 := Lib.hid (bl_then HB4.out hb5)
  clear hb5
  go_wp2_with fail
  refine (lives10 _).mono ?_
  rintro e w6 ⟨rfl, hb6⟩
  have HB6 := Lib.hid (bl_then HB5.out hb6)
  clear hb6
  go_wp2_with fail
  refine (HOP.out (HD1.out.below HB6.out)).mono ?_
  rintro e w7 ⟨v, rfl, hlo, hvol, hb7⟩
  have HV7 := Lib.hid hvol
  have HB7 := Lib.hid (bl_then HB6.out hb7)
  clear hlo hvol hb7
  go_wp2_with fail
  refine (setslot_yes HV7.out (show (0 : Nat) ≤ 1000000000 from Nat.zero_le _) 0 0 1 (-1) (by decide) (by decide) 48 (by decide) _ HP1.out).mono ?_
  rintro e w8 ⟨rfl, hto⟩
  have hto2 := HV7.out.to hto (by rfl)
  obtain ⟨g8, hv8, hf8, hu8⟩ := hto2
  have HV8 := Lib.hid hv8
  have HB8 : Hid (Below w.heap.size w w8) := (bl_then HB1.out HB7.out).trans (hu8.belowB (bl_then HB1.out HB7.out).size HF1.out)
  clear hto hv8 hf8 hu8
  rw [show ecode (one L 48 (sEnc 0 1 (-1) : Nat), some 1) = 0 from rfl]
  go_wp2_with fail
  refine (Pm.steps_any HV8.out.dev).mono ?_
  rintro e w9 ⟨rfl, rfl⟩
  rw [show (one L 48 (sEnc 0 1 (-1) : Nat)).steps = 2 from rfl]
  go_wp2_with fail
  refine (stores_any HV8.out.dev).mono ?_
  rintro e w9 ⟨rfl, rfl⟩
  rw [show (one L 48 (sEnc 0 1 (-1) : Nat)).stores = 1 from rfl]
  go_wp2_with fail
  go_ret
  exact ⟨rfl, HB8.out⟩

end Go.Proofs.YtgnagbbdnlmgeaaGreat.Li
end

/- A device's words, and that its row is there. -/
section
set_option linter.unusedVariables false
set_option linter.unusedSimpArgs false
set_option maxHeartbeats 2000000
set_option maxRecDepth 100000
namespace Go.Proofs.YtgnagbbdnlmgeaaGreat.Vs
open Go Go.RowKit
open Go.Proofs.YtgnagbbdnlmgeaaGreat.Ob Go.Proofs.YtgnagbbdnlmgeaaGreat.Ba Go.Proofs.YtgnagbbdnlmgeaaGreat.Ko Go.Proofs.YtgnagbbdnlmgeaaGreat.Ge Go.Proofs.YtgnagbbdnlmgeaaGreat.Oc Go.Proofs.YtgnagbbdnlmgeaaGreat.Pk Go.Proofs.YtgnagbbdnlmgeaaGreat.Su Go.Proofs.YtgnagbbdnlmgeaaGreat.Rf Go.Proofs.YtgnagbbdnlmgeaaGreat.Dv Go.Proofs.YtgnagbbdnlmgeaaGreat.Vo Go.Proofs.YtgnagbbdnlmgeaaGreat.Ra Go.Proofs.YtgnagbbdnlmgeaaGreat.Lo Go.Proofs.YtgnagbbdnlmgeaaGreat.Li

theorem las_some {w : World} {b : Nat} {d : Dev} {g : Lay} (h : DevIs w b d g) (hl : 1 ≤ d.las.length) : g.A = none → g.c = 0 := by
  intro hA
  obtain ⟨x, hx⟩ := some_at (l := d.las) (i := 0) (by omega)
  obtain ⟨q, off, cs, e, -⟩ := h.las.at_ (i := 0) (v := .int .u64 x) (by rw [u64s, List.getElem?_map, hx]; rfl)
  rw [hA] at e
  cases e

theorem words_devOf (L : List Int) : Pm.wordsOf (Pm.devOf L) = L := by
  rw [Pm.wordsOf_eq]
  show (List.range L.length).map _ = L
  apply List.ext_getElem?
  intro i
  by_cases hi : i < L.length
  · obtain ⟨x, hx⟩ := some_at hi
    rw [List.getElem?_map, List.getElem?_range hi, hx]
    show some ((Pm.devOf L).load (i : Int)) = some _
    rw [devOf_load hx]
  · rw [List.getElem?_eq_none (by simp; omega), List.getElem?_eq_none (by omega)]

end Go.Proofs.YtgnagbbdnlmgeaaGreat.Vs
end
