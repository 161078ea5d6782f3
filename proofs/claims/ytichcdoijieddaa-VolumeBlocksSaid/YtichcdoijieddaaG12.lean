/- Parts of the proof, one behind the other: Wp, Az, Vg, Vb, Vc, Vh, Rm. -/
import Derived.Test.YtichcdoijieddaaG11
import Derived.Test.YtichcdoijieddaaG01
import Derived.Lib.AppendZerosOnto
import Derived.Laws.CopyOwn
import Derived.Deep.RegionHeld3
import Derived.Test.YtichcdoijieddaaG06
import Derived.Test.YtichcdoijieddaaG08

/- Words put into a device: what it then holds, and how much was done (plain data). -/
section
set_option linter.unusedVariables false
set_option linter.unusedSimpArgs false
namespace Go.Proofs.Ytichcdoijieddaa.Wp
open Go Go.RowKit
open Go.Proofs.Ytichcdoijieddaa.Ob Go.Proofs.Ytichcdoijieddaa.Ba Go.Proofs.Ytichcdoijieddaa.Oc Go.Proofs.Ytichcdoijieddaa.Pk Go.Proofs.Ytichcdoijieddaa.Rf Go.Proofs.Ytichcdoijieddaa.Dv Go.Proofs.Ytichcdoijieddaa.Vo

theorem find_put (k x : Int) (l : List (Int × Pen)) (j : Int) : ((putPen k x l).find? fun y => decide (y.1 = j)) = (l.find? fun y => decide (y.1 = j)).map fun y => if y.1 = k then (y.1, ⟨y.2.l ++ [x], y.2.fl⟩) else y := by
  induction l with
  | nil => rfl
  | cons y l ih =>
    unfold putPen at ih ⊢
    rw [List.map_cons, List.find?_cons, List.find?_cons, ih]
    have e : (if y.1 = k then (y.1, (⟨y.2.l ++ [x], y.2.fl⟩ : Pen)) else y).1 = y.1 := by split <;> rfl
    rw [e]
    cases decide (y.1 = j) <;> rfl
theorem find_flush (ln : Int) (l : List (Int × Pen)) (j : Int) : ((l.map (flushPen ln)).find? fun y => decide (y.1 = j)) = (l.find? fun y => decide (y.1 = j)).map (flushPen ln) := by
  induction l with
  | nil => rfl
  | cons y l ih =>
    rw [List.map_cons, List.find?_cons, List.find?_cons, ih]
    have e : (flushPen ln y).1 = y.1 := by unfold flushPen; split <;> rfl
    rw [e]
    cases decide (y.1 = j) <;> rfl

theorem stored_load {d : Dev} {a : Int} {x : Int} (h : d.storeOk a = true) (j : Int) : (d.stored a x).load j = if j = a then x else d.load j := by
  have hopn : (d.stored a x).opn = if (d.find a).isSome then putPen a x d.opn else d.opn ++ [(a, ⟨[x], 0⟩)] := by unfold Dev.stored; rw [if_pos h]
  have hlas : ∀ j, (d.stored a x).lasting j = d.lasting j := by intro j; unfold Dev.stored Dev.lasting Dev.inn; rw [if_pos h]; rfl
  unfold Dev.load
  rw [hlas]
  by_cases hf : (d.find a).isSome
  · rw [if_pos hf] at hopn
    have hfj : (d.stored a x).find j = (d.opn.find? fun y => decide (y.1 = j)).map fun y => (if y.1 = a then (y.1, (⟨y.2.l ++ [x], y.2.fl⟩ : Pen)) else y).2 := by
      unfold Dev.find; rw [hopn, find_put, Option.map_map]; rfl
    rw [hfj]
    unfold Dev.find
    cases hq : d.opn.find? fun y => decide (y.1 = j) with
    | none =>
      by_cases hj : j = a
      · subst hj
        unfold Dev.find at hf
        rw [hq] at hf
        cases hf
      · rw [if_neg hj]; rfl
    | some y =>
      have hy : y.1 = j := by simpa using List.find?_some hq
      by_cases hj : j = a
      · rw [if_pos hj]
        simp [hy, hj]
      · rw [if_neg hj]
        simp [hy, hj]
  · rw [if_neg hf] at hopn
    have hfj : (d.stored a x).find j = ((d.opn.find? fun y => decide (y.1 = j)).or (if a = j then some (a, ⟨[x], 0⟩) else none)).map (·.2) := by
      unfold Dev.find; rw [hopn, List.find?_append]
      by_cases hj : a = j <;> simp [hj]
    rw [hfj]
    by_cases hj : j = a
    · subst hj
      have : d.opn.find? (fun y => decide (y.1 = j)) = none := by
        unfold Dev.find at hf
        cases hq : d.opn.find? fun y => decide (y.1 = j) with
        | none => rfl
        | some y => rw [hq] at hf; exact absurd rfl hf
      rw [this]
      simp
    · rw [if_neg hj, if_neg (fun e => hj e.symm)]
      unfold Dev.find
      cases d.opn.find? fun y => decide (y.1 = j) <;> rfl
theorem flushed_load (d : Dev) (ln j : Int) : (d.flushed ln).load j = d.load j := by
  unfold Dev.flushed
  split
  · unfold Dev.load Dev.find Dev.lasting Dev.inn
    show (match ((d.opn.map (flushPen ln)).find? fun y => decide (y.1 = j)).map (·.2) with | some p => _ | none => _) = _
    rw [find_flush, Option.map_map]
    cases d.opn.find? fun y => decide (y.1 = j) with
    | none => rfl
    | some y =>
      show (flushPen ln y).2.l.getD ((flushPen ln y).2.l.length - 1) 0 = y.2.l.getD (y.2.l.length - 1) 0
      have e : (flushPen ln y).2.l = y.2.l := by unfold flushPen; split <;> rfl
      rw [e]
  · rfl
theorem flushed_words (d : Dev) (ln : Int) : Pm.wordsOf (d.flushed ln) = Pm.wordsOf d := by
  rw [Pm.wordsOf_eq, Pm.wordsOf_eq]
  have e : (d.flushed ln).las = d.las := by unfold Dev.flushed; split <;> rfl
  rw [e]
  congr 1
  funext i
  exact flushed_load d ln i
theorem ok_store {d : Dev} (hf : d.fuse = none) {a : Nat} (ha : a < d.las.length) : d.storeOk a = true := by
  have h2 : d.down = false := by unfold Dev.down; rw [hf]; rfl
  unfold Dev.storeOk Dev.inn
  rw [h2]
  simp [ha]
theorem ok_flush {d : Dev} (hf : d.fuse = none) {a : Nat} (ha : 8 * a < d.las.length) : d.flushOk a = true := by
  have h2 : d.down = false := by unfold Dev.down; rw [hf]; rfl
  unfold Dev.flushOk
  rw [h2]
  simp
  omega
theorem stored_words {d : Dev} (hf : d.fuse = none) {a : Nat} (ha : a < d.las.length) (x : Int) : Pm.wordsOf (d.stored a x) = (Pm.wordsOf d).set a x := by
  have hok := ok_store hf ha
  rw [Pm.wordsOf_eq, Pm.wordsOf_eq]
  have e : (d.stored a x).las = d.las := by unfold Dev.stored; rw [if_pos hok]; rfl
  rw [e]
  apply List.ext_getElem?
  intro i
  rw [List.getElem?_set, List.getElem?_map, List.getElem?_map]
  by_cases hi : i < d.las.length
  · rw [List.getElem?_range hi]
    show some ((d.stored a x).load (i : Int)) = _
    rw [stored_load hok]
    by_cases hj : a = i
    · rw [if_pos (by rw [hj]), if_pos hj]
      simp [ha]
    · rw [if_neg (by omega), if_neg hj]; rfl
  · rw [List.getElem?_eq_none (by simp; omega)]
    by_cases hj : a = i
    · omega
    · rw [if_neg hj]; rfl

/-- what stands behind writes: words, how many more were stored, how many lines were flushed -/
structure Pt (d0 d : Dev) (L : List Int) (c q : Nat) : Prop where
  las : d.las = d0.las
  fuse : d.fuse = none
  words : Pm.wordsOf d = L
  stores : d.stores = d0.stores + c
  steps : d.steps = d0.steps + c + q
theorem Pt.stored {d0 d : Dev} {L : List Int} {c q : Nat} (h : Pt d0 d L c q) {a : Nat} (ha : a < d0.las.length) (x : Int) : Pt d0 (d.stored a x) (L.set a x) (c + 1) q := by
  have ha' : a < d.las.length := by rw [h.las]; exact ha
  have hok := ok_store h.fuse ha'
  refine ⟨?_, ?_, by rw [stored_words h.fuse ha', h.words], ?_, ?_⟩ <;> (unfold Dev.stored; rw [if_pos hok])
  · exact h.las
  · show d.fuse.map _ = none
    rw [h.fuse]; rfl
  · show d.stores + 1 = _
    rw [h.stores]; omega
  · show d.steps + 1 = _
    rw [h.steps]; omega
theorem Pt.flushed {d0 d : Dev} {L : List Int} {c q : Nat} (h : Pt d0 d L c q) {a : Nat} (ha : 8 * a < d0.las.length) : Pt d0 (d.flushed a) L c (q + 1) := by
  have hok := ok_flush h.fuse (a := a) (by rw [h.las]; exact ha)
  refine ⟨?_, ?_, by rw [flushed_words, h.words], ?_, ?_⟩ <;> (unfold Dev.flushed; rw [if_pos hok])
  · exact h.las
  · show d.fuse.map _ = none
    rw [h.fuse]; rfl
  · show d.stores + 0 = _
    rw [h.stores]; omega
  · show d.steps + 1 = _
    rw [h.steps]; omega
theorem flush_all {d0 : Dev} {L : List Int} {c : Nat} : ∀ (ls : List Nat) (d : Dev) (q k : Nat), Pt d0 d L c q → (∀ x ∈ ls, 8 * x < d0.las.length) → ∃ d', flushGo ls d k = (d', some k) ∧ Pt d0 d' L c (q + ls.length)
  | [], d, q, k, h, _ => ⟨d, rfl, h⟩
  | x :: r, d, q, k, h, hl => by
    have hx := hl x (List.mem_cons_self)
    have hok := ok_flush h.fuse (a := x) (by rw [h.las]; exact hx)
    obtain ⟨d', e, h'⟩ := flush_all r _ _ k (h.flushed hx) (fun y hy => hl y (List.mem_cons_of_mem _ hy))
    refine ⟨d', ?_, by rw [show q + (x :: r).length = q + 1 + r.length from by simp; omega]; exact h'⟩
    show (if d.flushOk x then _ else _) = _
    rw [if_pos hok, e]

/-- which words come to be, how many are stored, and in which lines -/
def pgo (all : Bool) : List Int → Nat → List Int × Nat × List Nat → List Int × Nat × List Nat
  | [], _, s => s
  | x :: r, a, s => if !all && decide (s.1.getD a 0 = x) then pgo all r (a + 1) s else pgo all r (a + 1) (s.1.set a x, s.2.1 + 1, addLn s.2.2 (a / 8))

theorem addLn_mem {ls : List Nat} {k x : Nat} (h : x ∈ addLn ls k) : x ∈ ls ∨ x = k := by
  unfold addLn at h
  split at h
  · exact .inl h
  · simpa using h
theorem words_load {d : Dev} {a : Nat} (ha : a < d.las.length) : (Pm.wordsOf d).getD a 0 = d.load a := by
  rw [List.getD_eq_getElem?_getD, Pm.wordsOf_get d a ha]; rfl

theorem put_gen (d0 : Dev) (all : Bool) : ∀ (xs : List Int) (a : Nat) (d : Dev) (L : List Int) (c : Nat) (ls : List Nat), Pt d0 d L c 0 → a + xs.length ≤ d0.las.length → (∀ x ∈ ls, 8 * x < d0.las.length) →
    ∃ d', putGo all xs a ⟨d, c, ls⟩ = (d', some (pgo all xs a (L, c, ls)).2.1) ∧ Pt d0 d' (pgo all xs a (L, c, ls)).1 (pgo all xs a (L, c, ls)).2.1 (pgo all xs a (L, c, ls)).2.2.length
  | [], a, d, L, c, ls, h, ha, hl => by
    obtain ⟨d', e, h'⟩ := flush_all ls d 0 c h hl
    exact ⟨d', e, by rw [Nat.zero_add] at h'; exact h'⟩
  | x :: r, a, d, L, c, ls, h, ha, hl => by
    have ha1 : a < d0.las.length := by simp at ha; omega
    have hload : L.getD a 0 = d.load a := by rw [← h.words]; exact words_load (by rw [h.las]; exact ha1)
    have hk : keepW all d a x = (!all && decide (L.getD a 0 = x)) := by unfold keepW; rw [hload]
    by_cases hb : (!all && decide (L.getD a 0 = x)) = true
    · rw [putGo_keep (hk.trans hb)]
      have e : pgo all (x :: r) a (L, c, ls) = pgo all r (a + 1) (L, c, ls) := by
        show (if (!all && decide (L.getD a 0 = x)) = true then _ else _) = _
        rw [if_pos hb]
      rw [e]
      exact put_gen d0 all r (a + 1) d L c ls h (by simp at ha; omega) hl
    · have hb' : (!all && decide (L.getD a 0 = x)) = false := by simpa using hb
      rw [putGo_store (hk.trans hb') (ok_store h.fuse (by rw [h.las]; exact ha1))]
      have e : pgo all (x :: r) a (L, c, ls) = pgo all r (a + 1) (L.set a x, c + 1, addLn ls (a / 8)) := by
        show (if (!all && decide (L.getD a 0 = x)) = true then _ else _) = _
        rw [if_neg hb]
      rw [e]
      refine put_gen d0 all r (a + 1) _ _ _ _ (h.stored ha1 x) (by simp at ha; omega) (fun y hy => ?_)
      rcases addLn_mem hy with h1 | h1
      · exact hl y h1
      · omega

/-- all of them: line by line -/
def lnsG (k : Nat) : Nat → List Nat
  | 0 => []
  | i + 1 => addLn (lnsG k i) ((k + i) / 8)
theorem lnsG_last (k i : Nat) : (lnsG k (i + 1)).getLast? = some ((k + i) / 8) := by
  show (addLn (lnsG k i) ((k + i) / 8)).getLast? = _
  unfold addLn
  split
  · assumption
  · simp
theorem lnsG_len (k : Nat) : ∀ i, (lnsG k i).length = nline k i
  | 0 => rfl
  | i + 1 => by
    show (addLn (lnsG k i) ((k + i) / 8)).length = nline k i + _
    rw [← lnsG_len k i]
    cases i with
    | zero => rfl
    | succ i =>
      unfold addLn
      rw [lnsG_last]
      by_cases h : (k + (i + 1)) % 8 = 0
      · rw [if_neg (by rw [Option.some.injEq]; omega), if_pos (.inr h)]; simp
      · rw [if_pos (by rw [Option.some.injEq]; omega), if_neg (by omega)]; rfl
theorem pgo_all (k : Nat) (L : List Int) : ∀ (xs : List Int) (i : Nat) (M : List Int), pgo true xs (k + i) (M, i, lnsG k i) = (wput M (k + i) xs, i + xs.length, lnsG k (i + xs.length))
  | [], i, M => rfl
  | x :: r, i, M => by
    show pgo true r (k + i + 1) (M.set (k + i) x, i + 1, lnsG k (i + 1)) = _
    have := pgo_all k L r (i + 1) (M.set (k + i) x)
    rw [show k + i + 1 = k + (i + 1) from rfl, this]
    rw [show i + (x :: r).length = i + 1 + r.length from by simp; omega]
    rfl

theorem put_many (d : Dev) (hf : d.fuse = none) (xs : List Int) (k : Nat) (hk : k + xs.length ≤ d.las.length) :
    ∃ d', putGo true xs k ⟨d, 0, []⟩ = (d', some xs.length) ∧ Pt d d' (wput (Pm.wordsOf d) k xs) xs.length (nline k xs.length) := by
  obtain ⟨d', e, h⟩ := put_gen d true xs k d (Pm.wordsOf d) 0 [] ⟨rfl, hf, rfl, rfl, rfl⟩ hk (by simp)
  have hp := pgo_all k (Pm.wordsOf d) xs 0 (Pm.wordsOf d)
  rw [Nat.zero_add, Nat.add_zero] at hp
  rw [show (Pm.wordsOf d, 0, ([] : List Nat)) = (Pm.wordsOf d, 0, lnsG k 0) from rfl, hp] at e h
  exact ⟨d', e, by rw [lnsG_len] at h; exact h⟩

end Go.Proofs.Ytichcdoijieddaa.Wp
end

/- append(own, make([]T, k)...) to a row of one's own, of one-cell elements. No program is named. -/
section
set_option linter.unusedVariables false
set_option linter.unusedSimpArgs false
namespace Go.Proofs.Ytichcdoijieddaa.Az
open Go Go.RowKit
open Go.Proofs.Ytichcdoijieddaa.Ob Go.Proofs.Ytichcdoijieddaa.Ba

theorem zeroCells_one (z : Value) (k : Nat) : Builtin.zeroCells #[z] k = (List.replicate k z).toArray := by
  unfold Builtin.zeroCells
  apply Array.ext
  · simp
  · intro i h1 h2
    simp [Nat.mod_one]

theorem run_append_own_zeros {P : Program} (w : World) (base : Nat) (t tn ty e : TypeId) (i : TypeInfo) (z : Value) (bytes : Nat) (kq kn : IntKind) (ht : P.underlying t = some (.slice e)) (htn : P.underlying tn = some (.int kn)) (hi : P.info? e = some i) (hz : i.zero = some z)
    (hsize : i.size = 1) (hby : i.bytes = bytes) (hzs : z.cells = #[z]) (h1 : z.oneCell' = true)
    (v : Value) (n : Nat) (xs : List Value) (hown : w.ownsRow base e 1 v n xs) (k : Nat)
    (h63 : n + k ≤ maxLen) (hbytes : (n + k) * bytes ≤ 140737488355328) (hbase : base ≤ w.heap.size) :
    ∃ v' w', (Builtin.append_ #[t, tn] ty #[v, .int kq k]).run P w = .ok v' w' ∧ w'.ownsRow base e 1 v' (n + k) (xs ++ List.replicate k z) ∧ w.grownBy w' v.ownBlock := by
  subst hby
  have hsmall : n + k ≤ 9223372036854775807 := by simp only [maxLen] at h63; omega
  have hkb : k * i.bytes ≤ 281474976710656 := by
    have : k * i.bytes ≤ (n + k) * i.bytes := Nat.mul_le_mul_right _ (by omega)
    omega
  have hzl : ∀ m, Builtin.zeroCells z.cells m = (List.replicate m z).toArray := fun m => by rw [hzs]; exact zeroCells_one z m
  have hlen : (xs ++ List.replicate k z).length = (n + k) * 1 := by rw [List.length_append, hown.1, List.length_replicate]; omega
  have hw : IntKind.i64.wrap (k : Int) = k := by rw [IntKind.wrap_i64]; omega
  have hneg : ¬ ((k : Int) < 0) := by omega
  have h48i : ¬ (281474976710656 < (k : Int) * (i.bytes : Int)) := by
    rw [← Int.natCast_mul]
    omega
  have grown : ∀ (old : Nat), old < n + k → ∀ (row : Option Nat),
      (w.drew.alloc (.cells (xs.toArray ++ Builtin.zeroCells z.cells k ++ Builtin.zeroCells z.cells (grownCap w (n + k) old e - (n + k))) e)).ownsRow base e 1
        (.slice (some ⟨w.heap.size, 0, none⟩) (n + k) (grownCap w (n + k) old e)) (n + k) (xs ++ List.replicate k z) ∧
      w.grownBy (w.drew.alloc (.cells (xs.toArray ++ Builtin.zeroCells z.cells k ++ Builtin.zeroCells z.cells (grownCap w (n + k) old e - (n + k))) e)) row := by
    intro old ho row
    have hge := grownCap_ge w (n + k) old e
    have hcm : grownCap w (n + k) old e ≤ maxLen := grownCap_le_maxLen w (n + k) old e h63
    refine ⟨⟨hlen, .inr ⟨w.heap.size, _, _, rfl, hbase, heap_alloc_new w.drew _, hge, hcm, ?_, ?_⟩⟩, ⟨rfl, rfl, rfl, by simp, fun q hq _ => Below.heap_alloc w.drew _ q hq⟩⟩
    · have := hown.1
      simp only [Array.size_append, List.size_toArray, hzl, List.length_replicate]
      omega
    · simp only [Array.toList_append, hzl, List.append_assoc]
      rw [← List.append_assoc, ← hlen]
      exact List.take_left
  rcases hown.2 with ⟨rfl, rfl⟩ | ⟨g, cap, cur, rfl, hbg, hg, hnc, hcm, hcs, htake⟩
  · have hx : xs = [] := List.eq_nil_of_length_eq_zero (by simpa using hown.1)
    subst hx
    by_cases hk : k = 0
    · subst hk
      refine ⟨.slice none 0 0, w, ?_, World.ownsRow_nil w base e 1, ⟨rfl, rfl, rfl, Nat.le_refl _, fun _ _ _ => rfl⟩⟩
      simp [Builtin.append_, run_underlying ht, run_underlying htn, sizeOf, typeInfo, zeroValue, hi, hz, asInt, asIntOf, hsize, IntKind.wrap_i64]
    · have hr := Lib.run_append_nil_zeros (P := P) w t tn ty e i z kq kn ht htn hi hz k (by omega) (by omega) (by omega) hkb
      have hgr := grown 0 (by omega) (Value.ownBlock (.slice none 0 0))
      simp only [Nat.zero_add, List.nil_append, Array.empty_append] at hgr ⊢
      exact ⟨_, _, hr, hgr.1, hgr.2⟩
  · by_cases hroom : n + k ≤ cap
    · have hst := run_storeCells_at P g n e (List.replicate k z) 0 cur w hg (by rw [List.length_replicate]; omega) (by intro u hu; rw [(List.mem_replicate.1 hu).2]; exact h1)
      simp only [Nat.add_zero] at hst
      have hr : (Builtin.append_ #[t, tn] ty #[.slice (some ⟨g, 0, none⟩) n cap, .int kq k]).run P w =
          .ok (.slice (some ⟨g, 0, none⟩) (n + k) cap) (w.setRow g (cur.toList.take n ++ List.replicate k z ++ cur.toList.drop (n + k)).toArray) := by
        by_cases hk : k = 0
        · subst hk
          simp only [List.replicate_zero, List.length_nil, Nat.add_zero] at hst
          simp [Builtin.append_, run_underlying ht, run_underlying htn, sizeOf, typeInfo, zeroValue, hi, hz, asInt, asIntOf, hw, hneg, hroom, hsize, Addr.add_lit, IntKind.wrap_i64, show n ≤ cap from by omega]
          rw [hst]
          simp [Result.andThen]
        · have hz0 : (Builtin.zeroCells z.cells k).toList = List.replicate k z := by rw [hzl]
          rw [List.length_replicate] at hst
          simp [Builtin.append_, run_underlying ht, run_underlying htn, sizeOf, typeInfo, zeroValue, hi, hz, asInt, asIntOf, hw, hneg, h48i, hroom, hsize, hk, Addr.add_lit, hz0, hst]
      refine ⟨_, _, hr, ⟨hlen, .inr ⟨g, cap, _, rfl, hbg, setRow_heap w g cur _ e _ hg, hroom, hcm, ?_, ?_⟩⟩, ⟨rfl, rfl, rfl, by simp, fun k _ hk => setRow_other w g k _ (fun e => hk (by simp [Value.ownBlock, e]))⟩⟩
      · simp only [List.size_toArray, List.length_append, List.length_take, List.length_drop, Array.length_toList, List.length_replicate]
        omega
      · rw [← hlen, ← htake, Nat.mul_one]
        exact List.take_left
    · have holds : ∀ j u, xs[j]? = some u → w.cell? ((⟨g, 0, none⟩ : Addr).add j) = some u := hown.cells (g := g) rfl
      have hf := run_firstCells_some (P := P) w.drew 1 n ⟨g, 0, none⟩ n cap xs hown.1 holds
      have hr := Lib.run_append_grow_zeros (P := P) w t tn ty e i z kq kn ht htn hi hz (some ⟨g, 0, none⟩) n cap xs (by rw [hsize]; exact hf) k (by omega) (by omega) (by omega) (by omega) hkb (growslice_fits (by omega) hbytes)
      have hgr := grown cap (by omega) (Value.ownBlock (.slice (some ⟨g, 0, none⟩) n cap))
      exact ⟨_, _, hr, hgr.1, hgr.2⟩

theorem wpList_append_zeros {P : Program} {w : World} {ops : Array Oper} {rest : List Oper} {o : Oper} {a : Act} {Q : Exit → Act → World → Prop} (hgd : o.guard = none) (s x : Operand) (t tn : TypeId)
    (ho : o.op = .call { callee := .builtin .append, args := #[s, x], argTypes := #[t, tn] })
    (base : Nat) (e : TypeId) (i : TypeInfo) (z : Value) (bytes : Nat) (kq kn : IntKind) (ht : P.underlying t = some (.slice e)) (htn : P.underlying tn = some (.int kn)) (hi : P.info? e = some i) (hz : i.zero = some z)
    (hsize : i.size = 1) (hby : i.bytes = bytes) (hzs : z.cells = #[z]) (h1 : z.oneCell' = true)
    (v : Value) (n : Nat) (xs : List Value) (hs : a.eval s = v) (hown : w.ownsRow base e 1 v n xs) (k : Nat) (hx : a.eval x = .int kq k)
    (h63 : n + k ≤ maxLen) (hbytes : (n + k) * bytes ≤ 140737488355328) (hbase : base ≤ w.heap.size)
    (h : ∀ v' w', w'.ownsRow base e 1 v' (n + k) (xs ++ List.replicate k z) → w.grownBy w' v.ownBlock → wpList P ops Q rest (a.put o.dst v') w') : wpList P ops Q (o :: rest) a w := by
  obtain ⟨v', w', hr, h2, h3⟩ := run_append_own_zeros (P := P) w base t tn o.type e i z bytes kq kn ht htn hi hz hsize hby hzs h1 v n xs hown k h63 hbytes hbase
  exact Lib.wpList_append_run w hgd s x t tn ho v (.int kq k) hs hx v' w' hr (h v' w' h2 h3)

end Go.Proofs.Ytichcdoijieddaa.Az
end

/- What stands behind an opened volume in the laws: kept, still, written. -/
section
set_option linter.unusedVariables false
set_option linter.unusedSimpArgs false
set_option maxHeartbeats 2000000
set_option maxRecDepth 100000
namespace Go.Proofs.Ytichcdoijieddaa.Vs
open Go Go.RowKit
open Go.Proofs.Ytichcdoijieddaa.Ob Go.Proofs.Ytichcdoijieddaa.Ba Go.Proofs.Ytichcdoijieddaa.Ko Go.Proofs.Ytichcdoijieddaa.Ge Go.Proofs.Ytichcdoijieddaa.Oc Go.Proofs.Ytichcdoijieddaa.Pk Go.Proofs.Ytichcdoijieddaa.Su Go.Proofs.Ytichcdoijieddaa.Rf Go.Proofs.Ytichcdoijieddaa.Dv Go.Proofs.Ytichcdoijieddaa.Vo Go.Proofs.Ytichcdoijieddaa.Ra Go.Proofs.Ytichcdoijieddaa.Lo Go.Proofs.Ytichcdoijieddaa.Li Go.Proofs.Ytichcdoijieddaa.Cc

/-- the document's volume at block q, its words beside it -/
structure Sv (w W : World) (q : Nat) (n m s p3 p4 p5 : Int) (A8 : Option Addr) (T c8 : Nat) (L : List Int) : Prop where
  vol : W.heap[q]? = some (.cells #[.int .i64 n, .int .i64 m, .int .i64 s, .int .i64 16, .int .i64 (16 + 8 * m), .int .i64 p3, .int .i64 p4, .int .i64 p5, .slice A8 T c8] 32 (0, 0))
  row : Rk .u64 W A8 L
  below : Below w.heap.size w W
  lo : w.heap.size ≤ q
theorem Sv.keep {w W W' : World} {q : Nat} {n m s p3 p4 p5 : Int} {A8 : Option Addr} {T c8 : Nat} {L : List Int} (h : Sv w W q n m s p3 p4 p5 A8 T c8 L) (hb : Below W.heap.size W W') : Sv w W' q n m s p3 p4 p5 A8 T c8 L :=
  ⟨blk_bl h.vol hb, h.row.below hb, bl_then h.below hb, h.lo⟩
theorem Sv.to {w W W' : World} {q : Nat} {n m s p3 p4 p5 : Int} {A8 : Option Addr} {T c8 : Nat} {L : List Int} {F : List Nat} (h : Sv w W q n m s p3 p4 p5 A8 T c8 L) (hu : Upd F W W') (hF : ∀ k ∈ F, w.heap.size ≤ k ∧ k ≠ q) (hA : ∀ a, A8 = some a → a.block ∉ F) (hL : 1 ≤ L.length) : Sv w W' q n m s p3 p4 p5 A8 T c8 L := by
  refine ⟨hu.blk h.vol (fun hm => (hF _ hm).2 rfl), ?_, h.below.trans (hu.belowB h.below.size (fun k hk => (hF k hk).1)), h.lo⟩
  refine h.row.keep (fun a ha => ?_) hu.size
  obtain ⟨u, hu9⟩ := some_at (l := L) (i := 0) (by omega)
  obtain ⟨a', ha', hlt, -⟩ := h.row 0 u hu9
  rw [ha] at ha'
  cases ha'
  exact hu.block _ hlt (hA a ha)
theorem Sv.grown {w W W' : World} {q : Nat} {n m s p3 p4 p5 : Int} {A8 : Option Addr} {T c8 : Nat} {L : List Int} {row : Option Nat} (h : Sv w W q n m s p3 p4 p5 A8 T c8 L) (hg : W.grownBy W' row) (hr : ∀ k, row = some k → w.heap.size ≤ k ∧ k ≠ q ∧ ∀ a, A8 = some a → a.block ≠ k) (hL : 1 ≤ L.length) : Sv w W' q n m s p3 p4 p5 A8 T c8 L := by
  refine h.to (F := row.toList) ⟨hg.os, hg.tape, hg.output, hg.size, fun k hk hn => hg.block k hk (fun e => hn (by rw [← e]; simp))⟩ ?_ ?_ hL
  · intro k hk
    have := hr k (by simpa using hk)
    exact ⟨this.1, this.2.1⟩
  · intro a ha hm
    exact (hr _ (by simpa using hm)).2.2 a ha rfl

theorem Sv.still {w W : World} {q : Nat} {n m s p3 p4 p5 : Int} {A8 : Option Addr} {T c8 : Nat} {L : List Int} (h : Sv w W q n m s p3 p4 p5 A8 T c8 L) {v b n' m' s' : Nat} {g : Lay} (hv : VolIs W v b n' m' s' (Pm.devOf L) g) (hL : L.length = T) (h1 : 1 ≤ T) :
    Calls Try.prog 9 #[.pointer (some ⟨v, 0, none⟩), .agg #[.int .i64 n, .int .i64 m, .int .i64 s, .int .i64 16, .int .i64 (16 + 8 * m), .int .i64 p3, .int .i64 p4, .int .i64 p5, .slice A8 T c8]] W fun e w' => e = .returned (.bool true) ∧ Below W.heap.size W w' := by
  have hr : Rk .u64 W A8 (Pm.wordsOf (Pm.devOf L)) := by rw [words_devOf]; exact h.row
  have := still_yes hv (las_some hv.dev (by show 1 ≤ L.length; omega)) rfl (c := c8) hr n m s 16 (16 + 8 * m) p3 p4 p5
  rw [show (Pm.devOf L).las.length = T from hL] at this
  exact this

theorem _root_.Go.Proofs.Ytichcdoijieddaa.Vo.VolIs.grown {w w' : World} {v b n m s : Nat} {d : Dev} {g : Lay} {row : Option Nat} (h : VolIs w v b n m s d g) (hg : w.grownBy w' row) (hr : ∀ k, row = some k → k ≠ v ∧ k ∉ g.foot b) : VolIs w' v b n m s d g :=
  h.keep (hg.block v (lt_of h.blk) (fun e => (hr v e.symm).1 rfl)) (fun k hk => hg.block k (h.dev.lt k hk) (fun e => (hr k e.symm).2 hk))

/-- behind a write -/
theorem Sv.wrote {w W : World} {q : Nat} {n m s p3 p4 p5 : Int} {A8 : Option Addr} {T c8 : Nat} {L : List Int} (h : Sv w W q n m s p3 p4 p5 A8 T c8 L) {v b n' m' s' : Nat} {g : Lay} {d : Dev} (hv : VolIs W v b n' m' s' d g) (hL : L.length = T) (h1 : 1 ≤ T) {xs : List Int} (k : Nat)
    (hp : Wp.Pt (Pm.devOf L) d (wput L k xs) xs.length (nline k xs.length)) (hk : k + xs.length ≤ T) {B : Option Addr} {c2 : Nat} (hx : Rk .u64 W B xs) :
    Calls Try.prog 11 #[.pointer (some ⟨v, 0, none⟩), .agg #[.int .i64 n, .int .i64 m, .int .i64 s, .int .i64 16, .int .i64 (16 + 8 * m), .int .i64 p3, .int .i64 p4, .int .i64 p5, .slice A8 T c8], .int .i64 k, .slice B xs.length c2] W fun e w' => e = .returned (.bool true) ∧ Below W.heap.size W w' := by
  have hwr := wrote_yes hv (las_some hv.dev (by rw [hp.las]; show 1 ≤ L.length; omega)) (c := c8) (c2 := c2) h.row hx k (by omega) (by omega) hp.words (by rw [hp.stores]; show 0 + _ = _; omega) (by rw [hp.steps]; show 0 + _ + _ = _; omega) n m s 16 (16 + 8 * m) p3 p4 p5
  rw [hL] at hwr
  exact hwr

theorem conv_rk {W : World} {D : Option Addr} {l : List Nat} (h : Rk .u8 W D (ints l)) (c : Nat) :
    (convert 46 9 (.slice D l.length c)).run Try.prog W = .ok (.string (txt l)) W := by
  cases D with
  | none =>
    have hl : l = [] := by
      cases l with
      | nil => rfl
      | cons x r =>
        obtain ⟨a, e, -⟩ := h 0 x (by simp [ints])
        cases e
    subst hl
    exact run_convert_bytes_nil W 46 5 Try.underlying46 Try.underlying5 0 c 9 Try.underlying9
  | some a =>
    have hl : (loadCells a l.length).run Try.prog W = .ok ((ints l).map (Value.int .u8)).toArray W := by
      have := run_loadCells_list (P := Try.prog) W a ((ints l).map (Value.int .u8)) (fun j v hj => by
        simp only [List.getElem?_map, Option.map_eq_some_iff] at hj
        obtain ⟨z, hz, rfl⟩ := hj
        exact h.at_ hz)
      rw [List.length_map, ints_length] at this
      exact this
    rw [run_convert_bytes_string W 46 9 5 (some a) l.length c Try.underlying46 Try.underlying5 Try.underlying9, run_bytesToString W a l.length c (ints l) hl, foldl_push_bytes]
    simp [txt, strOfNums, ByteArray.empty, ByteArray.emptyWithCapacity]
    rfl

theorem run_append_arg (w : World) (base : Nat) (ty : TypeId) (n : Nat) (xs : List Value) (hown : w.ownsRow base 5 1 (.slice (some ⟨base, 0, none⟩) n n) n xs) {D : Option Addr} {data : List Nat} (hD : Rk .u8 w D (ints data)) (c : Nat) (hn : n + data.length ≤ 1000000) (hbase : base ≤ w.heap.size) :
    ∃ v' w', (Builtin.append_ #[46, 46] ty #[.slice (some ⟨base, 0, none⟩) n n, .slice D data.length c]).run Try.prog w = .ok v' w' ∧ w'.ownsRow base 5 1 v' (n + data.length) (xs ++ ivs .u8 (ints data)) ∧ w.grownBy w' (some base) := by
  obtain ⟨i0, hinf, hz0, hz1, hz2⟩ := info_parts (show (Try.prog.info? 5).map (fun i => (i.zero, i.size, i.bytes)) = some (some (.int .u8 0), 1, 1) by kernel_rfl)
  cases D with
  | none =>
    have hl : data = [] := by
      cases data with
      | nil => rfl
      | cons x r =>
        obtain ⟨a, e, -⟩ := hD 0 x (by simp [ints])
        cases e
    subst hl
    obtain ⟨h1, ⟨h2, _⟩ | ⟨g, cap, cur, hv, hg, hb, hnc, hm, hs, ht⟩⟩ := hown
    · cases h2
    · simp only [Value.slice.injEq, Option.some.injEq, Addr.mk.injEq, and_true, true_and] at hv
      obtain ⟨rfl, rfl⟩ := hv
      have hst : (storeCells ⟨base, n, none⟩ []).run Try.prog w = .ok () w := rfl
      refine ⟨_, w, ?_, ⟨by simpa [ivs, ints] using h1, .inr ⟨base, n, cur, rfl, hg, hb, hnc, hm, hs, by simpa [ivs, ints] using ht⟩⟩, ⟨rfl, rfl, rfl, Nat.le_refl _, fun _ _ _ => rfl⟩⟩
      simp [Builtin.append_, run_underlying Try.underlying46, sizeOf, typeInfo, hinf, Builtin.lenOf, Builtin.firstCells, hz1, Addr.add_lit, hst, Result.andThen]
  | some a =>
    obtain ⟨v', w', h1, h2, h3, -⟩ := run_append_own (P := Try.prog) w base 46 ty 5 i0 (.int .u8 0) 1 1 Try.underlying46 hinf hz0 hz1 hz2 rfl (by decide) _ n xs hown a data.length c (ivs .u8 (ints data)) (by rw [ivs_length, ints_length]; omega)
      (fun j u hj => by
        simp only [ivs, List.getElem?_map, Option.map_eq_some_iff] at hj
        obtain ⟨z, hz, rfl⟩ := hj
        exact hD.at_ hz) (ivs_oneCell _ _) (by unfold maxLen; omega) (by omega) hbase
    exact ⟨v', w', h1, h2, h3⟩

end Go.Proofs.Ytichcdoijieddaa.Vs
end

/- volume.SetBlock, Block. -/
section
set_option linter.unusedVariables false
set_option linter.unusedSimpArgs false
set_option maxHeartbeats 2000000
set_option maxRecDepth 100000
namespace Go.Proofs.Ytichcdoijieddaa.Vo
open Go Go.RowKit
open Go.Proofs.Ytichcdoijieddaa.Ob Go.Proofs.Ytichcdoijieddaa.Ba Go.Proofs.Ytichcdoijieddaa.Oc Go.Proofs.Ytichcdoijieddaa.Pk Go.Proofs.Ytichcdoijieddaa.Dv Go.Proofs.Ytichcdoijieddaa.Su Go.Proofs.Ytichcdoijieddaa.Mp Go.Proofs.Ytichcdoijieddaa.Ge Go.Proofs.Ytichcdoijieddaa.Lo Go.Proofs.Ytichcdoijieddaa.Ko Go.Proofs.Ytichcdoijieddaa.Cc

theorem info_u8 : (Try.prog.info? 5).map (fun i => (i.zero, i.size, i.bytes)) = some (some (.int .u8 0), 1, 1) := by kernel_rfl

theorem gate_builtin {P : Program} {w : World} {ops : Array Oper} {rest : List Oper} {o : Oper} {a : Act} {Q : Exit → Act → World → Prop} {b : Builtin} {xs : Array Operand} {ts : Array TypeId} (_ho : o.op = .call { callee := .builtin b, args := xs, argTypes := ts }) (h : wpList P ops Q (o :: rest) a w) : wpList P ops Q (o :: rest) a w := h

/-- bytes, and noughts behind them -/
def pad (l : List Nat) (s : Nat) : List Nat := l ++ List.replicate (s - l.length) 0
theorem pad_length (l : List Nat) (s : Nat) (h : l.length ≤ s) : (pad l s).length = s := by simp [pad]; omega
theorem pad_lt {l : List Nat} (h : ∀ x ∈ l, x < 256) (s : Nat) : ∀ x ∈ pad l s, x < 256 := by
  intro x hx
  simp only [pad, List.mem_append, List.mem_replicate] at hx
  rcases hx with h1 | ⟨_, rfl⟩
  · exact h x h1
  · decide

theorem setblock_range {w : World} {v b n m s : Nat} {d : Dev} {g : Lay} (h : VolIs w v b n m s d g) (i : Int) (D : Option Addr) (dl dc : Nat) (hi : i < 0 ∨ (n : Int) ≤ i) :
    Calls Try.prog 12 #[.pointer (some ⟨v, 0, none⟩), .int .i64 i, .slice D dl dc] w fun e w' => e = .returned (.int .i64 9) ∧ Below w.heap.size w w' := by
  have hsl := Ge.block_ n m s i h.ok
  rw [plc_no hi] at hsl
  have HS := Lib.hid hsl
  obtain ⟨c0, c1, c2, c3⟩ := h.cells
  clear h hi hsl
  go_enter Try.func12, Try.ntmps12
  go_wp2_with (go_at_call 36; refine (HS.out _).mono ?_; rintro e w1 ⟨rfl, hb⟩; (have HB := Lib.hid hb); clear hb)
  go_ret
  exact ⟨rfl, HB.out⟩

theorem setblock_long {w : World} {v b n m s : Nat} {d : Dev} {g : Lay} (h : VolIs w v b n m s d g) (i : Int) (D : Option Addr) (dl dc : Nat) (hi : 0 ≤ i ∧ i < (n : Int)) (k : Nat) (hk : (k : Int) = bkAt n m + i * ((s : Int) / 8)) (hl : s < dl) :
    Calls Try.prog 12 #[.pointer (some ⟨v, 0, none⟩), .int .i64 i, .slice D dl dc] w fun e w' => e = .returned (.int .i64 1) ∧ Below w.heap.size w w' := by
  have hsl := Ge.block_ n m s i h.ok
  rw [plc_yes hi, ← hk] at hsl
  have HS := Lib.hid hsl
  have HV := Lib.hid h
  obtain ⟨c0, c1, c2, c3⟩ := h.cells
  clear h hi hsl hk
  go_enter Try.func12, Try.ntmps12
  go_wp2_with (go_at_call 36; refine (HS.out _).mono ?_; rintro e w1 ⟨rfl, hb⟩; (obtain ⟨m0, m1, m2, m3⟩ := (HV.out.below hb).cells); (have HB := Lib.hid hb); clear hb m0 m1 m2)
  go_ret
  exact ⟨rfl, HB.out⟩

theorem src_pos {W : World} {D : Option Addr} {data : List Nat} (h : Rk .u8 W D (ints data)) (q : Nat) : 0 < (ivs .u8 (ints data)).length → (some ⟨q, 0, none⟩ : Option Addr) = some ⟨q, 0, none⟩ ∧ ∃ ad, D = some ad ∧ ∀ j v, (ivs .u8 (ints data))[j]? = some v → W.cell? (ad.add j) = some v := by
  intro hp
  rw [ivs_length] at hp
  obtain ⟨x, hx⟩ := some_at hp
  obtain ⟨a, rfl, -, -⟩ := h 0 x hx
  refine ⟨rfl, a, rfl, fun j v hj => ?_⟩
  simp only [ivs, List.getElem?_map, Option.map_eq_some_iff] at hj
  obtain ⟨z, hz, rfl⟩ := hj
  exact h.at_ hz

theorem setblock_yes {w : World} {v b n m s : Nat} {d : Dev} {g : Lay} (h : VolIs w v b n m s d g) (hst : d.steps ≤ 1000000000) (i : Int) {D : Option Addr} {data : List Nat} (hD : Rk .u8 w D (ints data)) (hdl : ∀ x ∈ data, x < 256) (dc : Nat) (hi : 0 ≤ i ∧ i < (n : Int)) (k : Nat) (hk : (k : Int) = bkAt n m + i * ((s : Int) / 8)) (hk9 : k ≤ 1000000000) (hl : data.length ≤ s) (hs9 : s ≤ 65536)
    (R : Dev × Option Nat) (hR : putGo true (ints (wds (pad data s))) k ⟨d, 0, []⟩ = R) :
    Calls Try.prog 12 #[.pointer (some ⟨v, 0, none⟩), .int .i64 i, .slice D data.length dc] w fun e w' => e = .returned (.int .i64 (ecode R)) ∧ DevTo w w' b g R.1 := by
  have hsl := Ge.block_ n m s i h.ok
  rw [plc_yes hi, ← hk] at hsl
  have HS := Lib.hid hsl
  have HV := Lib.hid h
  have HD := Lib.hid hD
  have HST := Lib.hid hst
  have HR := Lib.hid hR
  have HPL := Lib.hid (pad_lt hdl s)
  have HPN := Lib.hid (pad_length data s hl)
  have HSP : Hid (splice (List.replicate s (Value.int .u8 0)) 0 (ivs .u8 (ints data)) = ivs .u8 (ints (pad data s))) := by
    show _ = _
    unfold splice pad
    rw [ints_append, ivs_append, ivs_length, ints_length]
    simp [ivs, ints]
  have HCS : Hid ((ivs .u8 (ints data)).length = data.length) := by show _ = _; rw [ivs_length, ints_length]
  generalize pad data s = P at *
  obtain ⟨len, hlen⟩ : ∃ len, len = data.length := ⟨_, rfl⟩
  rw [← hlen] at hl HCS
  rw [← hlen]
  obtain ⟨c0, c1, c2, c3⟩ := h.cells
  clear h hi hsl hk hst hR hdl hD hlen
  go_enter Try.func12, Try.ntmps12
  go_wp2_with (first | (go_at_call 36; refine (HS.out _).mono ?_; rintro e w1 ⟨rfl, hb⟩; (obtain ⟨m0, m1, m2, m3⟩ := (HV.out.below hb).cells); (have HB := Lib.hid hb); (have HV1 := Lib.hid (HV.out.below hb)); clear hb m0 m1 m2) |
    (at_make; refine Go.Proofs.Ytichcdoijieddaa.Wl.wpl_make rfl _ 46 5 rfl (.int .u8 0) 1 Try.underlying46 info_u8 rfl s .i64 _ rfl rfl (by omega) (by omega) ?_) |
    ((with_reducible refine gate_builtin (b := .copy) (xs := #[.tmp 35, .tmp 36]) rfl ?_); refine wpList_copy_splice rfl (.tmp 35) (.tmp 36) 46 46 rfl 5 Try.underlying46 (by kernel_rfl) (some ⟨w1.heap.size, 0, none⟩) D s s len dc rfl rfl w1.heap.size 0 (List.replicate s (.int .u8 0)) 5 (by rw [List.toArray_replicate]; exact alloc_new _ _) (ivs .u8 (ints data)) (by rw [HCS.out]; exact (Nat.min_eq_left hl).symm) (src_pos (HD.out.below (bl_alloc HB.out _)) _) (by rw [HCS.out, List.length_replicate]; omega) (ivs_oneCell _ _) w.heap.size w (bl_alloc HB.out _) HB.out.size ?_; intro w2 hg2 hb2; (have HG2 := Lib.hid hg2.out); (have HB2 := Lib.hid hb2); clear hg2 hb2))
  have hV2 := HV.out.below HB2.out
  have m0 := hV2.cells.1
  have hrow : Rk .u8 w2 (some ⟨w1.heap.size, 0, none⟩) (ints P) := by
    have hh := HG2.out
    rw [HSP.out] at hh
    exact blk_rk hh (fun j x hx => by simpa using ivs_get (k := .u8) hx)
  have HROW := Lib.hid hrow
  have HV2 := Lib.hid hV2
  have HWS : Hid (∀ {W : World}, Below w2.heap.size w2 W → Calls Try.prog 37 #[.slice (some ⟨w1.heap.size, 0, none⟩) s s] W fun e w' => ∃ v, e = .returned v ∧ w'.ownsRow W.heap.size 35 1 v (wds P).length (ivs .u64 (ints (wds P))) ∧ Below W.heap.size W w') := fun {W} hb => by
    have := Pk.words_ (HROW.out.below hb) HPL.out s (by rw [HPN.out]; omega)
    rw [HPN.out] at this
    exact this
  have HPT : Hid (∀ {W : World} {A : Option Addr} {c : Nat}, Below w2.heap.size w2 W → Rk .u64 W A (ints (wds P)) → (∀ p, A = some p → w2.heap.size ≤ p.block) → Calls Try.prog 29 #[.agg #[.pointer (some ⟨b, 0, none⟩)], .int .i64 k, .slice A (wds P).length c, .bool true] W fun e w' => PutIs W b g R e w') := fun {W A c} hb hr hA => by
    have := put_all (HV2.out.below hb).dev hr (fun p hp hm => by have := hA p hp; have := HV2.out.dev.lt _ hm; omega) k c hk9 (by rw [ints_length, wds_len, HPN.out]; omega) HST.out R HR.out
    rw [ints_length] at this
    exact this
  clear hV2 hrow m3
  generalize (wds P).length = wl at *
  go_region_held3 (fun w' => w'.cell? ⟨v, 0, none⟩ = some (.pointer (some ⟨b, 0, none⟩)))
    (first | assumption)
    (first | (go_at_call 37; refine (HWS.out (bl_drew (Below.refl _ _))).mono ?_; rintro e w3 ⟨v3, rfl, hown, hb3⟩; (obtain ⟨A3, c3, rfl⟩ := own_slice hown); (have n0 := (HV2.out.below (bl_then (bl_drew (Below.refl _ _)) hb3)).cells.1); (have HB3 := Lib.hid (bl_then (w1 := w2.drew) (bl_drew (Below.refl _ _)) hb3)); (have HR3 := Lib.hid (own_rk (k := .u64) hown).1); (have HA3 : Hid (∀ p, A3 = some p → w2.heap.size ≤ p.block) := fun p hp => own_lo hown _ (by rw [hp]; rfl)); clear hown hb3) |
      (go_at_call 29; refine (HPT.out HB3.out HR3.out HA3.out).mono ?_; rintro e w4 ⟨rfl, hto⟩; (have n4 : w4.cell? ⟨v, 0, none⟩ = some (.pointer (some ⟨b, 0, none⟩)) := by (obtain ⟨g4, q1, q2, q3⟩ := hto; exact cell_of (q3.blk (HV2.out.below HB3.out).blk HV2.out.apart) 0)); (have HTO := Lib.hid hto); clear hto))
  go_wp2
  go_ret
  refine ⟨rfl, ?_⟩
  obtain ⟨g4, q1, q2, q3⟩ := HTO.out
  have hbb := HB2.out.trans (HB3.out.mono HB2.out.size)
  refine ⟨g4, q1, fun u hu => ?_, (Upd.of_below (F := g.foot b) hbb).trans q3 (fun u hu => .inl hu)⟩
  rcases q2 u hu with r | r
  · exact .inl r
  · exact .inr (Nat.le_trans hbb.size r)

end Go.Proofs.Ytichcdoijieddaa.Vo
end

/- volume.Block. -/
section
set_option linter.unusedVariables false
set_option linter.unusedSimpArgs false
set_option maxHeartbeats 2000000
set_option maxRecDepth 100000
namespace Go.Proofs.Ytichcdoijieddaa.Vo
open Go Go.RowKit
open Go.Proofs.Ytichcdoijieddaa.Ob Go.Proofs.Ytichcdoijieddaa.Ba Go.Proofs.Ytichcdoijieddaa.Oc Go.Proofs.Ytichcdoijieddaa.Pk Go.Proofs.Ytichcdoijieddaa.Dv Go.Proofs.Ytichcdoijieddaa.Su Go.Proofs.Ytichcdoijieddaa.Mp Go.Proofs.Ytichcdoijieddaa.Ge Go.Proofs.Ytichcdoijieddaa.Lo Go.Proofs.Ytichcdoijieddaa.Ko Go.Proofs.Ytichcdoijieddaa.Cc

theorem block_out {w : World} {v b n m s : Nat} {d : Dev} {g : Lay} (h : VolIs w v b n m s d g) (i : Int) (hi : i < 0 ∨ (n : Int) ≤ i) :
    Calls Try.prog 13 #[.pointer (some ⟨v, 0, none⟩), .int .i64 i] w fun e w' => e = .returned (.tuple #[.slice none 0 0, .int .i64 9]) ∧ Below w.heap.size w w' := by
  have hsl := Ge.block_ n m s i h.ok
  rw [plc_no hi] at hsl
  have HS := Lib.hid hsl
  obtain ⟨c0, c1, c2, c3⟩ := h.cells
  clear h hi hsl
  go_enter Try.func13, Try.ntmps13
  go_wp2_with (go_at_call 36; refine (HS.out _).mono ?_; rintro e w1 ⟨rfl, hb⟩; (have HB := Lib.hid hb); clear hb)
  go_ret2
  exact ⟨rfl, HB.out⟩

/-- a block that is there -/
structure Sz (v : Nat) (W : World) : Prop where
  lt : v < W.heap.size
theorem vk_keep {W W' : World} {v b n m s : Nat} (h : W.cell? ⟨v, 0, none⟩ = some (.pointer (some ⟨b, 0, none⟩)) ∧ W.cell? ⟨v, 1, none⟩ = some (.int .i64 n) ∧ W.cell? ⟨v, 2, none⟩ = some (.int .i64 m) ∧ W.cell? ⟨v, 3, none⟩ = some (.int .i64 s) ∧ Sz v W) (hb : Below W.heap.size W W') :
    W'.cell? ⟨v, 0, none⟩ = some (.pointer (some ⟨b, 0, none⟩)) ∧ W'.cell? ⟨v, 1, none⟩ = some (.int .i64 n) ∧ W'.cell? ⟨v, 2, none⟩ = some (.int .i64 m) ∧ W'.cell? ⟨v, 3, none⟩ = some (.int .i64 s) ∧ Sz v W' := by
  obtain ⟨h0, h1, h2, h3, ⟨h4⟩⟩ := h
  exact ⟨(hb.cell (p := ⟨v, 0, none⟩) h4).trans h0, (hb.cell (p := ⟨v, 1, none⟩) h4).trans h1, (hb.cell (p := ⟨v, 2, none⟩) h4).trans h2, (hb.cell (p := ⟨v, 3, none⟩) h4).trans h3, ⟨Nat.lt_of_lt_of_le h4 hb.size⟩⟩

theorem block_get {w : World} {v b n m s : Nat} {d : Dev} {g : Lay} (h : VolIs w v b n m s d g) (i : Int) (hi : 0 ≤ i ∧ i < (n : Int)) (k : Nat) (hk : (k : Int) = bkAt n m + i * ((s : Int) / 8)) (hk9 : k ≤ 1000000000) (ws : List Nat) (hw : lds d k ws.length = ints ws) (hws : ∀ x ∈ ws, x < 18446744073709551616) (hl : (ws.length : Int) = (s : Int) / 8) (hl9 : ws.length ≤ 1000000) :
    Calls Try.prog 13 #[.pointer (some ⟨v, 0, none⟩), .int .i64 i] w fun e w' => ∃ v', e = .returned (.tuple #[v', .int .i64 0]) ∧ w'.ownsRow w.heap.size 5 1 v' (8 * ws.length) (ivs .u8 (ints (octs ws))) ∧ Below w.heap.size w w' := by
  have hsl := Ge.block_ n m s i h.ok
  rw [plc_yes hi, ← hk] at hsl
  have HS := Lib.hid hsl
  have HEA : Hid (∀ W, Calls Try.prog 40 #[.agg #[.int .i64 n, .int .i64 m, .int .i64 s]] W fun e w' => e = .returned (.int .i64 (ws.length : Nat)) ∧ Below W.heap.size W w') := fun W => by
    have := Ge.each_ n m s h.ok W
    rw [← hl] at this
    exact this
  have HV := Lib.hid h
  have HLN : Hid (∀ {W : World}, Below w.heap.size w W → _) := fun {W} hb => line_ (h.dev.below hb) k ws.length hk9 hl9
  rw [hw] at HLN
  have HBY : Hid (∀ {W : World} {A : Option Addr} {c : Nat}, Rk .u64 W A (ints ws) → _) := fun {W A c} hr => bytes_ hr hws c (by omega)
  obtain ⟨len, hlen⟩ : ∃ len, len = ws.length := ⟨_, rfl⟩
  rw [← hlen] at HEA HLN HBY hl9
  rw [← hlen]
  obtain ⟨c0, c1, c2, c3⟩ := h.cells
  clear h hi hsl hk hw hws hl hlen
  go_enter Try.func13, Try.ntmps13
  go_wp2_with (go_at_call 36; refine (HS.out _).mono ?_; rintro e w1 ⟨rfl, hb⟩; (have HB := Lib.hid hb); (have HV1 := Lib.hid (HV.out.below hb)); clear hb)
  obtain ⟨m0, m1, m2, m3⟩ := HV1.out.cells
  have hvl : Sz v w1 := ⟨lt_of HV1.out.blk⟩
  have hvd : Sz v w1.drew := ⟨lt_of HV1.out.blk⟩
  have hst : w1.drew.cell? ⟨v, 0, none⟩ = some (.pointer (some ⟨b, 0, none⟩)) ∧ w1.drew.cell? ⟨v, 1, none⟩ = some (.int .i64 n) ∧ w1.drew.cell? ⟨v, 2, none⟩ = some (.int .i64 m) ∧ w1.drew.cell? ⟨v, 3, none⟩ = some (.int .i64 s) ∧ Sz v w1.drew := ⟨m0, m1, m2, m3, hvd⟩
  have HST := Lib.hid hst
  clear hst hvl hvd
  clear m0 m1 m2 m3
  go_region_held3 (fun w' => w'.cell? ⟨v, 0, none⟩ = some (.pointer (some ⟨b, 0, none⟩)) ∧ w'.cell? ⟨v, 1, none⟩ = some (.int .i64 n) ∧ w'.cell? ⟨v, 2, none⟩ = some (.int .i64 m) ∧ w'.cell? ⟨v, 3, none⟩ = some (.int .i64 s) ∧ Sz v w')
    (first | assumption | exact HST.out | exact vk_keep ‹_› ‹_›)
    (first | (go_at_call 40; refine (HEA.out _).mono ?_; rintro e w2 ⟨rfl, hb2⟩; (have HB2 := Lib.hid (bl_then HB.out (bl_then (w1 := w1.drew) (bl_drew (Below.refl _ _)) hb2)))) |
      (go_at_call 39; refine (HLN.out HB2.out).mono ?_; rintro e w3 ⟨v3, rfl, hown, hb3⟩; (obtain ⟨A3, c3, rfl⟩ := own_slice hown); (have HB3 := Lib.hid (bl_then HB2.out hb3)); (have HR3 := Lib.hid (own_rk (k := .u64) hown).1); clear hown) |
      (go_at_call 38; refine (HBY.out HR3.out).mono ?_; rintro e w4 ⟨v4, rfl, hown, hb4⟩; (obtain ⟨A4, c4, rfl⟩ := own_slice hown); (have HB4 := Lib.hid (bl_then HB3.out hb4)); (have HO4 := Lib.hid (own_base hown HB3.out.size)); clear hown))
  go_wp2
  go_ret2
  exact ⟨_, rfl, HO4.out, HB4.out⟩

end Go.Proofs.Ytichcdoijieddaa.Vo
end

/- Words and bytes there and back; words put and read again (plain). -/
section
set_option linter.unusedVariables false
set_option linter.unusedSimpArgs false
namespace Go.Proofs.Ytichcdoijieddaa.Vh
open Go Go.RowKit
open Go.Proofs.Ytichcdoijieddaa.Ob Go.Proofs.Ytichcdoijieddaa.Ba Go.Proofs.Ytichcdoijieddaa.Oc Go.Proofs.Ytichcdoijieddaa.Pk Go.Proofs.Ytichcdoijieddaa.Rf Go.Proofs.Ytichcdoijieddaa.Dv Go.Proofs.Ytichcdoijieddaa.Vo Go.Proofs.Ytichcdoijieddaa.Cc

theorem octs_get (l : List Nat) (q r x : Nat) (hr : r < 8) (hx : l[q]? = some x) : (octs l)[8 * q + r]? = some (x / 256 ^ r % 256) := by
  induction l generalizing q with
  | nil => simp at hx
  | cons a l ih =>
    have e : octs (a :: l) = oct a ++ octs l := rfl
    rw [e]
    cases q with
    | zero =>
      simp at hx
      subst hx
      rw [List.getElem?_append_left (by simp [oct]; omega)]
      simp [oct, hr]
    | succ q =>
      rw [List.getElem?_cons_succ] at hx
      rw [List.getElem?_append_right (by simp [oct]; omega)]
      have := ih q hx
      rw [show 8 * (q + 1) + r - (oct a).length = 8 * q + r from by simp [oct]; omega]
      exact this
theorem digit (b : List Nat) (h : ∀ x ∈ b, x < 256) (q r : Nat) (hr : r < 8) : wd8 b q / 256 ^ r % 256 = by_ b q r := by
  have h0 := by_lt h q 0
  have h1 := by_lt h q 1
  have h2 := by_lt h q 2
  have h3 := by_lt h q 3
  have h4 := by_lt h q 4
  have h5 := by_lt h q 5
  have h6 := by_lt h q 6
  have h7 := by_lt h q 7
  unfold wd8
  match r, hr with
  | 0, _ => omega
  | 1, _ => rw [show (256 : Nat) ^ 1 = 256 from rfl]; omega
  | 2, _ => rw [show (256 : Nat) ^ 2 = 65536 from rfl]; omega
  | 3, _ => rw [show (256 : Nat) ^ 3 = 16777216 from rfl]; omega
  | 4, _ => rw [show (256 : Nat) ^ 4 = 4294967296 from rfl]; omega
  | 5, _ => rw [show (256 : Nat) ^ 5 = 1099511627776 from rfl]; omega
  | 6, _ => rw [show (256 : Nat) ^ 6 = 281474976710656 from rfl]; omega
  | 7, _ => rw [show (256 : Nat) ^ 7 = 72057594037927936 from rfl]; omega
theorem octs_wds (b : List Nat) (h : ∀ x ∈ b, x < 256) (h8 : b.length % 8 = 0) : octs (wds b) = b := by
  apply List.ext_getElem?
  intro i
  by_cases hi : i < b.length
  · obtain ⟨q, r, hqr, hr⟩ : ∃ q r, i = 8 * q + r ∧ r < 8 := ⟨i / 8, i % 8, by omega, by omega⟩
    subst hqr
    rw [octs_get (wds b) q r (wd8 b q) hr (by rw [wds_get, if_pos (by omega)]), digit b h q r hr]
    unfold by_
    rw [List.getD_eq_getElem?_getD, List.getElem?_eq_getElem hi]
    rfl
  · rw [List.getElem?_eq_none (by rw [octs_length, wds_len]; omega), List.getElem?_eq_none (by omega)]
theorem wds_lt {b : List Nat} (h : ∀ x ∈ b, x < 256) : ∀ x ∈ wds b, x < 18446744073709551616 := by
  intro x hx
  simp only [wds, List.mem_map] at hx
  obtain ⟨i, _, rfl⟩ := hx
  exact wd8_lt h i

theorem wput_get (L : List Int) (k : Nat) (xs : List Int) (hk : k + xs.length ≤ L.length) (j : Nat) : (wput L k xs)[j]? = if k ≤ j ∧ j < k + xs.length then xs[j - k]? else L[j]? := by
  induction xs generalizing L k with
  | nil => rw [if_neg (by simp only [List.length_nil]; omega)]; rfl
  | cons x r ih =>
    show (wput (L.set k x) (k + 1) r)[j]? = _
    rw [ih (L.set k x) (k + 1) (by simp at hk ⊢; omega)]
    by_cases h1 : k + 1 ≤ j ∧ j < k + 1 + r.length
    · rw [if_pos h1, if_pos (by simp; omega)]
      rw [show j - k = (j - (k + 1)) + 1 from by omega, List.getElem?_cons_succ]
    · rw [if_neg h1]
      by_cases h2 : j = k
      · subst h2
        rw [if_pos (by simp), Nat.sub_self, List.getElem?_set_self (by simp at hk; omega)]
        rfl
      · rw [if_neg (by simp; omega), List.getElem?_set_ne (by omega)]
theorem lds_wput {d : Dev} {L : List Int} {k : Nat} {xs : List Int} (hw : Pm.wordsOf d = wput L k xs) (hk : k + xs.length ≤ L.length) : lds d k xs.length = xs := by
  have hlen : d.las.length = L.length := by
    have := congrArg List.length hw
    rw [Pm.wordsOf_length, wput_length] at this
    exact this
  apply List.ext_getElem?
  intro i
  by_cases hi : i < xs.length
  · unfold lds
    rw [List.getElem?_map, List.getElem?_range hi]
    have h1 := Pm.wordsOf_get d (k + i) (by omega)
    rw [hw, wput_get L k xs hk, if_pos (by omega), show k + i - k = i from by omega] at h1
    rw [h1]
    rfl
  · rw [List.getElem?_eq_none (by rw [lds_length]; omega), List.getElem?_eq_none (by omega)]

end Go.Proofs.Ytichcdoijieddaa.Vh
end

/- The document's words of bytes (cantleref03.Words). -/
section
set_option linter.unusedVariables false
set_option linter.unusedSimpArgs false
set_option maxHeartbeats 2000000
set_option maxRecDepth 100000
namespace Go.Proofs.Ytichcdoijieddaa.Rm
open Go Go.RowKit
open Go.Proofs.Ytichcdoijieddaa.Ob Go.Proofs.Ytichcdoijieddaa.Ba Go.Proofs.Ytichcdoijieddaa.Oc Go.Proofs.Ytichcdoijieddaa.Pk Go.Proofs.Ytichcdoijieddaa.Cc

/-- a word, its first bytes yet to come -/
def hv (b : List Nat) (q : Nat) : Nat → Nat
  | 0 => 0
  | j + 1 => 256 * hv b q j + by_ b q (7 - j)
theorem hv_lt {b : List Nat} (h : ∀ x ∈ b, x < 256) (q : Nat) : ∀ j, hv b q j < 256 ^ j
  | 0 => by show 0 < 1; decide
  | j + 1 => by
    have h1 := hv_lt h q j
    have h2 := by_lt h q (7 - j)
    show 256 * hv b q j + by_ b q (7 - j) < 256 ^ (j + 1)
    rw [Nat.pow_succ]
    omega
theorem hv8 (b : List Nat) (q : Nat) : hv b q 8 = wd8 b q := by
  show 256 * (256 * (256 * (256 * (256 * (256 * (256 * (256 * 0 + by_ b q 7) + by_ b q 6) + by_ b q 5) + by_ b q 4) + by_ b q 3) + by_ b q 2) + by_ b q 1) + by_ b q 0 = _
  unfold wd8
  omega

set_option maxHeartbeats 4000000 in
theorem rwords_ {l : List Nat} (hl : ∀ x ∈ l, x < 256) (hn : l.length ≤ 1000000) (w : World) :
    Calls Try.prog 14 #[.string (txt l)] w fun e w' => ∃ v, e = .returned v ∧ w'.ownsRow w.heap.size 35 1 v (wds l).length (ivs .u64 (ints (wds l))) ∧ Below w.heap.size w w' := by
  have HL := Lib.hid hl
  have hsz := txt_size l
  have HIX : Hid (∀ {i x : Nat} (hx : l[i]? = some x) (w : World), (Instr.index 9 (.string (txt l)) (.int .i64 (i : Int))).run Try.prog w = .ok (.int .u8 x) w) := fun hx w => index_txt 9 Try.underlying9 hl hx w
  have HHV := Lib.hid (hv_lt hl)
  generalize txt l = S at *
  obtain ⟨n, hnn⟩ : ∃ n, n = l.length := ⟨_, rfl⟩
  rw [← hnn] at hsz hn
  have HN := Lib.hid hnn
  have HWL : Hid ((wds l).length = (n + 7) / 8) := by show _ = _; rw [wds_len, hnn]
  obtain ⟨i0, hinf, hz0, hz1, hz2⟩ := info_parts info_u64
  clear hl hnn
  go_enter Try.func14, Try.ntmps14
  go_wp2_with fail
  go_loopw [4, 3] (fun c4 c3 wr => ∃ q : Nat, q ≤ (n + 7) / 8 ∧ c4 = .int .i64 ((8 * q : Nat) : Int) ∧ Hid (Below w.heap.size w wr ∧ wr.ownsRow w.heap.size 35 1 c3 q (ivs .u64 (ints ((wds l).take q))))) (fun c4 _ _ => n + 8 - (intOf c4).toNat)
  case atStart => exact ⟨0, Nat.zero_le _, rfl, Below.refl _ _, own_nil0 _ _ _ _⟩
  case round =>
    obtain ⟨q, hq, rfl, HR⟩ := hrel
    generalize wr = wA at *
    by_cases hlt : 8 * q < n
    · go_wp2_with fail
      go_loopw [6, 5] (fun c6 c5 wq => ∃ k : Int, ∃ x : Nat, -1 ≤ k ∧ k ≤ 7 ∧ c6 = .int .i64 k ∧ c5 = .int .u64 x ∧ x < 18446744073709551616 ∧ Hid (x = hv l q (7 - k).toNat ∧ wq = wA)) (fun c6 _ _ => (intOf c6 + 1).toNat)
      case atStart => exact ⟨7, 0, by decide, by decide, rfl, rfl, by decide, rfl, rfl⟩
      case round =>
        obtain ⟨k, x, hk0, hk7, rfl, rfl, hx9, HX0⟩ := hrel
        obtain ⟨hxx, hww⟩ := HX0.out
        subst hww
        have HX := Lib.hid hxx
        clear HX0 hxx
        by_cases hk : 0 ≤ k
        · obtain ⟨kk, rfl⟩ : ∃ kk : Nat, k = kk := ⟨k.toNat, by omega⟩
          have hkk : kk ≤ 7 := by omega
          have hx56 : x < 72057594037927936 := by
            rw [HX.out, show (7 - (kk : Int)).toNat = 7 - kk from by omega]
            exact Nat.lt_of_lt_of_le (HHV.out q _) (Nat.pow_le_pow_right (by decide) (show 7 - kk ≤ 7 from by omega))
          have HNX : Hid (hv l q (7 - ((kk : Int) - 1)).toNat = 256 * x + by_ l q kk) := by
            show _ = _
            rw [show (7 - ((kk : Int) - 1)).toNat = (7 - kk) + 1 from by omega]
            show 256 * hv l q (7 - kk) + by_ l q (7 - (7 - kk)) = _
            rw [show 7 - (7 - kk) = kk from by omega, HX.out, show (7 - (kk : Int)).toNat = 7 - kk from by omega]
          by_cases hin : 8 * q + kk < n
          · obtain ⟨y, hy⟩ := some_at (l := l) (i := 8 * q + kk) (by rw [← HN.out]; exact hin)
            have hix : (Instr.index 9 (.string S) (.int .i64 (8 * (q : Int) + (kk : Int)))).run Try.prog wr = .ok (.int .u8 y) wr := by
              have := HIX.out hy wr
              rwa [show ((8 * q + kk : Nat) : Int) = 8 * (q : Int) + (kk : Int) from by omega] at this
            have hy9 := HL.out y (List.mem_of_getElem? hy)
            have HY : Hid (by_ l q kk = y) := by show _ = _; unfold by_; rw [List.getD_eq_getElem?_getD, hy]; rfl
            clear hy
            go_wp2_with fail
            go_roundw
            case rel => exact ⟨(kk : Int) - 1, 256 * x + y, by omega, by omega, by go_num, by go_num, by omega, by show _ = _; rw [HNX.out, HY.out], trivial⟩
            case measure => first | (simp [intOf]; done) | (simp [intOf]; omega)
          · have HY : Hid (by_ l q kk = 0) := by show _ = _; unfold by_; rw [List.getD_eq_getElem?_getD, List.getElem?_eq_none (by rw [← HN.out]; omega)]; rfl
            go_wp2_with fail
            go_roundw
            case rel => exact ⟨(kk : Int) - 1, 256 * x, by omega, by omega, by go_num, by go_num, by omega, by show _ = _; rw [HNX.out, HY.out]; rfl, trivial⟩
            case measure => first | (simp [intOf]; done) | (simp [intOf]; omega)
        · obtain rfl : k = -1 := by omega
          have HXW : Hid ((wds l).take (q + 1) = (wds l).take q ++ [x]) := by
            show _ = _
            have h1 : (wds l)[q]? = some x := by
              rw [wds_get, if_pos (by rw [← HN.out]; omega), HX.out]
              rw [show (7 - (-1 : Int)).toNat = 8 from rfl, hv8]
            exact take_next h1
          have HOW := Lib.hid (fun o => own_kp (W' := wr.alloc o) HR.out.2 (fun k _ hk => Below.heap_alloc _ _ k hk))
          go_wp2_with (at_builtin; refine wpList_append_own _ rfl (.tmp 33) (.tmp 35) 22 rfl w.heap.size 35 i0 (.int .u64 0) 1 8 Try.underlying22 hinf hz0 hz1 hz2 rfl (by decide) _ q _ rfl (HOW.out _) ⟨wr.heap.size, 0, none⟩ 1 1 [.int .u64 x] rfl rfl (one_at _ _ _) (by intro u hu; simp at hu; subst hu; rfl) (by unfold maxLen; omega) (by omega) (by have h1 := HR.out.1.size; simp; omega) ?_; intro v' w7 hown' hgrow _; (have HO := Lib.hid hown'); (have HG := Lib.hid hgrow); clear hown' hgrow)
          go_roundw
          case rel =>
            refine ⟨q + 1, by omega, by go_num, bl_grown (bl_alloc HR.out.1 _) HG.out (own_lo HR.out.2), ?_⟩
            rw [HXW.out, ints_append, ivs_append]
            exact HO.out
          case measure => first | (simp [intOf]; done) | (simp [intOf]; omega)
    · go_wp2_with fail
      go_ret
      have hqe : q = (wds l).length := by rw [HWL.out]; omega
      have h2 := HR.out.2
      rw [hqe, List.take_length] at h2
      exact ⟨_, rfl, h2, HR.out.1⟩

end Go.Proofs.Ytichcdoijieddaa.Rm
end
