/- A device's words, as they are seen: plain, and what a round of the loop keeps. -/
import Derived.Test.YtlokklfkiechdaaPmR
set_option linter.unusedVariables false
set_option linter.unusedSimpArgs false
set_option maxHeartbeats 1000000
namespace Go.Proofs.Ytlokklfkiechdaa.Pm
open Go Go.RowKit
open Go.ChangeMaps (setBlock)
open Go.Proofs.Ytlokklfkiechdaa.Ob Go.Proofs.Ytlokklfkiechdaa.Mp Go.Proofs.Ytlokklfkiechdaa.Dv Go.Proofs.Ytlokklfkiechdaa.Wl

def lastOf (p : Pen) : Int := p.l.getD (p.l.length - 1) 0
/-- what is seen of a device -/
def wordsOf (d : Dev) : List Int := d.las.mapIdx fun i x => match d.find (i : Int) with | some p => lastOf p | none => x
theorem wordsOf_length (d : Dev) : (wordsOf d).length = d.las.length := by simp [wordsOf]
theorem wordsOf_get (d : Dev) (i : Nat) (h : i < d.las.length) : (wordsOf d)[i]? = some (d.load (i : Int)) := by
  unfold wordsOf
  rw [List.getElem?_mapIdx, List.getElem?_eq_getElem h]
  simp only [Option.map_some, Option.some.injEq, Dev.load]
  cases d.find (i : Int) with
  | some p => rfl
  | none =>
    have : d.inn (i : Int) = true := by simp [Dev.inn, h]
    simp [Dev.lasting, this, h]
theorem wordsOf_eq (d : Dev) : wordsOf d = (List.range d.las.length).map fun i : Nat => d.load (i : Int) := by
  apply List.ext_getElem?
  intro i
  by_cases h : i < d.las.length
  · rw [wordsOf_get d i h, List.getElem?_map, List.getElem?_range h]; rfl
  · rw [List.getElem?_eq_none (by rw [wordsOf_length]; omega), List.getElem?_eq_none (by simp; omega)]

/-- .. when some entries have come -/
def wo (es : List Ent) (seen : Array Nat) (las : List Int) : List Int := las.mapIdx fun i x => match es.find? (fun y => decide (y.key = (i : Int))) with | some y => if y.born ∈ seen then lastOf y.pen else x | none => x

theorem wo_length (es : List Ent) (seen : Array Nat) (las : List Int) : (wo es seen las).length = las.length := by simp [wo]
theorem find_ents {d : Dev} {g : Lay} (ho : d.opn = g.es.map fun x => (x.key, x.pen)) (k : Int) : d.find k = (g.es.find? fun y => decide (y.key = k)).map (·.pen) := by
  unfold Dev.find
  rw [ho, List.find?_map, Option.map_map]
  rfl
theorem wo_start (es : List Ent) (las : List Int) : wo es #[] las = las := by
  unfold wo
  apply List.ext_getElem?
  intro i
  rw [List.getElem?_mapIdx]
  cases las[i]? with
  | none => rfl
  | some x =>
    simp only [Option.map_some, Option.some.injEq]
    cases es.find? (fun y => decide (y.key = (i : Int))) <;> simp
theorem wo_end {d : Dev} {g : Lay} {seen : Array Nat} (ho : d.opn = g.es.map fun x => (x.key, x.pen)) (h : ∀ y ∈ g.es, y.born ∈ seen) : wo g.es seen d.las = wordsOf d := by
  unfold wo wordsOf
  apply List.ext_getElem?
  intro i
  rw [List.getElem?_mapIdx, List.getElem?_mapIdx]
  cases d.las[i]? with
  | none => rfl
  | some x =>
    simp only [Option.map_some, Option.some.injEq]
    rw [find_ents ho]
    cases hf : g.es.find? (fun y => decide (y.key = (i : Int))) with
    | none => rfl
    | some y => simp [h y (List.mem_of_find?_eq_some hf)]
theorem inj_born {es : List Ent} (hb : (es.map (·.born)).Nodup) {x y : Ent} (hx : x ∈ es) (hy : y ∈ es) (e : x.born = y.born) : x = y := by
  induction es with
  | nil => simp at hx
  | cons z es ih =>
    simp only [List.map_cons, List.nodup_cons, List.mem_map, not_exists, not_and] at hb
    rcases List.mem_cons.1 hx with h1 | h1 <;> rcases List.mem_cons.1 hy with h2 | h2
    · rw [h1, h2]
    · subst h1; exact absurd e.symm (hb.1 y h2)
    · subst h2; exact absurd e (hb.1 x h1)
    · exact ih hb.2 h1 h2
theorem wo_step {es pre post : List Ent} {y : Ent} {seen : Array Nat} {las : List Int} {n : Nat} (he : es = pre ++ y :: post) (hk : (es.map (·.key)).Nodup) (hb : (es.map (·.born)).Nodup) (hn : y.key = (n : Int)) (hl : n < las.length) :
    wo es (seen.push y.born) las = (wo es seen las).set n (lastOf y.pen) := by
  apply List.ext_getElem?
  intro i
  rw [List.getElem?_set, wo_length]
  unfold wo
  rw [List.getElem?_mapIdx, List.getElem?_mapIdx]
  have hfy : es.find? (fun z => decide (z.key = (n : Int))) = some y := by
    rw [he, List.find?_append]
    have : pre.find? (fun z => decide (z.key = (n : Int))) = none := by
      rw [List.find?_eq_none]
      intro z hz
      rw [he, List.map_append, List.map_cons] at hk
      have := (List.nodup_append.1 hk).2.2 z.key (List.mem_map.2 ⟨z, hz, rfl⟩) y.key (by simp)
      simp only [decide_eq_true_eq]
      rw [← hn]
      exact this
    rw [this]
    simp [hn]
  by_cases hi : n = i
  · subst hi
    rw [if_pos rfl, if_pos hl, List.getElem?_eq_getElem hl]
    simp [hfy]
  · rw [if_neg hi]
    cases las[i]? with
    | none => rfl
    | some x =>
      simp only [Option.map_some, Option.some.injEq]
      cases hf : es.find? (fun z => decide (z.key = (i : Int))) with
      | none => rfl
      | some z =>
        have hzk : z.key = (i : Int) := by simpa using List.find?_some hf
        have hzm := List.mem_of_find?_eq_some hf
        have hne : z.born ≠ y.born := by
          intro e
          have hym : y ∈ es := by rw [he]; simp
          have := inj_born hb hzm hym e
          subst this
          rw [hzk] at hn
          omega
        simp [hne]

/-- a cell of one's own row -/
theorem own_set {W : World} {B T n q c : Nat} {xs : List Value} (h : W.ownsRow B T 1 (.slice (some ⟨q, 0, none⟩) n c) n xs) {i : Nat} (hi : i < n) (u : Value) : (W.setCell ⟨q, i, none⟩ u).ownsRow B T 1 (.slice (some ⟨q, 0, none⟩) n c) n (xs.set i u) := by
  obtain ⟨h1, ⟨h2, _⟩ | ⟨g, cap, cur, hv, hg, hb, hn, hm, hs, ht⟩⟩ := h
  · cases h2
  · simp only [Value.slice.injEq, Option.some.injEq, Addr.mk.injEq, and_true, true_and] at hv
    obtain ⟨rfl, rfl⟩ := hv
    refine ⟨by rw [List.length_set]; exact h1, .inr ⟨q, c, cur.setIfInBounds i u, rfl, hg, set_same hb i u, hn, hm, by simpa using hs, ?_⟩⟩
    rw [← ht]
    simp [List.take_set]

end Go.Proofs.Ytlokklfkiechdaa.Pm
