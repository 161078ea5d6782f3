/- A device's fence: plain facts. -/
import Derived.Test.YtlokklfkiechdaaPmG
set_option linter.unusedVariables false
set_option linter.unusedSimpArgs false
set_option maxHeartbeats 400000
namespace Go.Proofs.Ytlokklfkiechdaa.Pm
open Go Go.RowKit
open Go.ChangeMaps (setBlock)
open Go.Proofs.Ytlokklfkiechdaa.Ob Go.Proofs.Ytlokklfkiechdaa.Mp Go.Proofs.Ytlokklfkiechdaa.Dv Go.Proofs.Ytlokklfkiechdaa.Wl

theorem fm_congr {α β : Type} {f g : α → Option β} : ∀ {l : List α}, (∀ x ∈ l, f x = g x) → l.filterMap f = l.filterMap g
  | [], _ => rfl
  | x :: l, h => by
    simp only [List.filterMap_cons, h x (by simp)]
    rw [fm_congr (l := l) (fun y hy => h y (by simp [hy]))]

/-- what an entry becomes, if its turn has not come yet -/
def finE (seen : Array Nat) (x : Ent) : Option (Int × Pen) := if x.born ∈ seen then some (x.key, x.pen) else fencePen (x.key, x.pen)
def finOpn (es : List Ent) (seen : Array Nat) : List (Int × Pen) := es.filterMap (finE seen)
def finW (es : List Ent) (seen : Array Nat) (i : Nat) (v : Int) : Int := match es.find? (fun x => decide (x.key = (i : Int)) && decide (x.born ∉ seen)) with
  | some y => if y.pen.fl = 0 then v else y.pen.l.getD (y.pen.fl - 1) 0
  | none => v
def finLas (es : List Ent) (seen : Array Nat) (l : List Int) : List Int := l.mapIdx (finW es seen)

theorem fin_start {d : Dev} {es : List Ent} (ho : d.opn = es.map fun x => (x.key, x.pen)) : finOpn es #[] = d.opn.filterMap fencePen ∧ finLas es #[] d.las = d.las.mapIdx (fenceWord d.opn) := by
  refine ⟨?_, ?_⟩
  · rw [ho, List.filterMap_map]
    unfold finOpn
    congr 1
    funext x
    simp [finE]
  · unfold finLas
    congr 1
    funext i v
    unfold finW fenceWord
    rw [ho, List.find?_map]
    simp only [Array.not_mem_empty, not_false_eq_true, decide_true, Bool.and_true]
    simp only [Function.comp_def]
    cases List.find? (fun x => decide (x.key = (i : Int))) es <;> rfl

theorem fin_end {es : List Ent} {seen : Array Nat} {l : List Int} (h : ∀ x ∈ es, x.born ∈ seen) : finOpn es seen = es.map (fun x => (x.key, x.pen)) ∧ finLas es seen l = l := by
  refine ⟨?_, ?_⟩
  · unfold finOpn
    rw [← List.filterMap_eq_map]
    apply fm_congr
    intro x hx
    simp [finE, h x hx]
  · unfold finLas
    have : ∀ i v, finW es seen i v = v := by
      intro i v
      unfold finW
      rw [List.find?_eq_none.2]
      intro x hx
      simp [h x hx]
    apply List.ext_getElem (by simp)
    intro i h1 h2
    simp [this]

/-- One entry's turn has come. -/
theorem fin_step {pre post : List Ent} {x : Ent} {seen : Array Nat} (hns : x.born ∉ seen) (hk : ((pre ++ x :: post).map (·.key)).Nodup) (hb : ((pre ++ x :: post).map (·.born)).Nodup)
    (mid : List Ent) (hm : mid = [] ∨ ∃ x', mid = [x'] ∧ x'.born = x.born) (hmid : mid.map (fun x => (x.key, x.pen)) = (fencePen (x.key, x.pen)).toList)
    (l l' : List Int) (hl : l' = if x.pen.fl = 0 then l else l.set x.key.toNat (x.pen.l.getD (x.pen.fl - 1) 0)) (h0 : 0 ≤ x.key) :
    finOpn (pre ++ (mid ++ post)) (seen.push x.born) = finOpn (pre ++ x :: post) seen ∧ finLas (pre ++ (mid ++ post)) (seen.push x.born) l' = finLas (pre ++ x :: post) seen l := by
  simp only [List.map_append, List.map_cons, List.nodup_append, List.nodup_cons, List.mem_cons, List.mem_map] at hk hb
  obtain ⟨_, ⟨k1, _⟩, k2⟩ := hk
  obtain ⟨_, ⟨b1, _⟩, b2⟩ := hb
  have hpre : ∀ y ∈ pre, y.born ≠ x.born ∧ y.key ≠ x.key := fun y hy => ⟨b2 _ ⟨y, hy, rfl⟩ _ (.inl rfl), k2 _ ⟨y, hy, rfl⟩ _ (.inl rfl)⟩
  have hpost : ∀ y ∈ post, y.born ≠ x.born ∧ y.key ≠ x.key := fun y hy => ⟨fun e => b1 ⟨y, hy, e⟩, fun e => k1 ⟨y, hy, e⟩⟩
  have hfE : ∀ y : Ent, y.born ≠ x.born → finE (seen.push x.born) y = finE seen y := by
    intro y hy
    unfold finE
    simp [hy]
  have hmb : ∀ y ∈ mid, y.born = x.born := by
    intro y hy
    rcases hm with rfl | ⟨x', rfl, e⟩
    · simp at hy
    · simp at hy; subst hy; exact e
  refine ⟨?_, ?_⟩
  · unfold finOpn
    simp only [List.filterMap_append, List.filterMap_cons]
    rw [fm_congr (fun y hy => hfE y (hpre y hy).1), fm_congr (g := finE seen) (l := post) (fun y hy => hfE y (hpost y hy).1)]
    congr 1
    have e1 : mid.filterMap (finE (seen.push x.born)) = (fencePen (x.key, x.pen)).toList := by
      rw [← hmid, ← List.filterMap_eq_map]
      apply fm_congr
      intro y hy
      simp [finE, hmb y hy]
    rw [e1]
    have e2 : finE seen x = fencePen (x.key, x.pen) := by simp [finE, hns]
    rw [e2]
    cases fencePen (x.key, x.pen) <;> rfl
  · unfold finLas
    apply List.ext_getElem
    · rw [hl]; split <;> simp
    intro i h1 h2
    simp only [List.getElem_mapIdx]
    have hp : ∀ y : Ent, y.born ≠ x.born → (decide (y.born ∉ seen.push x.born)) = decide (y.born ∉ seen) := by
      intro y hy
      simp [hy]
    have hfind : ∀ (ys : List Ent), (∀ y ∈ ys, y.born ≠ x.born) → ys.find? (fun y => decide (y.key = (i : Int)) && decide (y.born ∉ seen.push x.born)) = ys.find? (fun y => decide (y.key = (i : Int)) && decide (y.born ∉ seen)) := by
      intro ys
      induction ys with
      | nil => intro _; rfl
      | cons y ys ih =>
        intro hys
        simp only [List.find?_cons, hp y (hys y (by simp))]
        rw [ih (fun z hz => hys z (by simp [hz]))]
    have hmidn : mid.find? (fun y => decide (y.key = (i : Int)) && decide (y.born ∉ seen.push x.born)) = none := by
      rw [List.find?_eq_none]
      intro y hy
      simp [hmb y hy]
    unfold finW
    simp only [List.find?_append, List.find?_cons]
    rw [hfind pre (fun y hy => (hpre y hy).1), hfind post (fun y hy => (hpost y hy).1), hmidn]
    by_cases hi : x.key = i
    · have hi' : x.key.toNat = i := by omega
      have n1 : pre.find? (fun y => decide (y.key = (i : Int)) && decide (y.born ∉ seen)) = none := by
        rw [List.find?_eq_none]
        intro y hy
        have := (hpre y hy).2
        rw [hi] at this
        simp [this]
      have n2 : post.find? (fun y => decide (y.key = (i : Int)) && decide (y.born ∉ seen)) = none := by
        rw [List.find?_eq_none]
        intro y hy
        have := (hpost y hy).2
        rw [hi] at this
        simp [this]
      rw [n1, n2]
      simp only [hi, hns, decide_true, not_false_eq_true, Bool.and_self, Option.none_or, Option.or_some, Option.getD_none]
      subst hl
      split
      · rename_i h; simp [h]
      · rename_i h; simp [h, hi']
    · have hi' : ¬ x.key.toNat = i := by omega
      simp only [hi, decide_false, Bool.false_and, Option.none_or]
      have g1 : i < l'.length := by simpa using h1
      have g2 : i < l.length := by simpa using h2
      have hv : l'[i]'g1 = l[i]'g2 := by
        subst hl
        split
        · rfl
        · simp [List.getElem_set, hi']
      rw [hv]

end Go.Proofs.Ytlokklfkiechdaa.Pm
