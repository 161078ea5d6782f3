/- PmLasts: what its loops keep. -/
import Derived.Test.YtlokklfkiechdaaLb
set_option linter.unusedVariables false
set_option linter.unusedSimpArgs false
set_option maxHeartbeats 1000000
namespace Go.Proofs.Ytlokklfkiechdaa.La
open Go Go.RowKit
open Go.ChangeMaps (setBlock)
open Go.Proofs.Ytlokklfkiechdaa.Ob Go.Proofs.Ytlokklfkiechdaa.Mp Go.Proofs.Ytlokklfkiechdaa.Dv Go.Proofs.Ytlokklfkiechdaa.Wl Go.Proofs.Ytlokklfkiechdaa.Cp Go.Proofs.Ytlokklfkiechdaa.Pm

theorem stored_steps (d : Dev) (k x : Int) : (d.stored k x).steps ≤ d.steps + 1 ∧ (d.stored k x).las.length = d.las.length := by
  unfold Dev.stored; split <;> simp [Dev.stepped]
theorem flushed_steps (d : Dev) (k : Int) : (d.flushed k).steps ≤ d.steps + 1 ∧ (d.flushed k).las.length = d.las.length := by
  unfold Dev.flushed; split <;> simp [Dev.stepped]
theorem fenced_steps (d : Dev) : d.fenced.steps ≤ d.steps + 1 ∧ d.fenced.las.length = d.las.length := by
  unfold Dev.fenced; split <;> simp [Dev.stepped]
theorem act_steps (d : Dev) (x : Act) : (act d x).steps ≤ d.steps + 1 ∧ (act d x).las.length = d.las.length := by
  unfold act
  split
  · exact stored_steps _ _ _
  split
  · exact flushed_steps _ _
  split
  · exact fenced_steps _
  · exact flushed_steps _ _

def runs (d : Dev) (l : List Act) : Dev := l.foldl (fun d x => if x.k % 8 < 6 then act d x else d) d
theorem runs_snoc (d : Dev) (l : List Act) (x : Act) : runs d (l ++ [x]) = if x.k % 8 < 6 then act (runs d l) x else runs d l := by simp [runs]
theorem runs_steps (d : Dev) (l : List Act) : (runs d l).steps ≤ d.steps + l.length ∧ (runs d l).las.length = d.las.length := by
  induction l generalizing d with
  | nil => simp [runs]
  | cons x l ih =>
    have h1 : runs d (x :: l) = runs (if x.k % 8 < 6 then act d x else d) l := rfl
    rw [h1]
    have h2 := ih (if x.k % 8 < 6 then act d x else d)
    have h3 : (if x.k % 8 < 6 then act d x else d).steps ≤ d.steps + 1 ∧ (if x.k % 8 < 6 then act d x else d).las.length = d.las.length := by
      split
      · exact act_steps d x
      · simp
    simp only [List.length_cons]
    omega
theorem take_snoc {l : List Act} {i : Nat} {x : Act} (h : l[i]? = some x) : l.take (i + 1) = l.take i ++ [x] := by
  obtain ⟨hi, hx⟩ := List.getElem?_eq_some_iff.1 h
  rw [List.take_succ_eq_append_getElem hi, hx]

/-- the slices of what each word may hold, in blocks of their own -/
structure Mays (B : Nat) (d : Dev) (W : World) (xs : List Value) (i : Nat) : Prop where
  len : xs.length = i
  at_ : ∀ (j : Nat) v, xs[j]? = some v → ∃ A c qs, v = .slice A (d.may (j : Int)).length c ∧ Sl W 26 A c (u64s (d.may (j : Int))) qs ∧ ∀ q ∈ qs, B ≤ q

theorem sl_lt {W : World} {T : TypeId} {A : Option Addr} {c : Nat} {vs : List Value} {qs : List Nat} (h : Sl W T A c vs qs) : ∀ q ∈ qs, ∃ cs, W.heap[q]? = some (.cells cs T (0, 0)) := by
  obtain ⟨_, ⟨_, rfl⟩ | ⟨q', o', cs', _, rfl, hb', _⟩⟩ := h
  · simp
  · intro q hq
    simp at hq
    subst hq
    exact ⟨_, hb'⟩

theorem Mays.keep {B : Nat} {d : Dev} {W W' : World} {xs : List Value} {i : Nat} (h : Mays B d W xs i) (hk : ∀ q cs, B ≤ q → W.heap[q]? = some (.cells cs 26 (0, 0)) → W'.heap[q]? = W.heap[q]?) : Mays B d W' xs i :=
  ⟨h.len, fun j v hj => by
    obtain ⟨A, c, qs, h1, h2, h3⟩ := h.at_ j v hj
    refine ⟨A, c, qs, h1, h2.keep fun q hq => ?_, h3⟩
    obtain ⟨cs, hcs⟩ := sl_lt h2 q hq
    exact hk q cs (h3 q hq) hcs⟩
theorem Mays.upd {B : Nat} {d : Dev} {W W' : World} {xs : List Value} {i : Nat} {F : List Nat} (h : Mays B d W xs i) (hu : Upd F W W') (hF : ∀ k ∈ F, k < B) : Mays B d W' xs i :=
  h.keep fun q cs hB hq => hu.block q (lt_of hq) (fun e => by have := hF q e; omega)
theorem Mays.below {B : Nat} {d : Dev} {W W' : World} {xs : List Value} {i : Nat} (h : Mays B d W xs i) (hu : Below W.heap.size W W') : Mays B d W' xs i := h.upd (Upd.of_below (F := []) hu) (by simp)

/-- one row more: an append to the outer row, of another type -/
theorem Mays.more {B : Nat} {d : Dev} {W W1 W' : World} {xs : List Value} {i : Nat} {v vo : Value} {T n : Nat} {xo : List Value} (h : Mays B d W xs i) (hv : W1.ownsRow W.heap.size 26 1 v (d.may (i : Int)).length (u64s (d.may (i : Int)))) (hB : B ≤ W.heap.size) (hb : Below W.heap.size W W1)
    (ho : W.ownsRow B T 1 vo n xo) (hT : T ≠ 26) (hg : W1.grownBy W' vo.ownBlock) : Mays B d W' (xs ++ [v]) (i + 1) := by
  have hkeep : ∀ (q : Nat) (cs : Array Value), W1.heap[q]? = some (.cells cs 26 (0, 0)) → W'.heap[q]? = W1.heap[q]? := by
    intro q cs hq
    refine hg.block q (lt_of hq) (fun e => ?_)
    obtain ⟨_, ⟨rfl, _⟩ | ⟨g, cap, cur, rfl, hgB, hblk, _⟩⟩ := ho
    · simp [Value.ownBlock] at e
    · simp [Value.ownBlock] at e
      subst e
      have := (hb.block q (lt_of hblk)).trans hblk
      rw [this] at hq
      simp at hq
      exact hT hq.2
  refine ⟨by simp [h.len], fun j u hj => ?_⟩
  by_cases hji : j < i
  · rw [List.getElem?_append_left (by rw [h.len]; exact hji)] at hj
    exact ((h.below hb).keep (W' := W') (fun q cs _ hq => hkeep q cs hq)).at_ j u hj
  · rw [List.getElem?_append_right (by rw [h.len]; omega), h.len] at hj
    obtain rfl : j = i := by
      have := (List.getElem?_eq_some_iff.1 hj).1
      simp at this
      omega
    simp at hj
    subst hj
    obtain ⟨A, c, qs, rfl, hsl, hqs⟩ := Sl.of_own hv
    refine ⟨A, c, qs, rfl, hsl.keep fun q hq => ?_, fun q hq => by have := hqs q hq; omega⟩
    obtain ⟨cs, hcs⟩ := sl_lt hsl q hq
    exact hkeep q cs hcs

/-- a row of one's own, behind what turned other blocks -/
theorem own_keep {W W' : World} {B T n : Nat} {v : Value} {xs : List Value} (h : W.ownsRow B T 1 v n xs) (hk : ∀ k, B ≤ k → k < W.heap.size → W'.heap[k]? = W.heap[k]?) : W'.ownsRow B T 1 v n xs := by
  obtain ⟨h1, h2 | ⟨g, cap, cur, hv, hg, hb, r⟩⟩ := h
  · exact ⟨h1, .inl h2⟩
  · exact ⟨h1, .inr ⟨g, cap, cur, hv, hg, (hk g hg (lt_of hb)).trans hb, r⟩⟩

end Go.Proofs.Ytlokklfkiechdaa.La
