/- Parts of the proof, one behind the other: Ob, Ba, Ua, Ub, Shf, Uc, Ud, Ue. -/
import Derived.Below
import Derived.Deep.Draws
import Derived.ChangeMaps5
import Derived.Deep.AppendLies
import Derived.Laws.Rows
import Derived.IntWalk
import Derived.Lib.Hide
import Derived.WalkKit
import Derived.Lib.SplitLaws
import Derived.Lib.IndexBytes
import Derived.Lib.Join
import Derived.Shelf.Strings.Builder1
import Derived.Shelf.Strings.Builder2
import Derived.Shelf.Strings.OnBuilder
import Derived.Shelf.Small.Utf8
import Derived.Shelf.Small.Bits
import Derived.Shelf.Small.Strs
import Derived.Shelf.Small.Wraps
import Derived.Shelf.Utf8.RuneCount
import Derived.Shelf.Strconv.Itoa0
import Derived.Shelf.Strings.Search1
import Derived.Shelf.Strings.Search2
import Derived.Shelf.Strings.Search3
import Derived.Shelf.Strings.Count
import Derived.Shelf.LaysM
import Derived.Shelf.Strings.Shaped
import Derived.Shelf.Strings.Prefix
import Derived.Shelf.Strings.Split
import Derived.Shelf.Strings.SplitShaped
import Derived.Shelf.Unicode.Decode
import Derived.Shelf.Strings.Runes
import Derived.Shelf.Strings.RuneCount
import Derived.Shelf.Strings.IndexAny
import Derived.Shelf.Strings.AsciiSet
import Derived.Shelf.Strings.IndexAnyAll
import Derived.Shelf.Strings.Explode
import Derived.Shelf.Unicode.DecodeSlow
import Derived.Shelf.Unicode.DecodeAny
import Derived.Shelf.Slices.Equal
import Derived.Ground.Names2Prog
import Derived.Shelf.Slices.Clone
import Derived.Shelf.Slices.Empties2
import Derived.Ground.SlgnProg
import Derived.Shelf.SlicesE.Clone
import Derived.Shelf.Bytes.SlEqualAll
import Derived.Shelf.Bytes.Small
import Derived.Test.YtbbnfhpemaahjaaDoorProg
import Derived.Laws.RangeAny
import Derived.Deep.QuietTactic
import Derived.BigQuiet
import Derived.LoopTactic
import Derived.WalkMore
import Derived.Lib.OthersKept
set_option linter.unusedVariables false
set_option linter.unusedSimpArgs false
set_option linter.unusedSectionVars false
section
namespace Go.Proofs.YtbbnfhpemaahjaaDoor.Ob
open Go Go.RowKit
open Go.ChangeMaps (setBlock)
theorem lt_of {w : World} {g : Nat} {o : Obj} (h : w.heap[g]? = some o) : g < w.heap.size := (Array.getElem?_eq_some_iff.1 h).1
theorem cell_of {w : World} {g : Nat} {t : TypeId} {cs : Array Value} {fr : Nat × Nat} (h : w.heap[g]? = some (.cells cs t fr)) (i : Nat) : w.cell? ⟨g, i, none⟩ = cs[i]? := by
  simp [World.cell?, h]
theorem free_of {w : World} {g : Nat} {t : TypeId} {cs : Array Value} (h : w.heap[g]? = some (.cells cs t (0, 0))) (i : Nat) : w.frozen? ⟨g, i, none⟩ = false := by
  simp [World.frozen?, h]
theorem set_same {w : World} {g : Nat} {t : TypeId} {cs : Array Value} {fr : Nat × Nat} (h : w.heap[g]? = some (.cells cs t fr)) (i : Nat) (u : Value) : (w.setCell ⟨g, i, none⟩ u).heap[g]? = some (.cells (cs.setIfInBounds i u) t fr) := by
  simp [World.setCell, Array.getElem?_modify, h]
theorem set_other {w : World} {g : Nat} {o : Obj} (h : w.heap[g]? = some o) {a : Addr} (ha : g ≠ a.block) (u : Value) : (w.setCell a u).heap[g]? = some o := (Below.heap_setCell w a u g ha).trans h
theorem alloc_old {w : World} {g : Nat} {o : Obj} (h : w.heap[g]? = some o) (o' : Obj) : (w.alloc o').heap[g]? = some o := (Below.heap_alloc w o' g (lt_of h)).trans h
theorem alloc_new (w : World) (o : Obj) : (w.alloc o).heap[w.heap.size]? = some o := heap_alloc_new w o
def Sl (w : World) (T : TypeId) (A : Option Addr) (c : Nat) (vs : List Value) (qs : List Nat) : Prop :=
  vs.length ≤ c ∧ ((vs = [] ∧ qs = []) ∨ ∃ q off cs, A = some ⟨q, off, none⟩ ∧ qs = [q] ∧ w.heap[q]? = some (.cells cs T (0, 0)) ∧ off + c ≤ cs.size ∧ ∀ j v, vs[j]? = some v → cs[off + j]? = some v)
theorem Sl.at_ {w : World} {T : TypeId} {A : Option Addr} {c : Nat} {vs : List Value} {qs : List Nat} (h : Sl w T A c vs qs) {i : Nat} {v : Value} (hi : vs[i]? = some v) :
    ∃ q off cs, A = some ⟨q, off, none⟩ ∧ qs = [q] ∧ w.heap[q]? = some (.cells cs T (0, 0)) ∧ off + c ≤ cs.size ∧ w.cell? ⟨q, off + i, none⟩ = some v ∧ w.frozen? ⟨q, off + i, none⟩ = false := by
  obtain ⟨h0, ⟨rfl, _⟩ | ⟨q, off, cs, hA, hq, hb, hs, hc⟩⟩ := h
  · simp at hi
  · exact ⟨q, off, cs, hA, hq, hb, hs, by rw [cell_of hb]; exact hc i v hi, free_of hb _⟩
theorem Sl.of_own {w : World} {base n : Nat} {T : TypeId} {v : Value} {xs : List Value} (h : w.ownsRow base T 1 v n xs) :
    ∃ A c qs, v = .slice A n c ∧ Sl w T A c xs qs ∧ ∀ q ∈ qs, base ≤ q := by
  obtain ⟨h1, ⟨rfl, rfl⟩ | ⟨g, cap, cur, rfl, hg, hb, hn, _, hs, ht⟩⟩ := h
  · have : xs = [] := List.eq_nil_of_length_eq_zero (by omega)
    exact ⟨none, 0, [], rfl, ⟨by simp [this], .inl ⟨this, rfl⟩⟩, by simp⟩
  · refine ⟨some ⟨g, 0, none⟩, cap, [g], rfl, ⟨by omega, .inr ⟨g, 0, cur, rfl, rfl, hb, by omega, fun j v hj => ?_⟩⟩, by simpa using hg⟩
    rw [← ht, List.getElem?_take] at hj
    split at hj
    · simpa using hj
    · cases hj
end Go.Proofs.YtbbnfhpemaahjaaDoor.Ob
end
section
namespace Go.Proofs.YtbbnfhpemaahjaaDoor.Ba
open Go Go.RowKit
open Ob
theorem bl_alloc {w w1 : World} (h : Below w.heap.size w w1) (o : Obj) : Below w.heap.size w (w1.alloc o) := h.alloc h.size o
theorem bl_set {w w1 : World} (h : Below w.heap.size w w1) {b o : Nat} (hb : w.heap.size ≤ b) (v : Value) : Below w.heap.size w (w1.setCell ⟨b, o, none⟩ v) := h.setCell hb v
theorem bl_drew {w w1 : World} (h : Below w.heap.size w w1) : Below w.heap.size w w1.drew := ⟨h.os, h.tape, h.output, h.size, h.block⟩
theorem bl_drewN {w w1 : World} (h : Below w.heap.size w w1) (n : Nat) : Below w.heap.size w (w1.drewN n) := ⟨h.os, h.tape, h.output, h.size, h.block⟩
theorem bl_then {w w1 w2 : World} (h : Below w.heap.size w w1) (k : Below w1.heap.size w1 w2) : Below w.heap.size w w2 := h.trans (k.mono h.size)
theorem bl_grown {w w1 w2 : World} {row : Option Nat} (h : Below w.heap.size w w1) (k : w1.grownBy w2 row) (hr : ∀ b, row = some b → w.heap.size ≤ b) : Below w.heap.size w w2 := h.grown k h.size hr
theorem add_block (a : Addr) (j : Nat) : (a.add j).block = a.block := by
  unfold Addr.add
  split <;> rfl
theorem add_two (a : Addr) (i j : Nat) : (a.add i).add j = a.add (i + j) := by
  unfold Addr.add
  by_cases hi : i = 0 <;> by_cases hj : j = 0 <;> simp [hi, hj, Nat.add_assoc]
def ivs (k : IntKind) (l : List Int) : List Value := l.map (Value.int k)
theorem ivs_length (k : IntKind) (l : List Int) : (ivs k l).length = l.length := by simp [ivs]
theorem ivs_get {k : IntKind} {l : List Int} {i : Nat} {x : Int} (h : l[i]? = some x) : (ivs k l)[i]? = some (.int k x) := by simp [ivs, h]
theorem ivs_append (k : IntKind) (a b : List Int) : ivs k (a ++ b) = ivs k a ++ ivs k b := by simp [ivs]
def Rk (k : IntKind) (w : World) (A : Option Addr) (l : List Int) : Prop := ∀ (i : Nat) x, l[i]? = some x → ∃ a, A = some a ∧ a.block < w.heap.size ∧ w.cell? (a.add i) = some (.int k x)
theorem Rk.below {k : IntKind} {w w' : World} {A : Option Addr} {l : List Int} (h : Rk k w A l) (hb : Below w.heap.size w w') : Rk k w' A l := by
  intro i x hi
  obtain ⟨a, rfl, h1, h2⟩ := h i x hi
  exact ⟨a, rfl, Nat.lt_of_lt_of_le h1 hb.size, by rw [hb.cell (p := a.add i) (by rw [add_block]; exact h1)]; exact h2⟩
theorem sl_rk {k : IntKind} {w : World} {T : TypeId} {A : Option Addr} {c : Nat} {l : List Int} {qs : List Nat} (h : Sl w T A c (ivs k l) qs) : Rk k w A l := by
  intro i x hi
  obtain ⟨q, off, cs, rfl, -, hb, -, hc, -⟩ := h.at_ (i := i) (v := .int k x) (ivs_get hi)
  exact ⟨_, rfl, lt_of hb, by rw [Addr.add_lit]; exact hc⟩
theorem blk_rk {k : IntKind} {w : World} {q T : Nat} {cs : Array Value} {fr : Nat × Nat} {l : List Int} (h : w.heap[q]? = some (.cells cs T fr)) (hc : ∀ (i : Nat) x, l[i]? = some x → cs[i]? = some (.int k x)) : Rk k w (some ⟨q, 0, none⟩) l := by
  intro i x hi
  exact ⟨_, rfl, lt_of h, by rw [Addr.add_lit, cell_of h, Nat.zero_add]; exact hc i x hi⟩
theorem own_lo {W : World} {B T s n : Nat} {v : Value} {xs : List Value} (h : W.ownsRow B T s v n xs) : ∀ k, v.ownBlock = some k → B ≤ k := by
  obtain ⟨_, ⟨rfl, _⟩ | ⟨g, cap, cur, rfl, hg, _⟩⟩ := h
  · intro k hk; simp [Value.ownBlock] at hk
  · intro k hk; simp [Value.ownBlock] at hk; omega
theorem own_kp {W W' : World} {B T s n : Nat} {v : Value} {xs : List Value} (h : W.ownsRow B T s v n xs) (hk : ∀ k, B ≤ k → k < W.heap.size → W'.heap[k]? = W.heap[k]?) : W'.ownsRow B T s v n xs := by
  obtain ⟨h1, h2 | ⟨g, cap, cur, hv, hg, hb, r⟩⟩ := h
  · exact ⟨h1, .inl h2⟩
  · exact ⟨h1, .inr ⟨g, cap, cur, hv, hg, (hk g hg (lt_of hb)).trans hb, r⟩⟩
theorem own_bl {W W' : World} {B T s n : Nat} {v : Value} {xs : List Value} (h : W.ownsRow B T s v n xs) (hb : Below W.heap.size W W') : W'.ownsRow B T s v n xs := own_kp h (fun k _ hk => hb.block k hk)
theorem own_rk {k : IntKind} {w : World} {B T n : Nat} {A : Option Addr} {c : Nat} {l : List Int} (h : w.ownsRow B T 1 (.slice A n c) n (ivs k l)) : Rk k w A l ∧ l.length = n ∧ n ≤ c := by
  have hl : l.length = n := by
    have := h.1
    rw [ivs_length] at this
    omega
  obtain ⟨A', c', qs, hv, hsl, -⟩ := Sl.of_own h
  simp only [Value.slice.injEq, true_and] at hv
  obtain ⟨rfl, rfl⟩ := hv
  exact ⟨sl_rk hsl, hl, by have := hsl.1; rw [ivs_length] at this; omega⟩
theorem own_nil0 (w : World) (B : Nat) (T s : Nat) : w.ownsRow B T s (.slice none 0 0) 0 [] := ⟨by simp, .inl ⟨rfl, rfl⟩⟩
theorem one_at (w : World) (v : Value) (T : TypeId) : ∀ (j : Nat) u, [v][j]? = some u → (w.alloc (.cells #[v] T)).cell? ((⟨w.heap.size, 0, none⟩ : Addr).add j) = some u := by
  intro j u hj
  match j, hj with
  | 0, hj =>
    simp at hj
    subst hj
    simp [Addr.add]
theorem blk_bl {W W' : World} {k : Nat} {o : Obj} (h : W.heap[k]? = some o) (hb : Below W.heap.size W W') : W'.heap[k]? = some o := (hb.block k (lt_of h)).trans h
theorem take_next {α : Type} {l : List α} {i : Nat} {x : α} (h : l[i]? = some x) : l.take (i + 1) = l.take i ++ [x] := by
  obtain ⟨hi, hx⟩ := List.getElem?_eq_some_iff.1 h
  rw [List.take_succ_eq_append_getElem hi, hx]
theorem some_at {α : Type} {l : List α} {i : Nat} (h : i < l.length) : ∃ x, l[i]? = some x := ⟨_, List.getElem?_eq_getElem h⟩
end Go.Proofs.YtbbnfhpemaahjaaDoor.Ba
end
section
namespace Go.Proofs.YtbbnfhpemaahjaaDoor.Up
open Go Go.RowKit
open Ob Ba
def svs (l : List ByteArray) : List Value := l.map Value.string
theorem svs_length (l : List ByteArray) : (svs l).length = l.length := by simp [svs]
theorem svs_get {l : List ByteArray} {i : Nat} {x : ByteArray} (h : l[i]? = some x) : (svs l)[i]? = some (.string x) := by simp [svs, h]
theorem svs_append (a b : List ByteArray) : svs (a ++ b) = svs a ++ svs b := by simp [svs]
theorem svs_one (l : List ByteArray) : ∀ u ∈ svs l, u.oneCell' = true := by
  intro u hu
  simp only [svs, List.mem_map] at hu
  obtain ⟨z, _, rfl⟩ := hu
  rfl
def Rs (w : World) (A : Option Addr) (l : List ByteArray) : Prop := ∀ (i : Nat) x, l[i]? = some x → ∃ a, A = some a ∧ a.block < w.heap.size ∧ w.cell? (a.add i) = some (.string x)
theorem Rs.below {w w' : World} {A : Option Addr} {l : List ByteArray} (h : Rs w A l) (hb : Below w.heap.size w w') : Rs w' A l := by
  intro i x hi
  obtain ⟨a, rfl, h1, h2⟩ := h i x hi
  exact ⟨a, rfl, Nat.lt_of_lt_of_le h1 hb.size, by rw [hb.cell (p := a.add i) (by rw [add_block]; exact h1)]; exact h2⟩
theorem Rs.nil (w : World) (A : Option Addr) : Rs w A [] := by intro i x hi; simp at hi
theorem Rs.take {w : World} {A : Option Addr} {l : List ByteArray} (h : Rs w A l) (n : Nat) : Rs w A (l.take n) := by
  intro i x hi
  rw [List.getElem?_take] at hi
  split at hi
  · exact h i x hi
  · cases hi
theorem sl_rs {w : World} {T : TypeId} {A : Option Addr} {c : Nat} {l : List ByteArray} {qs : List Nat} (h : Sl w T A c (svs l) qs) : Rs w A l := by
  intro i x hi
  obtain ⟨q, off, cs, rfl, -, hb, -, hc, -⟩ := h.at_ (i := i) (v := .string x) (svs_get hi)
  exact ⟨_, rfl, lt_of hb, by rw [Addr.add_lit]; exact hc⟩
theorem blk_rs {w : World} {q T : Nat} {cs : Array Value} {fr : Nat × Nat} {l : List ByteArray} (h : w.heap[q]? = some (.cells cs T fr)) (hc : ∀ (i : Nat) x, l[i]? = some x → cs[i]? = some (.string x)) : Rs w (some ⟨q, 0, none⟩) l := by
  intro i x hi
  exact ⟨_, rfl, lt_of h, by rw [Addr.add_lit, cell_of h, Nat.zero_add]; exact hc i x hi⟩
theorem own_rs {w : World} {B T n : Nat} {A : Option Addr} {c : Nat} {l : List ByteArray} (h : w.ownsRow B T 1 (.slice A n c) n (svs l)) : Rs w A l ∧ l.length = n ∧ n ≤ c := by
  have hl : l.length = n := by
    have := h.1
    rw [svs_length] at this
    omega
  obtain ⟨A', c', qs, hv, hsl, -⟩ := Sl.of_own h
  simp only [Value.slice.injEq, true_and] at hv
  obtain ⟨rfl, rfl⟩ := hv
  exact ⟨sl_rs hsl, hl, by have := hsl.1; rw [svs_length] at this; omega⟩
def slash : ByteArray := ⟨#[47]⟩
def okc (c : UInt8) : Bool := c != 0 && c != 47
def rightB (s : ByteArray) : Bool := decide (s.size ≠ 0 ∧ s.size ≤ 48 ∧ s ≠ ⟨#[46]⟩ ∧ s ≠ ⟨#[46, 46]⟩) && s.data.toList.all okc
def mayB (l : List ByteArray) : Bool := decide (l.length ≤ 64) && l.all rightB
def pcs (c : UInt8) : List UInt8 → List UInt8 → List (List UInt8)
  | acc, [] => [acc]
  | acc, x :: r => if x = c then acc :: pcs c [] r else pcs c (acc ++ [x]) r
theorem pcs_none (c : UInt8) : ∀ (l acc : List UInt8), c ∉ l → pcs c acc l = [acc ++ l]
  | [], acc, _ => by simp [pcs]
  | x :: r, acc, h => by
    unfold pcs
    rw [if_neg (fun e => h (by simp [e])), pcs_none c r _ (fun e => h (by simp [e]))]
    simp
theorem pcs_hit (c : UInt8) : ∀ (a r acc : List UInt8), c ∉ a → pcs c acc (a ++ c :: r) = (acc ++ a) :: pcs c [] r
  | [], r, acc, _ => by
    show (if c = c then acc :: pcs c [] r else _) = _
    rw [if_pos rfl]; simp
  | x :: a, r, acc, h => by
    show (if x = c then _ else pcs c (acc ++ [x]) (a ++ c :: r)) = _
    rw [if_neg (fun e => h (by simp [e])), pcs_hit c a r _ (fun e => h (by simp [e]))]
    simp
theorem parts_at (c : UInt8) : ∀ (l : List UInt8), c ∈ l → ∃ a r, l = a ++ c :: r ∧ c ∉ a ∧ Lib.indexByte l c = (a.length : Int) ∧ l.count c = r.count c + 1
  | [], h => by cases h
  | x :: l, h => by
    by_cases hx : x = c
    · subst hx
      refine ⟨[], l, rfl, by simp, ?_, by simp⟩
      unfold Lib.indexByte
      simp
    · obtain ⟨a, r, h1, h2, h3, h4⟩ := parts_at c l (by rcases List.mem_cons.1 h with e | e; exact absurd e.symm hx; exact e)
      refine ⟨x :: a, r, by rw [h1]; rfl, by simp [h2]; exact fun e => hx e.symm, ?_, by rw [List.count_cons_of_ne (by simpa using hx), h4]⟩
      unfold Lib.indexByte
      rw [if_neg (by simpa using hx), h3, if_neg (by simp)]
      simp
theorem splitK_pcs (c : UInt8) : ∀ (n : Nat) (l : List UInt8), l.length = n → Lib.splitK [c] 0 (l.count c) l = pcs c [] l := by
  intro n
  induction n using Nat.strongRecOn with
  | ind n ih =>
    intro l hl
    by_cases h : c ∈ l
    · obtain ⟨a, r, h1, h2, h3, h4⟩ := parts_at c l h
      rw [h4]
      unfold Lib.splitK
      rw [Lib.index_one, h3, if_neg (by simp)]
      have e1 : ((a.length : Int)).toNat = a.length := by omega
      rw [e1, h1, pcs_hit c a r [] h2]
      have hr : r.length < n := by rw [← hl, h1]; simp; omega
      have e2 : (a ++ c :: r).drop (a.length + [c].length) = r := by rw [← List.drop_drop, List.drop_left]; rfl
      rw [e2, Nat.add_zero, List.take_left, ih r.length hr r rfl]
      rfl
    · rw [pcs_none c l [] h, List.count_eq_zero.2 h]
      rfl
def mkB (l : List UInt8) : ByteArray := ⟨l.toArray⟩
theorem mkB_data (l : List UInt8) : (mkB l).data.toList = l := by simp [mkB]
theorem mkB_of (s : ByteArray) : mkB s.data.toList = s := by cases s; simp [mkB]
theorem size_data (s : ByteArray) : s.size = s.data.toList.length := rfl
def piecesB (s : ByteArray) : List ByteArray := (pcs 47 [] s.data.toList).map mkB
theorem map_inj {l m : List ByteArray} (h : l.map (·.data.toList) = m.map (·.data.toList)) : l = m := by
  have : (l.map (·.data.toList)).map mkB = (m.map (·.data.toList)).map mkB := by rw [h]
  rw [List.map_map, List.map_map] at this
  have e : (mkB ∘ fun x : ByteArray => x.data.toList) = id := by funext x; exact mkB_of x
  rw [e, List.map_id, List.map_id] at this
  exact this
theorem splitB_pieces (s : ByteArray) : Lib.splitB slash 0 (Lib.countB s slash) s = piecesB s := by
  apply map_inj
  rw [Lib.splitB_data]
  unfold piecesB
  rw [List.map_map]
  have e : ((fun x : ByteArray => x.data.toList) ∘ mkB) = id := by funext x; exact mkB_data x
  rw [e, List.map_id]
  have e2 : slash.data.toList = [47] := rfl
  have e3 : Lib.countB s slash = s.data.toList.count 47 := by
    unfold Lib.countB
    rw [e2, Lib.count_one]
  rw [e2, e3]
  exact splitK_pcs 47 _ _ rfl
def splitD (s : ByteArray) : Option (List ByteArray) :=
  if s = slash then some [] else match s.data.toList with
  | [] => none
  | c :: r => if c = 47 then (if mayB ((pcs 47 [] r).map mkB) then some ((pcs 47 [] r).map mkB) else none) else none
end Go.Proofs.YtbbnfhpemaahjaaDoor.Up
end
section
namespace Go.Proofs.YtbbnfhpemaahjaaDoor.Up
open Go
theorem bl_irrefl : ∀ a : List UInt8, Op.bytesLess a a = false
  | [] => rfl
  | x :: a => by
    show (decide (x < x) || (x == x && Op.bytesLess a a)) = false
    rw [bl_irrefl a]
    simp
theorem bl_asymm : ∀ a b : List UInt8, Op.bytesLess a b = true → Op.bytesLess b a = false
  | [], [], h => by cases h
  | [], y :: b, _ => rfl
  | x :: a, [], h => by cases h
  | x :: a, y :: b, h => by
    have h' : (decide (x < y) || (x == y && Op.bytesLess a b)) = true := h
    show (decide (y < x) || (y == x && Op.bytesLess b a)) = false
    simp only [Bool.or_eq_true, decide_eq_true_eq, Bool.and_eq_true, beq_iff_eq] at h'
    rcases h' with h1 | ⟨rfl, h1⟩
    · have h2 : ¬ y < x := fun h2 => by simp only [UInt8.lt_iff_toNat_lt] at h1 h2; omega
      have h3 : ¬ y = x := fun h3 => by rw [h3] at h1; simp only [UInt8.lt_iff_toNat_lt] at h1; omega
      simp [h2, h3]
    · rw [bl_asymm a b h1]
      simp
theorem bl_tri : ∀ a b : List UInt8, Op.bytesLess a b = false → Op.bytesLess b a = false → a = b
  | [], [], _, _ => rfl
  | [], y :: b, h, _ => by cases h
  | x :: a, [], _, h => by cases h
  | x :: a, y :: b, h, k => by
    have h' : (decide (x < y) || (x == y && Op.bytesLess a b)) = false := h
    have k' : (decide (y < x) || (y == x && Op.bytesLess b a)) = false := k
    simp only [Bool.or_eq_false_iff, decide_eq_false_iff_not, Bool.and_eq_false_iff] at h' k'
    have hxy : x = y := by
      apply UInt8.toNat_inj.1
      have h1 := h'.1
      have k1 := k'.1
      simp only [UInt8.lt_iff_toNat_lt] at h1 k1
      omega
    subst hxy
    have h2 : Op.bytesLess a b = false := by rcases h'.2 with e | e; simp at e; exact e
    have k2 : Op.bytesLess b a = false := by rcases k'.2 with e | e; simp at e; exact e
    rw [bl_tri a b h2 k2]
def ahead (a b : ByteArray) : Bool := Op.bytesLess a.toList b.toList
theorem toList_inj {a b : ByteArray} (h : a.toList = b.toList) : a = b := by
  rw [Lib.toList_data, Lib.toList_data] at h
  rw [← mkB_of a, h, mkB_of]
theorem ahead_irrefl (a : ByteArray) : ahead a a = false := bl_irrefl _
theorem ahead_asymm {a b : ByteArray} (h : ahead a b = true) : ahead b a = false := bl_asymm _ _ h
theorem ahead_tri {a b : ByteArray} (h : ahead a b = false) (k : ahead b a = false) : a = b := toList_inj (bl_tri _ _ h k)
def bef : List ByteArray → List ByteArray → Bool
  | [], [] => false
  | [], _ :: _ => true
  | _ :: _, [] => false
  | x :: a, y :: b => if x = y then bef a b else ahead x y
theorem bef_asymm : ∀ a b, bef a b = true → bef b a = false
  | [], [], h => by cases h
  | [], _ :: _, _ => rfl
  | _ :: _, [], h => by cases h
  | x :: a, y :: b, h => by
    have h : (if x = y then bef a b else ahead x y) = true := h
    show (if y = x then bef b a else ahead y x) = false
    by_cases e : x = y
    · rw [if_pos e] at h
      rw [if_pos e.symm, bef_asymm a b h]
    · rw [if_neg e] at h
      rw [if_neg (fun e' => e e'.symm), ahead_asymm h]
theorem bef_kid : ∀ (l : List ByteArray) (n : ByteArray), bef l (l ++ [n]) = true
  | [], n => rfl
  | x :: l, n => by
    show (if x = x then bef l (l ++ [n]) else _) = true
    rw [if_pos rfl]
    exact bef_kid l n
theorem bef_past : ∀ (l : List ByteArray) (n : ByteArray) (o : List ByteArray), bef l o = true → ¬ (l.length ≤ o.length ∧ o.take l.length = l) → bef (l ++ [n]) o = true
  | [], n, o, h, hn => absurd ⟨Nat.zero_le _, rfl⟩ hn
  | x :: l, n, [], h, hn => by cases h
  | x :: l, n, y :: o, h, hn => by
    have h : (if x = y then bef l o else ahead x y) = true := h
    show (if x = y then bef (l ++ [n]) o else ahead x y) = true
    by_cases e : x = y
    · subst e
      rw [if_pos rfl] at h ⊢
      refine bef_past l n o h (fun hh => hn ⟨by simp; omega, ?_⟩)
      simp [hh.2]
    · rw [if_neg e] at h ⊢
      exact h
end Go.Proofs.YtbbnfhpemaahjaaDoor.Up
end
section
set_option maxRecDepth 100000
namespace Go.Proofs
open Go.Lib Go.RowKit Go.Shelf
def Tryd.lays119_ren : Go.Shelf.Ren := ⟨fun | 119 => 97 | n => n, fun | 21 => 21 | 4 => 4 | n => n, fun | n => n⟩
theorem Tryd.lays119 : Go.Proofs.Lays.n119 Tryd.prog Tryd.lays119_ren := {
  mixed := by kernel_rfl
  f119 := Tryd.func97.trans (congrArg some (by kernel_rfl))
  t4 := Tryd.underlying4
  a4 := Tryd.isAgg4
  z4 := Tryd.sizeOf4
  v4 := Tryd.zeroValue4
  t21 := Tryd.underlying21
  a21 := Tryd.isAgg21
  z21 := Tryd.sizeOf21
  v21 := Tryd.zeroValue21 }
theorem Tryd.utf8_ValidRune (r : Int) (w : World) :
    Calls Tryd.prog 97 #[.int .i32 r] w fun e w' => e = .returned (.bool (Lib.validRune r)) ∧ w' = w := Any.utf8_ValidRune Tryd.lays119 r w
def Tryd.lays137_ren : Go.Shelf.Ren := ⟨fun | 137 => 96 | 217 => 86 | 266 => 94 | n => n, fun | 9 => 9 | 5 => 5 | 3 => 3 | n => n, fun | n => n⟩
theorem Tryd.lays137 : Go.Proofs.Lays.n137 Tryd.prog Tryd.lays137_ren := {
  mixed := by kernel_rfl
  f137 := Tryd.func96.trans (congrArg some (by kernel_rfl))
  f217 := Tryd.func86.trans (congrArg some (by kernel_rfl))
  f266 := Tryd.func94.trans (congrArg some (by kernel_rfl))
  t3 := Tryd.underlying3
  a3 := Tryd.isAgg3
  z3 := Tryd.sizeOf3
  v3 := Tryd.zeroValue3
  t5 := Tryd.underlying5
  a5 := Tryd.isAgg5
  z5 := Tryd.sizeOf5
  v5 := Tryd.zeroValue5
  t9 := Tryd.underlying9
  a9 := Tryd.isAgg9
  z9 := Tryd.sizeOf9
  v9 := Tryd.zeroValue9 }
theorem Tryd.strings_IndexByte (s : ByteArray) (c : Int) (w : World) :
    Calls Tryd.prog 96 #[.string s, .int .u8 c] w fun e w' => e = .returned (.int .i64 (Lib.indexByte s.data.toList c.toNat.toUInt8)) ∧ w' = w := Any.strings_IndexByte Tryd.lays137 s c w
def Tryd.lays103_ren : Go.Shelf.Ren := ⟨fun | 103 => 34 | 210 => 52 | 206 => 68 | n => n, fun | 9 => 9 | 4 => 4 | 24 => 37 | 3 => 3 | n => n, fun | n => n⟩
theorem Tryd.lays103 : Go.Proofs.Lays.n103 Tryd.prog Tryd.lays103_ren := {
  mixed := by kernel_rfl
  f103 := Tryd.func34.trans (congrArg some (by kernel_rfl))
  f206 := Tryd.func68.trans (congrArg some (by kernel_rfl))
  f210 := Tryd.func52.trans (congrArg some (by kernel_rfl))
  t3 := Tryd.underlying3
  a3 := Tryd.isAgg3
  z3 := Tryd.sizeOf3
  v3 := Tryd.zeroValue3
  t4 := Tryd.underlying4
  a4 := Tryd.isAgg4
  z4 := Tryd.sizeOf4
  v4 := Tryd.zeroValue4
  t9 := Tryd.underlying9
  a9 := Tryd.isAgg9
  z9 := Tryd.sizeOf9
  v9 := Tryd.zeroValue9
  t24 := Tryd.underlying37
  a24 := Tryd.isAgg37
  z24 := Tryd.sizeOf37
  v24 := Tryd.zeroValue37 }
theorem Tryd.strings_CutPrefix (s p : ByteArray) (w : World) :
    Calls Tryd.prog 34 #[.string s, .string p] w fun e w' => e = .returned (.tuple #[.string ⟨(Lib.trimPrefix s.data.toList p.data.toList).toArray⟩, .bool (Lib.hasPrefix s.data.toList p.data.toList)]) ∧ w' = w := Any.strings_CutPrefix Tryd.lays103 s p w
def Tryd.lays146_ren : Go.Shelf.Ren := ⟨fun | 146 => 35 | 221 => 53 | 268 => 69 | 138 => 70 | 143 => 71 | 195 => 78 | 197 => 79 | 218 => 80 | 219 => 81 | 260 => 85 | 217 => 86 | 225 => 87 | 224 => 88 | 267 => 89 | 266 => 94 | 314 => 95 | n => n, fun | 9 => 9 | 31 => 22 | 3 => 3 | 4 => 4 | 0 => 0 | 105 => 111 | 21 => 21 | 5 => 5 | 46 => 98 | 119 => 124 | 139 => 127 | 138 => 126 | 146 => 128 | 51 => 99 | n => n, fun | 1 => 1 | 3 => 2 | 4 => 3 | n => n⟩
theorem Tryd.lays146 : Go.Proofs.Lays.n146 Tryd.prog Tryd.lays146_ren := {
  mixed := by kernel_rfl
  f138 := Tryd.func70.trans (congrArg some (by kernel_rfl))
  f143 := Tryd.func71.trans (congrArg some (by kernel_rfl))
  f146 := Tryd.func35.trans (congrArg some (by kernel_rfl))
  f195 := Tryd.func78.trans (congrArg some (by kernel_rfl))
  f197 := Tryd.func79.trans (congrArg some (by kernel_rfl))
  f217 := Tryd.func86.trans (congrArg some (by kernel_rfl))
  f218 := Tryd.func80.trans (congrArg some (by kernel_rfl))
  f219 := Tryd.func81.trans (congrArg some (by kernel_rfl))
  f221 := Tryd.func53.trans (congrArg some (by kernel_rfl))
  f224 := Tryd.func88.trans (congrArg some (by kernel_rfl))
  f225 := Tryd.func87.trans (congrArg some (by kernel_rfl))
  f260 := Tryd.func85.trans (congrArg some (by kernel_rfl))
  f266 := Tryd.func94.trans (congrArg some (by kernel_rfl))
  f267 := Tryd.func89.trans (congrArg some (by kernel_rfl))
  f268 := Tryd.func69.trans (congrArg some (by kernel_rfl))
  f314 := Tryd.func95.trans (congrArg some (by kernel_rfl))
  t0 := Tryd.underlying0
  a0 := Tryd.isAgg0
  z0 := Tryd.sizeOf0
  v0 := Tryd.zeroValue0
  t3 := Tryd.underlying3
  a3 := Tryd.isAgg3
  z3 := Tryd.sizeOf3
  v3 := Tryd.zeroValue3
  t4 := Tryd.underlying4
  a4 := Tryd.isAgg4
  z4 := Tryd.sizeOf4
  v4 := Tryd.zeroValue4
  t5 := Tryd.underlying5
  a5 := Tryd.isAgg5
  z5 := Tryd.sizeOf5
  v5 := Tryd.zeroValue5
  t9 := Tryd.underlying9
  a9 := Tryd.isAgg9
  z9 := Tryd.sizeOf9
  v9 := Tryd.zeroValue9
  t21 := Tryd.underlying21
  a21 := Tryd.isAgg21
  z21 := Tryd.sizeOf21
  v21 := Tryd.zeroValue21
  t31 := Tryd.underlying22
  a31 := Tryd.isAgg22
  z31 := Tryd.sizeOf22
  v31 := Tryd.zeroValue22
  t46 := Tryd.underlying98
  a46 := Tryd.isAgg98
  z46 := Tryd.sizeOf98
  v46 := Tryd.zeroValue98
  t51 := Tryd.underlying99
  a51 := Tryd.isAgg99
  z51 := Tryd.sizeOf99
  v51 := Tryd.zeroValue99
  t105 := Tryd.underlying111
  a105 := Tryd.isAgg111
  z105 := Tryd.sizeOf111
  v105 := Tryd.zeroValue111
  t119 := Tryd.underlying124
  a119 := Tryd.isAgg124
  z119 := Tryd.sizeOf124
  t138 := Tryd.underlying126
  a138 := Tryd.isAgg126
  z138 := Tryd.sizeOf126
  v138 := Tryd.zeroValue126
  t139 := Tryd.underlying127
  a139 := Tryd.isAgg127
  z139 := Tryd.sizeOf127
  v139 := Tryd.zeroValue127
  t146 := Tryd.underlying128
  a146 := Tryd.isAgg128
  z146 := Tryd.sizeOf128
  v146 := Tryd.zeroValue128
  g1 := by kernel_rfl
  g3 := by kernel_rfl
  g4 := by kernel_rfl }
theorem Tryd.strings_Split (s sep : ByteArray) (m : Int) (w : World) (hs : s.size < 4294967281) (hm : w.cell? ⟨1, 0, none⟩ = some (.int .i64 m)) (h1 : 1 ≤ sep.size) :
    Calls Tryd.prog 35 #[.string s, .string sep] w fun e w' =>
      e = .returned (.slice (some ⟨w.heap.size, 0, none⟩) (Lib.countB s sep + 1) (Lib.countB s sep + 1)) ∧ w' = w.alloc (.cells ((Lib.splitB sep 0 (Lib.countB s sep) s).map Value.string).toArray 9) := Any.strings_Split Tryd.lays146 (by kernel_rfl) s sep m w hs hm h1
def Tryd.lays152_ren : Go.Shelf.Ren := ⟨fun | 152 => 90 | 137 => 96 | 119 => 97 | 224 => 88 | 225 => 87 | 217 => 86 | 266 => 94 | n => n, fun | 9 => 9 | 21 => 21 | 3 => 3 | 4 => 4 | 5 => 5 | 0 => 0 | 46 => 98 | n => n, fun | n => n⟩
theorem Tryd.lays152 : Go.Proofs.Lays.n152 Tryd.prog Tryd.lays152_ren := {
  mixed := by kernel_rfl
  f119 := Tryd.func97.trans (congrArg some (by kernel_rfl))
  f137 := Tryd.func96.trans (congrArg some (by kernel_rfl))
  f152 := Tryd.func90.trans (congrArg some (by kernel_rfl))
  f217 := Tryd.func86.trans (congrArg some (by kernel_rfl))
  f224 := Tryd.func88.trans (congrArg some (by kernel_rfl))
  f225 := Tryd.func87.trans (congrArg some (by kernel_rfl))
  f266 := Tryd.func94.trans (congrArg some (by kernel_rfl))
  t0 := Tryd.underlying0
  a0 := Tryd.isAgg0
  z0 := Tryd.sizeOf0
  v0 := Tryd.zeroValue0
  t3 := Tryd.underlying3
  a3 := Tryd.isAgg3
  z3 := Tryd.sizeOf3
  v3 := Tryd.zeroValue3
  t4 := Tryd.underlying4
  a4 := Tryd.isAgg4
  z4 := Tryd.sizeOf4
  v4 := Tryd.zeroValue4
  t5 := Tryd.underlying5
  a5 := Tryd.isAgg5
  z5 := Tryd.sizeOf5
  v5 := Tryd.zeroValue5
  t9 := Tryd.underlying9
  a9 := Tryd.isAgg9
  z9 := Tryd.sizeOf9
  v9 := Tryd.zeroValue9
  t21 := Tryd.underlying21
  a21 := Tryd.isAgg21
  z21 := Tryd.sizeOf21
  v21 := Tryd.zeroValue21
  t46 := Tryd.underlying98
  a46 := Tryd.isAgg98
  z46 := Tryd.sizeOf98
  v46 := Tryd.zeroValue98 }
theorem Tryd.strings_IndexRune_ascii (s : ByteArray) (r : Int) (w : World) (h0 : 0 ≤ r) (h1 : r < 128) :
    Calls Tryd.prog 90 #[.string s, .int .i32 r] w fun e w' => e = .returned (.int .i64 (Lib.indexByte s.data.toList r.toNat.toUInt8)) ∧ w' = w := Any.strings_IndexRune_ascii Tryd.lays152 s r w h0 h1
def Tryd.lays226_ren : Go.Shelf.Ren := ⟨fun | 226 => 91 | n => n, fun | 3 => 3 | 4 => 4 | n => n, fun | n => n⟩
theorem Tryd.lays226 : Go.Proofs.Lays.n226 Tryd.prog Tryd.lays226_ren := {
  mixed := by kernel_rfl
  f226 := Tryd.func91.trans (congrArg some (by kernel_rfl))
  t3 := Tryd.underlying3
  a3 := Tryd.isAgg3
  z3 := Tryd.sizeOf3
  v3 := Tryd.zeroValue3
  t4 := Tryd.underlying4
  a4 := Tryd.isAgg4
  z4 := Tryd.sizeOf4
  v4 := Tryd.zeroValue4 }
theorem Tryd.strings_shouldUseASCIISet (n : Int) (w : World) :
    Calls Tryd.prog 91 #[.int .i64 n] w fun e w' => e = .returned (.bool (decide (8 < n))) ∧ w' = w := Any.strings_shouldUseASCIISet Tryd.lays226 n w
def Tryd.lays153_ren : Go.Shelf.Ren := ⟨fun | 153 => 82 | 152 => 90 | 226 => 91 | 227 => 92 | 228 => 93 | 137 => 96 | 119 => 97 | 224 => 88 | 225 => 87 | 217 => 86 | 266 => 94 | n => n, fun | 9 => 9 | 3 => 3 | 4 => 4 | 5 => 5 | 21 => 21 | 117 => 121 | 116 => 120 | 0 => 0 | 46 => 98 | 124 => 131 | n => n, fun | n => n⟩
theorem Tryd.lays153 : Go.Proofs.Lays.n153 Tryd.prog Tryd.lays153_ren := {
  mixed := by kernel_rfl
  f119 := Tryd.func97.trans (congrArg some (by kernel_rfl))
  f137 := Tryd.func96.trans (congrArg some (by kernel_rfl))
  f152 := Tryd.func90.trans (congrArg some (by kernel_rfl))
  f153 := Tryd.func82.trans (congrArg some (by kernel_rfl))
  f217 := Tryd.func86.trans (congrArg some (by kernel_rfl))
  f224 := Tryd.func88.trans (congrArg some (by kernel_rfl))
  f225 := Tryd.func87.trans (congrArg some (by kernel_rfl))
  f226 := Tryd.func91.trans (congrArg some (by kernel_rfl))
  f227 := Tryd.func92.trans (congrArg some (by kernel_rfl))
  f228 := Tryd.func93.trans (congrArg some (by kernel_rfl))
  f266 := Tryd.func94.trans (congrArg some (by kernel_rfl))
  t0 := Tryd.underlying0
  a0 := Tryd.isAgg0
  z0 := Tryd.sizeOf0
  v0 := Tryd.zeroValue0
  t3 := Tryd.underlying3
  a3 := Tryd.isAgg3
  z3 := Tryd.sizeOf3
  v3 := Tryd.zeroValue3
  t4 := Tryd.underlying4
  a4 := Tryd.isAgg4
  z4 := Tryd.sizeOf4
  v4 := Tryd.zeroValue4
  t5 := Tryd.underlying5
  a5 := Tryd.isAgg5
  z5 := Tryd.sizeOf5
  v5 := Tryd.zeroValue5
  t9 := Tryd.underlying9
  a9 := Tryd.isAgg9
  z9 := Tryd.sizeOf9
  v9 := Tryd.zeroValue9
  t21 := Tryd.underlying21
  a21 := Tryd.isAgg21
  z21 := Tryd.sizeOf21
  v21 := Tryd.zeroValue21
  t46 := Tryd.underlying98
  a46 := Tryd.isAgg98
  z46 := Tryd.sizeOf98
  v46 := Tryd.zeroValue98
  t116 := Tryd.underlying120
  a116 := Tryd.isAgg120
  z116 := Tryd.sizeOf120
  t117 := Tryd.underlying121
  a117 := Tryd.isAgg121
  z117 := Tryd.sizeOf121
  v117 := Tryd.zeroValue121
  t124 := Tryd.underlying131
  a124 := Tryd.isAgg131
  z124 := Tryd.sizeOf131
  v124 := Tryd.zeroValue131 }
theorem Tryd.strings_IndexAny_long (hv116 : ∀ w, (zeroValue 120).run Tryd.prog w = .ok (.agg (Array.replicate 256 (.bool false))) w) (s chars : ByteArray) (w : World) (h2 : 2 ≤ chars.size) (h8 : 8 < s.size) (hs : s.size < 4294967281) (hcs : chars.size < 4294967281) (hascii : ∀ (j : Nat) b, chars.data.toList[j]? = some b → b.toNat < 128) :
    Calls Tryd.prog 82 #[.string s, .string chars] w fun e w' => e = .returned (.int .i64 (Lib.indexAny s.data.toList chars.data.toList)) ∧ w' = ((w.alloc (.cells (Lib.setCells chars.data.toList) 120)).alloc (.cells (Lib.setCells chars.data.toList) 120)) := Any.strings_IndexAny_long Tryd.lays153 hv116 (by kernel_rfl) s chars w h2 h8 hs hcs hascii
def Tryd.laysNm216_ren : Go.Shelf.Ren := ⟨fun | 16 => 32 | n => n, fun | 24 => 22 | 9 => 9 | 4 => 4 | n => n, fun | n => n⟩
theorem Tryd.laysNm216 : Go.Proofs.Lays2.n16 Tryd.prog Tryd.laysNm216_ren := {
  mixed := by kernel_rfl
  f16 := Tryd.func32.trans (congrArg some (by kernel_rfl))
  t4 := Tryd.underlying4
  a4 := Tryd.isAgg4
  z4 := Tryd.sizeOf4
  v4 := Tryd.zeroValue4
  t9 := Tryd.underlying9
  a9 := Tryd.isAgg9
  z9 := Tryd.sizeOf9
  v9 := Tryd.zeroValue9
  t24 := Tryd.underlying22
  a24 := Tryd.isAgg22
  z24 := Tryd.sizeOf22
  v24 := Tryd.zeroValue22
  i9 := by kernel_rfl }
theorem Tryd.slices_Clone_string (b off n c : Nat) (zs : List ByteArray) (w : World) (hz : n ≤ zs.length) (hbig : n * 16 ≤ 140737488355328) (hc : ∀ j, j < zs.length → w.cell? ⟨b, off + j, none⟩ = some (.string (zs.getD j ByteArray.empty))) :
    Calls Tryd.prog 32 #[.slice (some ⟨b, off, none⟩) n c] w fun e w' => ∃ v', e = .returned v' ∧ w'.ownsRow w.heap.size 9 1 v' n ((zs.take n).map (Value.string)) ∧ v' ≠ .slice none 0 0 ∧ Below w.heap.size w w' := Any.slices_Clone_string Tryd.laysNm216 b off n c zs w hz hbig hc
theorem Tryd.slices_Clone_string_nil (n c : Nat) (w : World) :
    Calls Tryd.prog 32 #[.slice none n c] w fun e w' => e = .returned (.slice none 0 0) ∧ w' = w := Any.slices_Clone_string_nil Tryd.laysNm216 n c w
theorem Tryd.slices_Clone_string_zero (a : Addr) (c : Nat) (w : World) :
    Calls Tryd.prog 32 #[.slice (some a) 0 c] w fun e w' => ∃ v', e = .returned v' ∧ w'.ownsRow w.heap.size 9 1 v' 0 [] ∧ v' ≠ .slice none 0 0 ∧ Below w.heap.size w w' := Any.slices_Clone_string_zero Tryd.laysNm216 a c w
end Go.Proofs
end
section
set_option maxHeartbeats 2000000
set_option maxRecDepth 100000
namespace Go.Proofs.YtbbnfhpemaahjaaDoor.Up
open Go Go.RowKit
open Ob Ba
def bad2 : ByteArray := ⟨#[47, 0]⟩
theorem enc_cases (r : Int) (h0 : 128 ≤ r) (h1 : Utf8.valid r = true) : (∃ a b : UInt8, Utf8.encode r = ⟨#[a, b]⟩ ∧ 128 ≤ b.toNat) ∨ (3 ≤ (Utf8.encode r).size ∧ (Utf8.encode r).size ≤ 4) := by
  unfold Utf8.encode
  rw [if_pos h1]
  have e : ((r.toNat : Nat) : Int) = r := by omega
  simp only
  rw [if_neg (by omega)]
  split
  · refine .inl ⟨_, _, rfl, ?_⟩
    simp
    omega
  · right
    split <;> simp [ByteArray.size]
theorem run_rune (r : Int) (w : World) : (Go.convert 21 9 (.int .i32 r)).run Tryd.prog w = .ok (.string (Utf8.encode r)) w := by
  unfold Go.convert
  simp [Sem.run_bind, Tryd.underlying21, Tryd.underlying9, Result.andThen, run_underlying]
  rfl
theorem quiet_ib {P : Program} {f : FuncId} {args : Array Value} {w : World} {a n : Nat} {x y : Int} (h : x = y) (hc : Calls P f args (w.drewN (a + n)) fun e w' => e = .returned (.int .i64 x) ∧ w' = w.drewN (a + n)) :
    Calls P f args (w.drewN (a + n)) fun e w'' => e = .returned (.int .i64 y) ∧ ∃ m, w'' = w.drewN (a + m) :=
  hc.mono fun _ _ ⟨he, hm⟩ => ⟨by rw [he, h], n, hm⟩
theorem irune_ (r : Int) (h0 : 128 ≤ r) (h1 : r ≤ 2147483647) (w : World) : Calls Tryd.prog 90 #[.string bad2, .int .i32 r] w fun e w' => e = .returned (.int .i64 (-1)) ∧ Below w.heap.size w w' := by
  by_cases he : r = 65533
  · subst he
    go_enter Tryd.func90, Tryd.ntmps90
    go_wp2_with fail
    go_loopg [5, 6] 2 (fun g _ _ wx => ∃ i : Nat, i + g = 2 ∧ wx = w.iter bad2 i)
    case atStart => exact ⟨0, rfl, rfl⟩
    case round =>
      obtain ⟨i, hig, rfl⟩ := hrel
      cases gk with
      | zero =>
        obtain rfl : i = 2 := by omega
        have hnx := run_next_end (P := Tryd.prog) w bad2 2
        have hsz : ¬ (2 : Nat) < bad2.size := by decide
        go_wp2_with fail
        go_ret
        exact ⟨rfl, (Below.refl _ _).alloc (Nat.le_refl _) _⟩
      | succ g =>
        have hi : i < bad2.size := by show i < 2; omega
        have hd : ∃ x : Int, ((Utf8.decode bad2 i).1 : Int) = x ∧ x < 65533 ∧ (Utf8.decode bad2 i).2 = 1 := by
          rcases (show i = 0 ∨ i = 1 by omega) with rfl | rfl
          · exact ⟨47, by decide, by decide, by decide⟩
          · exact ⟨0, by decide, by decide, by decide⟩
        obtain ⟨x, hx, hx2, hx3⟩ := hd
        have hnx := fun ty => run_next_any (P := Tryd.prog) w bad2 i ty hi
        rw [hx, hx3] at hnx
        have hne : (x == 65533) = false := beq_eq_false_iff_ne.2 (by omega)
        clear hx hx2 hx3
        go_wp2_with fail
        go_roundg g
        case measure => omega
        case rel => exact ⟨i + 1, by omega, rfl⟩
  · have hne : (r == 65533) = false := beq_eq_false_iff_ne.2 he
    cases hv : Lib.validRune r with
    | false =>
      go_enter Tryd.func90, Tryd.ntmps90
      go_wp2_with (go_at_call 97; refine (Tryd.utf8_ValidRune _ _).mono ?_; rintro e w' ⟨rfl, hw⟩; rw [hw, hv])
      go_ret
      exact ⟨rfl, Below.refl _ _⟩
    | true =>
      have hval : Utf8.valid r = true := by
        unfold Lib.validRune at hv
        have := of_decide_eq_true hv
        unfold Utf8.valid
        simp only [Bool.or_eq_true, Bool.and_eq_true, decide_eq_true_eq]
        omega
      have hconv := run_rune r
      have henc := enc_cases r h0 hval
      generalize Utf8.encode r = rs at *
      rcases henc with ⟨a, b, rfl, hb⟩ | ⟨hsz, hsz4⟩
      · have hbz : ((0 : Int) != (b.toNat : Int)) = true := bne_iff_ne.2 (by omega)
        have hib : Lib.indexByte (bad2.extract 2 bad2.size).data.toList ((b.toNat : Int)).toNat.toUInt8 = -1 := by
          have : (bad2.extract 2 bad2.size).data.toList = [] := by decide
          rw [this]
          rfl
        have hix : ∀ w, (Instr.index 9 (.string bad2) (.int .i64 1)).run Tryd.prog w = .ok (.int .u8 0) w := fun _ => by kernel_rfl
        have hiy : ∀ w, (Instr.index 9 (.string ⟨#[a, b]⟩) (.int .i64 1)).run Tryd.prog w = .ok (.int .u8 b.toNat) w := fun _ => rfl
        have hbs : (1 : Int) < (bad2.size : Int) := by decide
        clear hval hb
        go_enter Tryd.func90, Tryd.ntmps90
        go_wp2_with (go_at_call 97; refine (Tryd.utf8_ValidRune _ _).mono ?_; rintro e w' ⟨rfl, hw⟩; rw [hw, hv])
        go_step3
        go_wp2_with fail
        refine wp_loop_rounds 1 ?_
        rw [rounds_succ]
        go_wp2_with fail
        go_step3
        go_wp2_with fail
        go_quiet (fail)
        go_wp2_with fail
        go_quiet ((go_at_call 96; exact quiet_ib hib (Tryd.strings_IndexByte _ _ _)))
        go_wp2_with fail
        rw [Exit.noGoto_ret]
        go_wp2_with fail
        rw [Exit.noGoto_ret]
        go_ret
        exact ⟨rfl, bl_drewN (Below.refl _ _) _⟩
      · have hlt : ¬ ((rs.size : Int) - 1 < (bad2.size : Int)) := by show ¬ ((rs.size : Int) - 1 < 2); omega
        have hs3 : (3 : Int) ≤ (rs.size : Int) := by omega
        have hs9 : (rs.size : Int) ≤ 9223372036854775807 := by omega
        clear hval hsz hsz4
        go_enter Tryd.func90, Tryd.ntmps90
        go_wp2_with (go_at_call 97; refine (Tryd.utf8_ValidRune _ _).mono ?_; rintro e w' ⟨rfl, hw⟩; rw [hw, hv])
        go_step3
        go_wp2_with fail
        refine wp_loop_rounds 1 ?_
        rw [rounds_succ]
        go_wp2_with fail
        rw [Exit.noGoto_ret]
        go_ret
        exact ⟨rfl, Below.refl _ _⟩
theorem dec_pass (s : ByteArray) (pos : Nat) (h : pos < s.size) (ha : 128 ≤ (s[pos]'h).toNat) : pos + (Utf8.decode s pos).2 ≤ s.size ∧ ∀ j, j < (Utf8.decode s pos).2 → 128 ≤ (s.get! (pos + j)).toNat := by
  have hn : ¬ (s[pos]'h).toNat < 128 := by omega
  have hg := get_at s pos h
  have h0 : 128 ≤ (s.get! (pos + 0)).toNat := by rw [hg]; exact ha
  have hc : ∀ k, (decide (pos + k < s.size) && (s.get! (pos + k)).toNat / 64 == 2) = true → pos + k < s.size ∧ 128 ≤ (s.get! (pos + k)).toNat := fun k hk => by
    simp only [Bool.and_eq_true, decide_eq_true_eq, beq_iff_eq] at hk
    exact ⟨hk.1, by omega⟩
  have one : pos + 1 ≤ s.size ∧ ∀ j, j < 1 → 128 ≤ (s.get! (pos + j)).toNat := ⟨by omega, fun j hj => by
    obtain rfl : j = 0 := by omega
    exact h0⟩
  unfold Utf8.decode
  simp only [hg, hn, if_false]
  split
  · rename_i h2
    simp only [Bool.and_eq_true] at h2
    have c1 := hc 1 (by simpa using h2.2)
    split
    · exact ⟨by simp only; omega, fun j hj => by
        simp only at hj
        rcases (show j = 0 ∨ j = 1 by omega) with rfl | rfl
        · exact h0
        · exact c1.2⟩
    · exact one
  · split
    · rename_i h2
      simp only [Bool.and_eq_true] at h2
      have c1 := hc 1 (by simpa using h2.1.2)
      have c2 := hc 2 (by simpa using h2.2)
      split
      · exact ⟨by simp only; omega, fun j hj => by
          simp only at hj
          rcases (show j = 0 ∨ j = 1 ∨ j = 2 by omega) with rfl | rfl | rfl
          · exact h0
          · exact c1.2
          · exact c2.2⟩
      · exact one
    · split
      · rename_i h2
        simp only [Bool.and_eq_true] at h2
        have c1 := hc 1 (by simpa using h2.1.1.2)
        have c2 := hc 2 (by simpa using h2.1.2)
        have c3 := hc 3 (by simpa using h2.2)
        split
        · exact ⟨by simp only; omega, fun j hj => by
            simp only at hj
            rcases (show j = 0 ∨ j = 1 ∨ j = 2 ∨ j = 3 by omega) with rfl | rfl | rfl | rfl
            · exact h0
            · exact c1.2
            · exact c2.2
            · exact c3.2⟩
        · exact one
      · exact one
theorem bl_iter {w w1 : World} {k : Nat} (h : Below w.heap.size w w1) (hk : w.heap.size ≤ k) (s : ByteArray) (pos : Nat) : Below w.heap.size w (w1.iterAt k s pos) :=
  ⟨h.os, h.tape, h.output, by have := h.size; simp [World.iterAt]; exact this, fun b hb => by
    have e : (w1.iterAt k s pos).heap[b]? = w1.heap[b]? := by
      simp only [World.iterAt, Array.getElem?_setIfInBounds]
      rw [if_neg (by omega)]
    exact e.trans (h.block b hb)⟩
theorem get_list (s : ByteArray) (i : Nat) (h : i < s.size) : s.data.toList[i]? = some (s[i]'h) := Lib.data_getElem? s i h
theorem get_bang (s : ByteArray) (i : Nat) (h : i < s.size) : s.data.toList[i]? = some (s.get! i) := by
  rw [get_list s i h]
  have := get_at s i h
  rw [Nat.add_zero] at this
  rw [this]
theorem okc_high (c : UInt8) (h : 128 ≤ c.toNat) : okc c = true := by
  unfold okc
  simp only [Bool.and_eq_true, bne_iff_ne]
  refine ⟨fun e => ?_, fun e => ?_⟩ <;> (subst e; simp at h)
theorem all_next {l : List UInt8} {i : Nat} {c : UInt8} (h : (l.take i).all okc = true) (hi : l[i]? = some c) (hc : okc c = true) : (l.take (i + 1)).all okc = true := by
  rw [take_next hi, List.all_append, h]
  simp [hc]
theorem all_more {l : List UInt8} {i : Nat} (h : (l.take i).all okc = true) : ∀ n, (∀ j, j < n → ∃ c, l[i + j]? = some c ∧ okc c = true) → (l.take (i + n)).all okc = true
  | 0, _ => h
  | n + 1, hj => by
    obtain ⟨c, h1, h2⟩ := hj n (by omega)
    exact all_next (all_more h n (fun j hjn => hj j (by omega))) h1 h2
theorem all_hit {l : List UInt8} {i : Nat} {c : UInt8} (hi : l[i]? = some c) (hc : okc c = false) : l.all okc = false := by
  rw [← Bool.not_eq_true, List.all_eq_true]
  intro h
  have := h c (List.mem_of_getElem? hi)
  rw [hc] at this
  cases this
def AnyIs (e : Ending) (b : Bool) : Prop := ∃ k : Int, e = .returned (.int .i64 k) ∧ (decide (0 ≤ k) = !b)
theorem iany_short (s : ByteArray) (h8 : s.size ≤ 8) (w : World) : Calls Tryd.prog 82 #[.string s, .string bad2] w fun e w' => AnyIs e (s.data.toList.all okc) ∧ Below w.heap.size w w' := by
  have h8z : decide ((8 : Int) < (s.size : Int)) = false := decide_eq_false (by omega)
  have hnr : Hid (∀ (c : UInt8), c.toNat < 128 → Lib.indexByte bad2.data.toList ((c.toNat : Int)).toNat.toUInt8 = if c = 47 then 0 else if c = 0 then 1 else -1) := fun c hc => by
    have e : ((c.toNat : Int)).toNat.toUInt8 = c := by simp
    rw [e]
    show Lib.indexByte [47, 0] c = _
    unfold Lib.indexByte Lib.indexByte Lib.indexByte
    by_cases h1 : c = 47
    · subst h1; rfl
    · by_cases h2 : c = 0
      · subst h2; rfl
      · have e1 : (47 == c) = false := by simpa using fun e => h1 e.symm
        have e2 : (0 == c) = false := by simpa using fun e => h2 e.symm
        simp [e1, e2, h1, h2]
  have hemp : bad2.toList.isEmpty = false := by rw [Lib.toList_data]; rfl
  have hn1 : ((bad2.size : Int) == 1) = false := by decide
  go_enter Tryd.func82, Tryd.ntmps82
  go_wp2_with (go_at_call 91; refine (Tryd.strings_shouldUseASCIISet _ _).mono ?_; rintro e w' ⟨rfl, hw⟩; rw [hw, h8z])
  go_loopg [9, 10] s.size (fun g _ _ wx => ∃ i : Nat, i + g = s.size ∧ Hid (wx.heap[w.heap.size]? = some (.stringIter s i) ∧ Below w.heap.size w wx ∧ (s.data.toList.take i).all okc = true))
  case atStart => exact ⟨0, by omega, heap_alloc_new w _, bl_alloc (Below.refl _ _) _, rfl⟩
  case round =>
    obtain ⟨i, hig, HR⟩ := hrel
    generalize wr = wA at *
    cases gk with
    | zero =>
      obtain rfl : i = s.size := by omega
      have hnx := fun ty => Lib.run_next_end_at (P := Tryd.prog) wA w.heap.size s s.size ty HR.out.1 (by omega)
      go_wp2_with fail
      go_ret
      refine ⟨⟨-1, rfl, ?_⟩, HR.out.2.1⟩
      have := HR.out.2.2
      rw [List.take_of_length_le (Nat.le_of_eq (size_data s).symm)] at this
      rw [this]
      rfl
    | succ g =>
      have hi : i < s.size := by omega
      obtain ⟨x, hx⟩ : ∃ x : UInt8, s[i]'hi = x := ⟨_, rfl⟩
      have hxl : s.data.toList[i]? = some x := by rw [← hx]; exact get_list s i hi
      by_cases hx8 : x.toNat < 128
      · have hnx := fun ty => Lib.run_next_ascii_at (P := Tryd.prog) wA w.heap.size s i ty HR.out.1 hi (by rw [hx]; exact hx8)
        rw [hx] at hnx
        have hib := hnr.out x hx8
        have HX := Lib.hid hxl
        have HI := Lib.hid (Lib.iterAt_heap wA w.heap.size s i (i + 1) HR.out.1)
        have HB := Lib.hid (bl_iter HR.out.2.1 (Nat.le_refl _) s (i + 1))
        clear hxl hx
        by_cases hok : okc x = true
        · have hib : Lib.indexByte bad2.data.toList ((x.toNat : Int)).toNat.toUInt8 = -1 := by
            rw [hib]
            unfold okc at hok
            simp only [Bool.and_eq_true, bne_iff_ne] at hok
            rw [if_neg hok.2, if_neg hok.1]
          have HN := Lib.hid (all_next HR.out.2.2 HX.out hok)
          clear hok
          go_wp2_with (go_at_call 90; refine (Tryd.strings_IndexRune_ascii _ _ _ (by omega) (by omega)).mono ?_; rintro e w' ⟨rfl, hw⟩; rw [hw, hib])
          go_roundg g
          case measure => omega
          case rel => exact ⟨i + 1, by omega, HI.out, HB.out, HN.out⟩
        · have hge : (0 : Int) ≤ Lib.indexByte bad2.data.toList ((x.toNat : Int)).toNat.toUInt8 := by
            rw [hib]
            unfold okc at hok
            by_cases h1 : x = 47
            · rw [if_pos h1]; omega
            · by_cases h2 : x = 0
              · rw [if_neg h1, if_pos h2]; omega
              · exact absurd (by simp [h1, h2]) hok
          obtain ⟨k, hk⟩ : ∃ k, Lib.indexByte bad2.data.toList ((x.toNat : Int)).toNat.toUInt8 = k := ⟨_, rfl⟩
          rw [hk] at hge
          have HH := Lib.hid (all_hit HX.out (by simpa using hok))
          clear hok hib
          go_wp2_with (go_at_call 90; refine (Tryd.strings_IndexRune_ascii _ _ _ (by omega) (by omega)).mono ?_; rintro e w' ⟨rfl, hw⟩; rw [hw, hk])
          go_ret
          refine ⟨⟨(i : Int), rfl, ?_⟩, HB.out⟩
          rw [HH.out]
          simp
      · have hnx := fun ty => Lib.run_next_any_at (P := Tryd.prog) wA w.heap.size s i ty HR.out.1 hi
        obtain ⟨d1, d2⟩ := decode_high s i hi (by rw [hx]; omega)
        obtain ⟨p1, p2⟩ := dec_pass s i hi (by rw [hx]; omega)
        have d3 := decode_le s i
        generalize Utf8.decode s i = dd at *
        obtain ⟨r, n⟩ := dd
        simp only at hnx d1 d2 p1 p2 d3
        have HI := Lib.hid (Lib.iterAt_heap wA w.heap.size s i (i + n) HR.out.1)
        have HB := Lib.hid (bl_iter HR.out.2.1 (Nat.le_refl _) s (i + n))
        have HN := Lib.hid (all_more HR.out.2.2 n (fun j hj => ⟨s.get! (i + j), get_bang s (i + j) (by omega), okc_high _ (p2 j hj)⟩))
        clear hxl hx p2
        go_wp2_with fail
        refine (irune_ (r : Int) (by omega) (by omega) _).mono ?_
        rintro e w2 ⟨rfl, hb2⟩
        have HB2 := Lib.hid hb2
        clear hb2
        go_wp2_with fail
        go_roundg (g + 1 - n)
        case measure => omega
        case rel => exact ⟨i + n, by omega, blk_bl HI.out HB2.out, bl_then HB.out HB2.out, HN.out⟩
end Go.Proofs.YtbbnfhpemaahjaaDoor.Up
end
section
set_option maxHeartbeats 2000000
set_option maxRecDepth 100000
namespace Go.Proofs.YtbbnfhpemaahjaaDoor.Up
open Go Go.RowKit
open Ob Ba
theorem ret_bool {a b : Bool} (h : a = b) : Ending.returned (.bool a) = .returned (.bool b) := by rw [h]
theorem any_all : ∀ l : List UInt8, decide (0 ≤ Lib.indexAny l [47, 0]) = !(l.all okc)
  | [] => rfl
  | b :: l => by
    have ih := any_all l
    have hg := Lib.indexAny_ge [47, 0] l
    unfold Lib.indexAny
    rw [List.all_cons]
    by_cases h : okc b = true
    · have hc : ([47, 0] : List UInt8).contains b = false := by
        unfold okc at h
        simp only [Bool.and_eq_true, bne_iff_ne] at h
        simp [h.1, h.2]
      rw [hc, h, Bool.true_and, ← ih]
      by_cases h1 : Lib.indexAny l [47, 0] = -1
      · rw [h1]; rfl
      · rw [if_neg (by simp), if_neg (by simpa using h1)]
        rw [decide_eq_true (show 0 ≤ Lib.indexAny l [47, 0] by omega), decide_eq_true (by omega)]
    · have hc : ([47, 0] : List UInt8).contains b = true := by
        unfold okc at h
        by_cases h1 : b = 47
        · subst h1; rfl
        · by_cases h2 : b = 0
          · subst h2; rfl
          · exact absurd (by simp [h1, h2]) h
      rw [hc]
      have h' : okc b = false := by simpa using h
      rw [h']
      rfl
theorem iany_ (s : ByteArray) (hs : s.size < 4294967281) (w : World) : Calls Tryd.prog 82 #[.string s, .string bad2] w fun e w' => AnyIs e (s.data.toList.all okc) ∧ Below w.heap.size w w' := by
  by_cases h8 : s.size ≤ 8
  · exact iany_short s h8 w
  · have hz := (zero_of_info (P := Tryd.prog) (show (Tryd.prog.info? 120).map (fun i => (i.zero, i.size)) = some (some (.agg (Array.replicate 256 (.bool false))), 256) by kernel_rfl)).1
    refine (Tryd.strings_IndexAny_long hz s bad2 w (by decide) (by omega) hs (by decide) (fun j b hb => ?_)).mono ?_
    · have e : bad2.data.toList = [47, 0] := rfl
      rw [e] at hb
      have := List.mem_of_getElem? hb
      simp at this
      rcases this with rfl | rfl <;> decide
    · rintro e w' ⟨h1, h2⟩
      refine ⟨⟨_, h1, any_all s.data.toList⟩, ?_⟩
      rw [h2]
      exact ((Below.refl _ _).alloc (Nat.le_refl _) _).alloc (by simp) _
theorem cany_ (s : ByteArray) (hs : s.size < 4294967281) (w : World) : Calls Tryd.prog 73 #[.string s, .string bad2] w fun e w' => e = .returned (.bool (!(s.data.toList.all okc))) ∧ Below w.heap.size w w' := by
  have HC := Lib.hid (iany_ s hs w)
  generalize s.data.toList.all okc = b at *
  go_enter Tryd.func73, Tryd.ntmps73
  go_wp2_with fail
  refine HC.out.mono ?_
  rintro e w1 ⟨⟨k, rfl, hk⟩, hb1⟩
  have HB1 := Lib.hid hb1
  clear hb1
  generalize hd : decide (0 ≤ k) = d at *
  subst hk
  go_wp2_with fail
  go_ret
  exact ⟨rfl, HB1.out⟩
theorem right_is (s : ByteArray) : rightB s = (decide (s.size ≠ 0) && decide (s.size ≤ 48) && decide (s ≠ ⟨#[46]⟩) && decide (s ≠ ⟨#[46, 46]⟩) && s.data.toList.all okc) := by
  unfold rightB
  rw [Bool.eq_iff_iff]
  simp only [Bool.and_eq_true, decide_eq_true_eq]
  constructor
  · rintro ⟨⟨h1, h2, h3, h4⟩, h5⟩; exact ⟨⟨⟨⟨h1, h2⟩, h3⟩, h4⟩, h5⟩
  · rintro ⟨⟨⟨⟨h1, h2⟩, h3⟩, h4⟩, h5⟩; exact ⟨⟨h1, h2, h3, h4⟩, h5⟩
theorem right_no (s : ByteArray) (h : s.toList = [] ∨ (48 : Int) < (s.size : Int) ∨ s.toList = [46] ∨ s.toList = [46, 46]) : rightB s = false := by
  rw [right_is]
  rcases h with h | h | h | h
  · have : s.size = 0 := by rw [size_data, ← Lib.toList_data, h]; rfl
    simp [this]
  · have : ¬ s.size ≤ 48 := by omega
    simp [this]
  · have : s = ⟨#[46]⟩ := toList_inj (by rw [h, Lib.toList_data])
    simp [this]
  · have : s = ⟨#[46, 46]⟩ := toList_inj (by rw [h, Lib.toList_data])
    simp [this]
theorem right_yes (s : ByteArray) (h1 : ¬ s.toList = []) (h2 : (s.size : Int) ≤ 48) (h3 : ¬ s.toList = [46]) (h4 : ¬ s.toList = [46, 46]) : rightB s = s.data.toList.all okc := by
  rw [right_is]
  have e1 : s.size ≠ 0 := fun e => h1 (by rw [Lib.toList_data]; rw [size_data] at e; exact List.eq_nil_of_length_eq_zero e)
  have e3 : s ≠ ⟨#[46]⟩ := fun e => h3 (by rw [e, Lib.toList_data])
  have e4 : s ≠ ⟨#[46, 46]⟩ := fun e => h4 (by rw [e, Lib.toList_data])
  have e2 : s.size ≤ 48 := by omega
  simp [e1, e2, e3, e4]
theorem right_ (s : ByteArray) (hs : s.size < 4294967281) (w : World) : Calls Tryd.prog 56 #[.string s] w fun e w' => e = .returned (.bool (rightB s)) ∧ Below w.heap.size w w' := by
  have HC := Lib.hid (cany_ s hs w)
  have HN := Lib.hid (right_no s)
  have HY := Lib.hid (right_yes s)
  generalize rightB s = R at *
  generalize s.data.toList.all okc = b at *
  go_enter Tryd.func56, Tryd.ntmps56
  go_wp2_with (go_at_call 73; refine HC.out.mono ?_; rintro e w1 ⟨rfl, hb1⟩; (have HB1 := Lib.hid hb1); clear hb1)
  · go_ret
    exact ⟨ret_bool (HN.out (.inl ‹_›)).symm, Below.refl _ _⟩
  · go_ret
    exact ⟨ret_bool (HN.out (.inr (.inr (.inl ‹_›)))).symm, Below.refl _ _⟩
  · go_ret
    exact ⟨ret_bool (HN.out (.inr (.inr (.inr ‹_›)))).symm, Below.refl _ _⟩
  · go_ret
    exact ⟨ret_bool (by rw [HY.out ‹_› ‹_› ‹_› ‹_›]; simp; exact fun _ => ⟨⟨‹_›, ‹_›⟩, ‹_›⟩), HB1.out⟩
  · go_ret
    exact ⟨ret_bool (HN.out (.inr (.inl ‹_›))).symm, Below.refl _ _⟩
end Go.Proofs.YtbbnfhpemaahjaaDoor.Up
end
section
set_option maxHeartbeats 2000000
set_option maxRecDepth 100000
namespace Go.Proofs.YtbbnfhpemaahjaaDoor.Up
open Go Go.RowKit
open Ob Ba
theorem may1_ (s : ByteArray) (hs : s.size < 4294967281) (w : World) : Calls Tryd.prog 55 #[.string s] w fun e w' => e = .returned (.bool (!rightB s)) ∧ Below w.heap.size w w' := by
  have HR := Lib.hid (right_ s hs w)
  generalize rightB s = R at *
  go_enter Tryd.func55, Tryd.ntmps55
  go_wp2_with fail
  refine HR.out.mono ?_
  rintro e w1 ⟨rfl, hb1⟩
  have HB1 := Lib.hid hb1
  clear hb1
  go_wp2_with fail
  go_ret
  exact ⟨rfl, HB1.out⟩
theorem all_nextR {l : List ByteArray} {i : Nat} {c : ByteArray} (h : (l.take i).all rightB = true) (hi : l[i]? = some c) (hc : rightB c = true) : (l.take (i + 1)).all rightB = true := by
  rw [take_next hi, List.all_append, h]
  simp [hc]
theorem all_hitR {l : List ByteArray} {i : Nat} {c : ByteArray} (hi : l[i]? = some c) (hc : rightB c = false) : l.all rightB = false := by
  rw [← Bool.not_eq_true, List.all_eq_true]
  intro h
  have := h c (List.mem_of_getElem? hi)
  rw [hc] at this
  cases this
theorem idxf_ {w : World} {A : Option Addr} {l : List ByteArray} (h : Rs w A l) (hsz : ∀ x ∈ l, x.size < 4294967281) (c : Nat) (hl : l.length ≤ 1000000000) :
    Calls Tryd.prog 72 #[.slice A l.length c, .func (.func 55) #[] #[]] w fun e w' => AnyIs e (l.all rightB) ∧ Below w.heap.size w w' := by
  have H := Lib.hid h
  have HS := Lib.hid hsz
  obtain ⟨m, hm⟩ : ∃ m, m = l.length := ⟨_, rfl⟩
  rw [← hm] at hl
  rw [← hm]
  have HN := Lib.hid hm
  obtain ⟨R, hR⟩ : ∃ R, R = l.all rightB := ⟨_, rfl⟩
  rw [← hR]
  have HRR := Lib.hid hR
  clear h hm hR hsz
  go_enter Tryd.func72, Tryd.ntmps72
  go_wp2_with fail
  go_loopw [8] (fun c8 wr => ∃ i : Nat, i ≤ m ∧ c8 = .int .i64 i ∧ Hid ((l.take i).all rightB = true ∧ Below w.heap.size w wr)) (fun c8 _ => m - (intOf c8).toNat)
  case atStart => exact ⟨0, Nat.zero_le _, rfl, rfl, Below.refl _ _⟩
  case round =>
    obtain ⟨i, hi, rfl, HR⟩ := hrel
    by_cases hlt : i < m
    · obtain ⟨p, hp⟩ := some_at (l := l) (i := i) (by rw [← HN.out]; exact hlt)
      obtain ⟨a, rfl, -, g1⟩ := (H.out.below HR.out.2) i p hp
      have HP := Lib.hid hp
      have HC := Lib.hid (may1_ p (HS.out p (List.mem_of_getElem? hp)) wr)
      clear hp
      cases hr : rightB p with
      | false =>
        have HF : Hid (R = false) := by show _ = _; rw [HRR.out]; exact all_hitR HP.out hr
        rw [hr] at HC
        clear hr
        go_wp2_with fail
        refine HC.out.mono ?_
        rintro e w2 ⟨rfl, hb2⟩
        have HB2 := Lib.hid (bl_then HR.out.2 hb2)
        clear hb2
        go_wp2_with fail
        go_ret
        exact ⟨⟨(i : Int), rfl, by rw [HF.out]; simp⟩, HB2.out⟩
      | true =>
        have HF := Lib.hid (all_nextR HR.out.1 HP.out hr)
        rw [hr] at HC
        clear hr
        go_wp2_with fail
        refine HC.out.mono ?_
        rintro e w2 ⟨rfl, hb2⟩
        have HB2 := Lib.hid (bl_then HR.out.2 hb2)
        clear hb2
        go_wp2_with fail
        go_roundw
        case rel => exact ⟨i + 1, by omega, by go_num, HF.out, HB2.out⟩
        case measure => simp [intOf]; omega
    · obtain rfl : i = m := by omega
      have HF : Hid (R = true) := by
        show _ = _
        have := HR.out.1
        rw [List.take_of_length_le (by rw [← HN.out]; exact Nat.le_refl _)] at this
        rw [HRR.out, this]
      go_wp2_with fail
      go_ret
      exact ⟨⟨-1, rfl, by rw [HF.out]; rfl⟩, HR.out.2⟩
theorem contf_ {w : World} {A : Option Addr} {l : List ByteArray} (h : Rs w A l) (hsz : ∀ x ∈ l, x.size < 4294967281) (c : Nat) (hl : l.length ≤ 1000000000) :
    Calls Tryd.prog 54 #[.slice A l.length c, .func (.func 55) #[] #[]] w fun e w' => e = .returned (.bool (!(l.all rightB))) ∧ Below w.heap.size w w' := by
  have HC := Lib.hid (idxf_ h hsz c hl)
  generalize l.all rightB = b at *
  generalize l.length = ll at *
  clear h hsz
  go_enter Tryd.func54, Tryd.ntmps54
  go_wp2_with fail
  refine HC.out.mono ?_
  rintro e w1 ⟨⟨k, rfl, hk⟩, hb1⟩
  have HB1 := Lib.hid hb1
  clear hb1
  generalize hd : decide (0 ≤ k) = d at *
  subst hk
  go_wp2_with fail
  go_ret
  exact ⟨rfl, HB1.out⟩
theorem pmay_ {w : World} {A : Option Addr} {l : List ByteArray} (h : Rs w A l) (hsz : ∀ x ∈ l, x.size < 4294967281) (c : Nat) (hl : l.length ≤ 1000000000) :
    Calls Tryd.prog 36 #[.slice A l.length c] w fun e w' => e = .returned (.bool (mayB l)) ∧ Below w.heap.size w w' := by
  have HC := Lib.hid (contf_ h hsz c hl)
  obtain ⟨R, hR⟩ : ∃ R, R = mayB l := ⟨_, rfl⟩
  rw [← hR]
  unfold mayB at hR
  generalize l.all rightB = b at *
  generalize l.length = ll at *
  clear h hsz
  by_cases h64 : (ll : Int) ≤ 64
  · have e1 : R = b := by rw [hR, decide_eq_true (by omega)]; simp
    subst e1
    clear hR
    go_enter Tryd.func36, Tryd.ntmps36
    go_wp2_with fail
    refine HC.out.mono ?_
    rintro e w1 ⟨rfl, hb1⟩
    have HB1 := Lib.hid hb1
    clear hb1
    go_wp2_with fail
    go_ret
    exact ⟨ret_bool (by simp), HB1.out⟩
  · have e1 : R = false := by rw [hR, decide_eq_false (by omega)]; rfl
    subst e1
    clear hR
    go_enter Tryd.func36, Tryd.ntmps36
    go_wp2_with fail
    go_ret
    exact ⟨rfl, Below.refl _ _⟩
end Go.Proofs.YtbbnfhpemaahjaaDoor.Up
end
