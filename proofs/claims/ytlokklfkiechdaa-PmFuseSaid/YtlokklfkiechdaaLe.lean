/- Acts, opened. -/
import Derived.Test.YtlokklfkiechdaaLa
import Derived.Lib.SmallJoins
import Derived.Deep.Slices
import Derived.Deep.Fields
import Derived.ChangeSame
set_option linter.unusedVariables false
set_option linter.unusedSimpArgs false
namespace Go.Proofs.Ytlokklfkiechdaa.La
open Go Go.RowKit Go.ChangeShapes Go.WideShapes Go.Deep Go.Joins

theorem cell_plain {w : World} {a : Addr} {v : Value} (h : w.cell? a = some v) : a = ⟨a.block, a.off, none⟩ ∧ a.block < w.heap.size := by
  obtain ⟨b, o, s⟩ := a
  simp only [World.cell?] at h
  split at h
  · rename_i c e f hb
    refine ⟨?_, (Array.getElem?_eq_some_iff.1 hb).1⟩
    cases s with
    | none => rfl
    | some _ => simp at h
  · cases h

theorem int_wf {k : IntKind} {n : Int} (h : (Lit.int k n).wf = true) : k.min ≤ n ∧ n ≤ k.max := by
  simpa [Lit.wf] using h

instance : Inhabited Act := ⟨⟨0, 0, 0, none, 0, 0⟩⟩

set_option maxRecDepth 100000 in
theorem acts_open {H : Type} {enc : TypeId × Value → H} {w : World} {fuel : Nat} {cs : List Value} {x : DataW H × List MemPlace} (h : DataW.trod enc Try.prog w 0 (fun _ => true) true fuel 53 cs = some x) :
    ∃ (A : Option Addr) (l : List Act) (c : Nat), cs = [.slice A l.length c] ∧ ActsAt w A l ∧ l.length ≤ 9223372036854775807 := by
  rcases open_slice Try.underlying53 h with ⟨rfl, _⟩ | ⟨a, len, cap, m, n, D, Pl, rfl, _, hl, hm, hmm, _, hi⟩
  · exact ⟨none, [], 0, rfl, by intro i x hx; simp at hx, by simp⟩
  · have hC : Try.prog.cellsOf 57 = 4 := by kernel_rfl
    rw [hC] at hi
    simp only [if_true] at hmm
    have hex : ∀ i, i < len → ∃ x : Act, x.Wf ∧ w.cell? (a.add (i * 4)) = some (.int .u8 x.k) ∧ w.cell? (a.add (i * 4 + 1)) = some (.int .i64 x.W) ∧ w.cell? (a.add (i * 4 + 2)) = some (.int .u64 x.X) ∧ w.cell? (a.add (i * 4 + 3)) = some (.slice x.ca x.cl x.cc) := by
      intro i hil
      obtain ⟨cs', hc, ht⟩ := hi i (by omega)
      obtain ⟨_, hcl, hat⟩ := World.cells?_some hc
      obtain ⟨ys, n', _, _, _, hyl, hf⟩ := DataW.trod_struct Try.underlying57 ht
      match cs', hcl with
      | [c0, c1, c2, c3], _ =>
        match ys, hyl with
        | [y0, y1, y2, y3], _ =>
          have o1 : Try.prog.cellsOf 5 = 1 := by kernel_rfl
          have o2 : Try.prog.cellsOf 3 = 1 := by kernel_rfl
          have o3 : Try.prog.cellsOf 26 = 1 := by kernel_rfl
          have o4 : Try.prog.cellsOf 54 = 1 := by kernel_rfl
          have g0 : DataW.trod enc Try.prog w 0 (fun _ => true) true n' 5 [c0] = some y0 := by have := hf 0 _ rfl; simpa [o1] using this
          have g1 : DataW.trod enc Try.prog w 0 (fun _ => true) true n' 3 [c1] = some y1 := by have := hf 1 _ rfl; simpa [o2] using this
          have g2 : DataW.trod enc Try.prog w 0 (fun _ => true) true n' 26 [c2] = some y2 := by have := hf 2 _ rfl; simpa [o3] using this
          have g3 : DataW.trod enc Try.prog w 0 (fun _ => true) true n' 54 [c3] = some y3 := by have := hf 3 _ rfl; simpa [o4] using this
          obtain ⟨k, e0, _, w0⟩ := DataW.trod_int Try.underlying5 g0
          obtain ⟨W, e1, _, w1⟩ := DataW.trod_int Try.underlying3 g1
          obtain ⟨X, e2, _, w2⟩ := DataW.trod_int Try.underlying26 g2
          obtain ⟨ca, cl, cc, e3⟩ := slice_form Try.underlying54 g3
          simp only [List.cons.injEq, and_true] at e0 e1 e2 e3
          subst e0 e1 e2 e3
          have b0 := int_wf w0
          have b1 := int_wf w1
          have b2 := int_wf w2
          simp [IntKind.min, IntKind.max, IntKind.bits, IntKind.signed] at b0 b1 b2
          refine ⟨⟨k, W, X, ca, cl, cc⟩, ⟨by simp; omega, by simp; omega, by simp; omega, by simp; omega, by simp; omega, by simp; omega⟩, ?_, ?_, ?_, ?_⟩
          · have := hat 0 (by omega); rw [add_add] at this; exact this
          · have := hat 1 (by omega); rw [add_add] at this; exact this
          · have := hat 2 (by omega); rw [add_add] at this; exact this
          · have := hat 3 (by omega); rw [add_add] at this; exact this
    obtain ⟨f, hf⟩ := choose_lt hex
    refine ⟨some a, (List.range len).map f, cap, by simp, ?_, by simp; unfold maxLen at hm; omega⟩
    intro i x hx
    rw [List.getElem?_map] at hx
    have hil : i < len := by
      cases hr : (List.range len)[i]? with
      | none => rw [hr] at hx; cases hx
      | some z => have := (List.getElem?_eq_some_iff.1 hr).1; simpa using this
    rw [List.getElem?_range hil] at hx
    cases hx
    obtain ⟨hw, c0, c1, c2, c3⟩ := hf i hil
    have hp : a = ⟨a.block, a.off, none⟩ := by
      have := (hf 0 (by omega)).2.1
      exact (cell_plain (a := a) (by simpa [Addr.add] using this)).1
    obtain ⟨p1, p2⟩ := cell_plain c0
    rw [hp] at c0 c1 c2 c3 ⊢
    rw [add_plain] at c0 c1 c2 c3
    have hblk : (a.add (i * 4)).block = a.block := by rw [hp, add_plain]
    exact ⟨hw, a.block, a.off, rfl, by rw [hblk] at p2; exact p2, c0, by rw [Nat.add_assoc]; exact c1, by rw [Nat.add_assoc]; exact c2, by rw [Nat.add_assoc]; exact c3⟩

end Go.Proofs.Ytlokklfkiechdaa.La
