/- Parts of the proof, one behind the other: Ap. -/
import Derived.Test.YtichcdoijieddaaGreatG15

/- Arguments opened: rows of numbers with a sign. -/
section
namespace Go.Proofs.YtichcdoijieddaaGreat.Ao
open Go Go.RowKit Go.ChangeShapes Go.WideShapes Go.ChangeAt Go.Joins Go.Deep
open Go.Proofs.YtichcdoijieddaaGreat.Ba
set_option linter.unusedVariables false
set_option maxHeartbeats 2000000
set_option maxRecDepth 100000

theorem ints_open {H : Type} {enc : TypeId × Value → H} {w : World} {fuel : Nat} {cs : List Value} {x : DataW H × List MemPlace} (h : DataW.trod enc Tryz.prog w 0 (fun _ => true) true fuel 48 cs = some x) :
    ∃ (A : Option Addr) (l : List Int) (c : Nat), cs = [.slice A l.length c] ∧ Rk .i64 w A l ∧ l.length ≤ 9223372036854775807 := by
  rcases open_ints Tryz.underlying48 Tryz.underlying3 (by kernel_rfl) h with ⟨hcs, _⟩ | ⟨a, l, c, zs, hcs, _, hl, hm, hz, _, hcell, hwz⟩
  · exact ⟨none, [], 0, hcs, Rk.nil _ _ _, by decide⟩
  · simp only [if_true] at hz
    have hlen : (zs.take l).length = l := by rw [List.length_take]; omega
    refine ⟨some a, zs.take l, c, by rw [hlen]; exact hcs, ?_, by rw [hlen]; unfold maxLen at hm; omega⟩
    intro i z hx
    obtain ⟨hi, hz2⟩ := List.getElem?_eq_some_iff.1 hx
    rw [List.getElem_take] at hz2
    simp only [List.length_take] at hi
    have hi2 : i < zs.length := by omega
    have hci := hcell i hi2
    obtain ⟨p1, p2⟩ := cell_plain hci
    refine ⟨a, rfl, by rw [add_block] at p2; exact p2, ?_⟩
    rw [hci, List.getD_eq_getElem?_getD, List.getElem?_eq_getElem hi2, hz2]
    rfl


end Go.Proofs.YtichcdoijieddaaGreat.Ao
end
