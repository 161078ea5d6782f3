/- A device's open words' keys, sorted. -/
import Derived.Test.YtlokklfkiechdaaPmN
set_option linter.unusedVariables false
set_option linter.unusedSimpArgs false
set_option maxHeartbeats 1000000
namespace Go.Proofs.Ytlokklfkiechdaa.Pm
open Go Go.RowKit Go.Maps Go.Sort Go.Shelf
open Go.ChangeMaps (setBlock)
open Go.Proofs.Ytlokklfkiechdaa.Ob Go.Proofs.Ytlokklfkiechdaa.Mp Go.Proofs.Ytlokklfkiechdaa.Dv Go.Proofs.Ytlokklfkiechdaa.Wl

theorem sorts (m : Nat) : AnyZI.SortsIn Try.prog Go.Proofs.Ytlokklfkiechdaa.sortedA_ren Fence.wide m :=
  ⟨fun blk off cap ss W hH hblk hsz => callsIn_wide.2 (AnyM.slices_Sort_int Go.Proofs.Ytlokklfkiechdaa.sortA blk off cap ss W hH hblk hsz),
   fun p cap W => callsIn_wide.2 (AnyM.slices_Sort_int_none Go.Proofs.Ytlokklfkiechdaa.sortA p cap W)⟩

theorem keys_call (mb : Option Nat) (W : World) : Calls Try.prog 55 #[.map mb] W fun e w' => e = .returned (.func (.func 72) #[] #[.pointer (some ⟨W.heap.size, 0, none⟩)]) ∧ w' = W.alloc (.cells #[.map mb] 71) :=
  (callsIn_wide (n := 5)).1 (AnyZI.keys_in Go.Proofs.Ytlokklfkiechdaa.keysA Fence.wide 5 trivial rfl mb W)

theorem sorted_call {w : World} {b : Nat} {d : Dev} {g : Lay} (h : DevIs w b d g) :
    Calls Try.prog 54 #[.func (.func 72) #[] #[.pointer (some ⟨w.heap.size, 0, none⟩)]] (w.alloc (.cells #[.map (some g.M)] 71)) fun e w' => ∃ (v : Value) (ss : List Int), e = .returned v ∧ ss.Perm (d.opn.map (·.1)) ∧
      w'.ownsRow (w.heap.size + 1) 3 1 v ss.length ((ss.mergeSort (fun x y => decide (x ≤ y))).map encZ) ∧ Below (w.heap.size + 1) (w.alloc (.cells #[.map (some g.M)] 71)) w' := by
  obtain ⟨D, hown, hperm, hsize⟩ := dev_owns h
  have hl := opn_len h.wf
  have hl2 : g.es.length = d.opn.length := by rw [h.opn, List.length_map]
  have hbl := hown.lt
  have hmax : Maps.size D ≤ maxLen := by rw [hsize]; unfold maxLen; omega
  have hbytes : Maps.size D * 8 ≤ 140737488355328 := by rw [hsize]; omega
  have hseq : SeqGives Fence.wide 2 Try.prog 72 #[.pointer (some ⟨w.heap.size, 0, none⟩)] encZ (fun ss => ss.Perm (intKeys D)) (Maps.size D) (w.alloc (.cells #[.map (some g.M)] 71)) :=
    AnyZI.keys_gives (ρ := Go.Proofs.Ytlokklfkiechdaa.keysA_ren) { Go.Proofs.Ytlokklfkiechdaa.keysA with } Fence.wide _ trivial rfl (by omega) w.heap.size g.M g.es.length D _ (by simp) (by simp) (by
      obtain ⟨es, clock, hb, Ft, hs, hD⟩ := hown
      exact ⟨es, clock, (Below.heap_alloc _ _ g.M hbl).trans hb, Ft, hs, hD⟩)
  have cS := AnyZI.sorted_in Go.Proofs.Ytlokklfkiechdaa.sortedA Fence.wide 5 trivial trivial trivial trivial rfl (by omega) (sorts _) (enters_of Try.func71 (by kernel_rfl) rfl) 72 #[.pointer (some ⟨w.heap.size, 0, none⟩)] trivial (enters_of Try.func72 (by kernel_rfl) rfl) _ _ hmax hbytes _ hseq
  refine ((callsIn_wide (n := 5)).1 cS).mono ?_
  rintro e w' ⟨v, ss, rfl, hS, hrow, hnil, hb⟩
  refine ⟨v, ss, rfl, hS.trans hperm, ?_, ?_⟩
  · rw [World.size_alloc] at hrow
    exact hrow
  · rw [World.size_alloc] at hb
    exact hb

end Go.Proofs.Ytlokklfkiechdaa.Pm
