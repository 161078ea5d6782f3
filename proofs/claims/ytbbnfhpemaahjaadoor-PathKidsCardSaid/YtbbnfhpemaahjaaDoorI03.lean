/- Parts of the proof, one behind the other: Ul, Uz, Um, Un, Uo, Us, Ut. -/
import Derived.Test.YtbbnfhpemaahjaaDoorI02
import Derived.BigRegion
import Derived.Lib.BufferWrite
import Derived.RegionTactic
import Derived.ChangeAlike
import Derived.Test.YtbbnfhpemaahjaaDoorRows
import Derived.Test.YtbbnfhpemaahjaaDoorCards
import Derived.Test.YtbbnfhpemaahjaaDoorTie
import Derived.ProofKit
import Derived.OpenShut
import Derived.ShutString
import Derived.SliceStrings
import Derived.ChangeOld
import Derived.ChangeMaps5
import Derived.Below
import Derived.ChangeSame
import Derived.HandedShaped
import Derived.Shelf.Vars
import Derived.LaidMore
import Derived.Lay
import Derived.LaidOnce
import Derived.SevenTiedAt
import Derived.Laws.AppendOwnNone
set_option linter.unusedVariables false
set_option linter.unusedSimpArgs false
set_option linter.unusedSectionVars false
section
set_option maxHeartbeats 2000000
set_option maxRecDepth 100000
namespace Go.Proofs.YtbbnfhpemaahjaaDoor.Up
open Go Go.RowKit
open Ob Ba Oc Pk Cr C6 Cc Su
def ab : ByteArray := ⟨#[97, 98]⟩
theorem right_ab : rightB ab = true := by decide
theorem emay_ (w : World) : Calls Tryd.prog 64 #[.agg #[.string ab, .int .i64 258]] w fun e w' => e = .returned (.bool true) ∧ Below w.heap.size w w' := by
  have HR := Lib.hid (fun W => right_ ab (by decide) W)
  rw [right_ab] at HR
  go_enter Tryd.func64, Tryd.ntmps64
  go_wp2_with fail
  refine (HR.out _).mono ?_
  rintro e w1 ⟨rfl, hb⟩
  have h0 := alloc_new w (.cells #[.string ab, .int .i64 258] 80)
  have h1 := (hb.block w.heap.size (by simp)).trans h0
  have hc1 : w1.cell? ⟨w.heap.size, 1, none⟩ = some (.int .i64 258) := by rw [cell_of h1]; rfl
  have HB := Lib.hid hb
  clear hb h0 h1
  go_wp2_with fail
  go_ret
  exact ⟨rfl, bl_then ((Below.refl _ _).alloc (Nat.le_refl _) _) HB.out⟩
theorem l60_lt : ∀ x ∈ [2, 1, 2, 0, 97, 98] ++ List.replicate 54 0, x < 256 := by decide
theorem make64 : ∃ C : Array Value, C.size = 64 ∧ (∀ i, i < 64 → C[i]? = some (.int .u8 0)) ∧ ∀ W : World, (Instr.makeSlice 40 (.int .i64 60) (.int .i64 64)).run Tryd.prog W = .ok (.slice (some ⟨W.heap.size, 0, none⟩) 60 64) (W.alloc (.cells C 5 (0, 0))) := by
  obtain ⟨i0, hinf, hz0, hz1, hz2⟩ := info_parts (show (Tryd.prog.info? 5).map (fun i => (i.zero, i.size, i.bytes)) = some (some (.int .u8 0), 1, 1) by kernel_rfl)
  refine ⟨_, ?_, ?_, fun W => run_make (P := Tryd.prog) W 40 5 i0 (.int .u8 0) Tryd.underlying40 hinf hz0 .i64 .i64 60 64 (by omega) (by omega) (by rw [hz2]; omega) (by omega)⟩
  · rw [hz1, size_madeCells]; rfl
  · intro i hi
    rw [hz1]
    have e1 : i % 1 = 0 := by omega
    simp [madeCells, Value.cells, hi, e1]
theorem enc_ (w : World) : Calls Tryd.prog 49 #[.agg #[.string ab, .int .i64 258]] w fun e w' => ∃ A c L, e = .returned (.tuple #[.slice A 64 c, .int .i64 0]) ∧ w'.ownsRow w.heap.size 5 1 (.slice A 64 c) 64 (ivs .u8 (ints L)) ∧ L.take 7 = [2, 1, 2, 0, 97, 98, 0] ∧ (∀ x ∈ L, x < 256) ∧ L.length = 64 ∧ Below w.heap.size w w' := by
  have HM := Lib.hid (fun W => emay_ W)
  obtain ⟨C, hCs, hC, hmk⟩ := make64
  go_enter Tryd.func49, Tryd.ntmps49
  go_wp2_with fail
  refine (HM.out _).mono ?_
  rintro e w1 ⟨rfl, hb⟩
  have h0 := alloc_new w (.cells #[.string ab, .int .i64 258] 80)
  have h1 := (hb.block w.heap.size (by simp)).trans h0
  have HB := Lib.hid (bl_then ((Below.refl _ _).alloc (Nat.le_refl _) _) hb)
  have hlt := lt_of h1
  clear hb h0
  go_wp2_with fail
  obtain ⟨q, hq⟩ : ∃ q, q = w1.heap.size := ⟨_, rfl⟩
  obtain ⟨b, hb⟩ : ∃ b, b = w.heap.size := ⟨_, rfl⟩
  rw [← hq, ← hb]
  have h2 := alloc_new w1 (.cells C 5)
  have h3 := alloc_old h1 (.cells C 5)
  have HB2 := Lib.hid (HB.out.alloc (B := w.heap.size) (Nat.le_of_lt hlt) (.cells C 5))
  rw [← hq] at h2
  rw [← hb] at h3
  have hbq : b ≠ q := by omega
  have hqb : q ≠ b := by omega
  have HQ := Lib.hid hq
  have HLO := Lib.hid (Nat.le_of_lt hlt)
  have HBB := Lib.hid hb
  clear h1 hlt HM hmk HB
  generalize w1.alloc (.cells C 5) = W at *
  have c0 : W.cell? ⟨b, 0, none⟩ = some (.string ab) := by rw [cell_of h3]; rfl
  have c1 : W.cell? ⟨b, 1, none⟩ = some (.int .i64 258) := by rw [cell_of h3]; rfl
  have q0 : W.cell? ⟨q, 0, none⟩ = some (.int .u8 0) := by rw [cell_of h2]; exact hC 0 (by omega)
  have q1 : W.cell? ⟨q, 1, none⟩ = some (.int .u8 0) := by rw [cell_of h2]; exact hC 1 (by omega)
  have q2 : W.cell? ⟨q, 2, none⟩ = some (.int .u8 0) := by rw [cell_of h2]; exact hC 2 (by omega)
  have f0 : W.frozen? ⟨q, 0, none⟩ = false := free_of h2 _
  have f1 : W.frozen? ⟨q, 1, none⟩ = false := free_of h2 _
  have f2 : W.frozen? ⟨q, 2, none⟩ = false := free_of h2 _
  have H3 := Lib.hid h3
  have H2 := Lib.hid h2
  have HC := Lib.hid hC
  have HCS := Lib.hid hCs
  clear h3 h2 hC hq hb hCs
  go_region
  have e2 : (Value.int IntKind.u8 ((ab.size : Int) % 256)) = .int .u8 2 := rfl
  rw [e2]
  have h4 : ((((W.setCell ⟨q, 0, none⟩ (.int .u8 2)).setCell ⟨q, 1, none⟩ (.int .u8 1)).setCell ⟨q, 2, none⟩ (.int .u8 2)).drew).heap[q]? = some (.cells (((C.setIfInBounds 0 (.int .u8 2)).setIfInBounds 1 (.int .u8 1)).setIfInBounds 2 (.int .u8 2)) 5 (0, 0)) := set_same (set_same (set_same H2.out 0 (.int .u8 2)) 1 (.int .u8 1)) 2 (.int .u8 2)
  have h5 : ((((W.setCell ⟨q, 0, none⟩ (.int .u8 2)).setCell ⟨q, 1, none⟩ (.int .u8 1)).setCell ⟨q, 2, none⟩ (.int .u8 2)).drew).heap[b]? = some (.cells #[.string ab, .int .i64 258] 80 (0, 0)) := set_other (set_other (set_other H3.out (a := ⟨q, 0, none⟩) hbq (.int .u8 2)) (a := ⟨q, 1, none⟩) hbq (.int .u8 1)) (a := ⟨q, 2, none⟩) hbq (.int .u8 2)
  have HB4 : Hid (Below w.heap.size w ((((W.setCell ⟨q, 0, none⟩ (.int .u8 2)).setCell ⟨q, 1, none⟩ (.int .u8 1)).setCell ⟨q, 2, none⟩ (.int .u8 2)).drew)) := by
    have hlo : w.heap.size ≤ q := by rw [HQ.out]; exact HLO.out
    exact bl_drew (bl_set (bl_set (bl_set HB2.out hlo _) hlo _) hlo _)
  clear c0 c1 q0 q1 q2 f0 f1 f2 H2 H3 HB2
  generalize ((((W.setCell ⟨q, 0, none⟩ (.int .u8 2)).setCell ⟨q, 1, none⟩ (.int .u8 1)).setCell ⟨q, 2, none⟩ (.int .u8 2)).drew) = W4 at *
  obtain ⟨D, hD⟩ : ∃ D, D = ((C.setIfInBounds 0 (.int .u8 2)).setIfInBounds 1 (.int .u8 1)).setIfInBounds 2 (.int .u8 2) := ⟨_, rfl⟩
  rw [← hD] at h4
  have d0 : D[0]? = some (.int .u8 2) := by rw [hD]; simp [Array.getElem?_setIfInBounds, HCS.out]
  have d1 : D[1]? = some (.int .u8 1) := by rw [hD]; simp [Array.getElem?_setIfInBounds, HCS.out]
  have d2 : D[2]? = some (.int .u8 2) := by rw [hD]; simp [Array.getElem?_setIfInBounds, HCS.out]
  have dk : ∀ i, 2 < i → i < 64 → D[i]? = some (.int .u8 0) := by
    intro i h1 h2
    rw [hD, Array.getElem?_setIfInBounds, if_neg (by omega), Array.getElem?_setIfInBounds, if_neg (by omega), Array.getElem?_setIfInBounds, if_neg (by omega)]
    exact HC.out i h2
  have ds : D.size = 64 := by rw [hD]; simpa using HCS.out
  have c0 : W4.cell? ⟨b, 0, none⟩ = some (.string ab) := by rw [cell_of h5]; rfl
  have q4 : W4.cell? ⟨q, 4, none⟩ = some (.int .u8 0) := by rw [cell_of h4]; exact dk 4 (by omega) (by omega)
  have q5 : W4.cell? ⟨q, 5, none⟩ = some (.int .u8 0) := by rw [cell_of h4]; exact dk 5 (by omega) (by omega)
  have f4 : W4.frozen? ⟨q, 4, none⟩ = false := free_of h4 _
  have f5 : W4.frozen? ⟨q, 5, none⟩ = false := free_of h4 _
  have H4 := Lib.hid h4
  have DD := Lib.hid (And.intro d0 (And.intro d1 (And.intro d2 (And.intro dk ds))))
  have hDl : D.toList = ivs .u8 (ints ([2, 1, 2] ++ List.replicate 61 0)) := by
    apply List.ext_getElem?
    intro i
    rw [Array.getElem?_toList]
    by_cases hi : i < 64
    · match i, hi with
      | 0, _ => exact d0
      | 1, _ => exact d1
      | 2, _ => exact d2
      | i + 3, hi =>
        rw [dk (i + 3) (by omega) hi]
        have e1 : (ivs .u8 (ints ([2, 1, 2] ++ List.replicate 61 0))) = [.int .u8 2, .int .u8 1, .int .u8 2] ++ List.replicate 61 (.int .u8 0) := rfl
        rw [e1, List.getElem?_append_right (by simp), List.getElem?_replicate, if_pos (by simp; omega)]
    · rw [Array.getElem?_eq_none (by omega), List.getElem?_eq_none (by show 64 ≤ i; omega)]
  obtain ⟨R, hR, hcp⟩ : ∃ R : Array Value, R.toList = ivs .u8 (ints ([2, 1, 2, 0, 97, 98] ++ List.replicate 58 0)) ∧ (Builtin.copy_ #[40, 9] 3 #[.slice (some ⟨q, 4, none⟩) 56 60, .string ab]).run Tryd.prog W4.drew = .ok (.int .i64 2) (W4.drew.setRow q R) := by
    refine ⟨_, ?_, Lib.run_copy_row_string (P := Tryd.prog) W4.drew 40 9 3 5 q 4 56 60 ab D 5 Tryd.underlying40 (by kernel_rfl) h4 (by decide) (by rw [ds]; decide)⟩
    rw [hDl]
    rfl
  have h6 : (W4.drew.setRow q R).heap[q]? = some (.cells R 5 (0, 0)) := setRow_heap _ q D R _ _ h4
  have h7 : (W4.drew.setRow q R).heap[b]? = some (.cells #[.string ab, .int .i64 258] 80 (0, 0)) := (setRow_other _ q b R hbq).trans h5
  have HB5 : Hid (Below w.heap.size w (W4.drew.setRow q R)) := by
    have h := bl_drew HB4.out
    have hlo : w.heap.size ≤ q := by rw [HQ.out]; exact HLO.out
    exact ⟨h.os, h.tape, h.output, by rw [size_setRow]; exact h.size, fun k hk => (setRow_other _ _ _ _ (by omega)).trans (h.block k hk)⟩
  clear h4 h5 hD d0 d1 d2 dk ds HC HCS hDl q4 q5 f4 f5 HB4
  go_wp2_with fail
  go_region
  clear hcp c0
  generalize W4.drew.setRow q R = W5 at *
  have hown : W5.ownsRow w.heap.size 5 1 (.slice (some ⟨q, 0, none⟩) 60 64) 60 (ivs .u8 (ints ([2, 1, 2, 0, 97, 98] ++ List.replicate 54 0))) := by
    refine ⟨rfl, .inr ⟨q, 64, R, rfl, by rw [HQ.out]; exact HLO.out, h6, by omega, by decide, ?_, ?_⟩⟩
    · show R.toList.length = 64
      rw [hR]
      rfl
    · rw [hR]
      rfl
  have HO5 := Lib.hid hown
  have hrk : Rk .u8 (W5.alloc (.cells #[.slice (some ⟨q, 0, none⟩) 60 64] 40)) (some ⟨q, 0, none⟩) (ints ([2, 1, 2, 0, 97, 98] ++ List.replicate 54 0)) := by
    refine blk_rk (alloc_old h6 _) fun i x hx => ?_
    have e1 : R[i]? = (ivs .u8 (ints ([2, 1, 2, 0, 97, 98] ++ List.replicate 58 0)))[i]? := by rw [← hR, Array.getElem?_toList]
    rw [e1]
    have e2 : [2, 1, 2, 0, 97, 98] ++ List.replicate 58 0 = ([2, 1, 2, 0, 97, 98] ++ List.replicate 54 0) ++ List.replicate 4 0 := rfl
    rw [e2, ints_append, ivs_append, List.getElem?_append_left (by have := (List.getElem?_eq_some_iff.1 hx).1; simpa [ivs] using this)]
    simp only [ivs, List.getElem?_map, hx, Option.map_some]
  have hps : PsAt (W5.alloc (.cells #[.slice (some ⟨q, 0, none⟩) 60 64] 40)) (some ⟨W5.heap.size, 0, none⟩) [⟨some ⟨q, 0, none⟩, 64, [2, 1, 2, 0, 97, 98] ++ List.replicate 54 0⟩] := by
    intro i p hp
    match i with
    | 0 =>
      simp at hp
      subst hp
      exact ⟨⟨hrk, l60_lt, by show 60 ≤ _; omega⟩, _, rfl, one_at _ _ _ 0 _ rfl⟩
    | i + 1 => simp at hp
  have HS := Lib.hid (sum32_ hps 1 (by simp))
  obtain ⟨s, hs⟩ : ∃ s : Nat, (4294967295 - (sumB 4294967295 (allOf [(⟨some ⟨q, 0, none⟩, 64, [2, 1, 2, 0, 97, 98] ++ List.replicate 54 0⟩ : Part)]) : Nat) : Int) = (s : Int) ∧ s < 4294967296 := ⟨(4294967295 - (sumB 4294967295 (allOf [(⟨some ⟨q, 0, none⟩, 64, [2, 1, 2, 0, 97, 98] ++ List.replicate 54 0⟩ : Part)]))), by have := sumB_lt (allOf [(⟨some ⟨q, 0, none⟩, 64, [2, 1, 2, 0, 97, 98] ++ List.replicate 54 0⟩ : Part)]) 4294967295 (by decide) (all_lt hps); omega, by omega⟩
  rw [hs.1] at HS
  obtain ⟨-, hs2⟩ := hs
  have HB6 := Lib.hid HB5.out
  clear hrk hps hown h6 h7 hR HB5 DD
  obtain ⟨i0, hinf, hz0, hz1, hz2⟩ := info_parts (show (Tryd.prog.info? 5).map (fun i => (i.zero, i.size, i.bytes)) = some (some (.int .u8 0), 1, 1) by kernel_rfl)
  go_wp2_with fail
  refine HS.out.mono ?_
  rintro e w7 ⟨rfl, hw⟩
  have HB7 : Hid (Below w.heap.size w w7) := by rw [← hw]; exact bl_alloc HB6.out _
  have HO7 : Hid (w7.ownsRow w.heap.size 5 1 (.slice (some ⟨q, 0, none⟩) 60 64) 60 (ivs .u8 (ints ([2, 1, 2, 0, 97, 98] ++ List.replicate 54 0)))) := by
    rw [← hw]
    exact own_kp HO5.out (fun k _ hk => Below.heap_alloc _ _ k hk)
  clear hw HO5 HB6 HS
  go_wp2_with fail
  go_loopw [36, 4] (fun c36 c4 wr => ∃ (i : Nat) (X : List Nat), i ≤ 4 ∧ X.length = i ∧ c36 = .int .i64 i ∧ Hid ((∀ x ∈ X, x < 256) ∧ Below w.heap.size w wr ∧ wr.ownsRow w.heap.size 5 1 c4 (60 + i) (ivs .u8 (ints (([2, 1, 2, 0, 97, 98] ++ List.replicate 54 0) ++ X))))) (fun c36 _ _ => 4 - (intOf c36).toNat)
  case atStart => exact ⟨0, [], by omega, rfl, rfl, by simp, HB7.out, HO7.out⟩
  case round =>
    obtain ⟨i, X, hi, hX, rfl, HR⟩ := hrel
    by_cases hlt : i < 4
    · have hv := shr_at s i (by omega)
      have hlt2 : s / 256 ^ i % 256 < 256 := Nat.mod_lt _ (by decide)
      generalize s / 256 ^ i % 256 = y at *
      have HOW := Lib.hid (fun o => own_kp (W' := wr.alloc o) HR.out.2.2 (fun k _ hk => Below.heap_alloc _ _ k hk))
      go_wp2_with (at_builtin; refine wpList_append_own _ rfl (.tmp 39) (.tmp 45) 40 rfl w.heap.size 5 i0 (.int .u8 0) 1 1 Tryd.underlying40 hinf hz0 hz1 hz2 rfl (by decide) _ (60 + i) _ rfl (HOW.out _) ⟨wr.heap.size, 0, none⟩ 1 1 [.int .u8 y] rfl rfl (one_at _ _ _) (by intro u hu; simp at hu; subst hu; rfl) (by unfold maxLen; omega) (by omega) (by have h1 := HR.out.2.1.size; simp; omega) ?_; intro v' w8 hown' hgrow _; (have HO := Lib.hid hown'); (have HG := Lib.hid hgrow); clear hown' hgrow)
      have hx1 : Below w.heap.size w w8 := bl_grown (bl_alloc HR.out.2.1 _) HG.out (own_lo HR.out.2.2)
      have hx2 : w8.ownsRow w.heap.size 5 1 v' (60 + (i + 1)) (ivs .u8 (ints (([2, 1, 2, 0, 97, 98] ++ List.replicate 54 0) ++ (X ++ [y])))) := by
        rw [← List.append_assoc, ints_append, ivs_append]
        exact HO.out
      have HZ := Lib.hid (And.intro (show ∀ x ∈ X ++ [y], x < 256 from by
        intro x hx
        rcases List.mem_append.1 hx with hx | hx
        · exact HR.out.1 x hx
        · simp at hx; omega) (And.intro hx1 hx2))
      have hXl : (X ++ [y]).length = i + 1 := by simp [hX]
      clear hx1 hx2
      go_roundw
      case rel => exact ⟨i + 1, X ++ [y], by omega, hXl, by go_num, HZ.out⟩
      case measure => simp [intOf]; omega
    · obtain rfl : i = 4 := by omega
      obtain ⟨A, c, qs, rfl, hsl, -⟩ := Sl.of_own HR.out.2.2
      clear hsl
      go_wp2_with fail
      go_ret2
      refine ⟨A, c, _, rfl, HR.out.2.2, ?_, ?_, ?_, HR.out.2.1⟩
      · match X, hX with
        | [a0, a1, a2, a3], _ => rfl
      · intro x hx
        rcases List.mem_append.1 hx with hx | hx
        · exact l60_lt x hx
        · exact HR.out.1 x hx
      · rw [List.length_append, hX]; rfl
end Go.Proofs.YtbbnfhpemaahjaaDoor.Up
end
section
set_option maxHeartbeats 2000000
set_option maxRecDepth 100000
namespace Go.Proofs.YtbbnfhpemaahjaaDoor.Up
open Go Go.RowKit
open Ob Ba Oc Pk Cr C6 Cc Su
def nine : List Nat := [49, 50, 51, 52, 53, 54, 55, 56, 57]
theorem lives02 (w : World) : Calls Tryd.prog 50 #[] w fun e w' => e = .returned (.bool true) ∧ Below w.heap.size w w' := by
  have kc := Lib.run_convert_bytes_const (P := Tryd.prog) w 40 5 #[.int .u8 49, .int .u8 50, .int .u8 51, .int .u8 52, .int .u8 53, .int .u8 54, .int .u8 55, .int .u8 56, .int .u8 57] 9 9 Tryd.underlying40 Tryd.underlying5
  go_enter Tryd.func50, Tryd.ntmps50
  go_wp2_with fail
  have hrk : Rk .u8 (w.alloc (.cells #[.int .u8 49, .int .u8 50, .int .u8 51, .int .u8 52, .int .u8 53, .int .u8 54, .int .u8 55, .int .u8 56, .int .u8 57] 5 (9, 10))) (some ⟨w.heap.size, 0, none⟩) (ints nine) := by
    refine blk_rk (alloc_new w (.cells #[.int .u8 49, .int .u8 50, .int .u8 51, .int .u8 52, .int .u8 53, .int .u8 54, .int .u8 55, .int .u8 56, .int .u8 57] 5 (9, 10))) fun i x hx => ?_
    match i with
    | 0 | 1 | 2 | 3 | 4 | 5 | 6 | 7 | 8 => simpa [ints, nine] using hx
    | i + 9 => simp [ints, nine] at hx
  have hps : ∀ W, Below (w.alloc (.cells #[.int .u8 49, .int .u8 50, .int .u8 51, .int .u8 52, .int .u8 53, .int .u8 54, .int .u8 55, .int .u8 56, .int .u8 57] 5 (9, 10))).heap.size (w.alloc (.cells #[.int .u8 49, .int .u8 50, .int .u8 51, .int .u8 52, .int .u8 53, .int .u8 54, .int .u8 55, .int .u8 56, .int .u8 57] 5 (9, 10))) W → PsAt (W.alloc (.cells #[.slice (some ⟨w.heap.size, 0, none⟩) 9 9] 40)) (some ⟨W.heap.size, 0, none⟩) [⟨some ⟨w.heap.size, 0, none⟩, 9, nine⟩] := by
    intro W hb i p hp
    match i with
    | 0 =>
      simp at hp
      subst hp
      exact ⟨⟨hrk.below (bl_alloc hb _), (by decide : ∀ x ∈ nine, x < 256), by simp [nine]⟩, _, rfl, one_at _ _ _ 0 _ rfl⟩
    | i + 1 => simp at hp
  have h32 := sum32_ (hps _ (Below.refl _ _)) 1 (by simp)
  rw [show (4294967295 - (sumB 4294967295 (allOf [(⟨some ⟨w.heap.size, 0, none⟩, 9, nine⟩ : Part)]) : Nat) : Int) = 3421780262 from by
    rw [show allOf [(⟨some ⟨w.heap.size, 0, none⟩, 9, nine⟩ : Part)] = nine from by simp [allOf]]
    decide] at h32
  have h16 := sum16_ (hps _ (bl_alloc (Below.refl _ _) (.cells #[.slice (some ⟨w.heap.size, 0, none⟩) 9 9] 40))) 1 (by simp)
  rw [show (sum6 65535 (allOf [(⟨some ⟨w.heap.size, 0, none⟩, 9, nine⟩ : Part)])) = 10673 from by
    rw [show allOf [(⟨some ⟨w.heap.size, 0, none⟩, 9, nine⟩ : Part)] = nine from by simp [allOf]]
    decide] at h16
  simp only [World.size_alloc] at h32 h16
  have H16 := Lib.hid h16
  refine (show Calls _ _ #[.slice (some ⟨w.heap.size + 1, 0, none⟩) 1 1] _ _ from h32).mono ?_
  rintro e w1 ⟨rfl, rfl⟩
  clear h32 h16 hps hrk kc
  go_wp2_with fail
  refine (show Calls _ _ #[.slice (some ⟨w.heap.size + 1 + 1, 0, none⟩) 1 1] _ _ from H16.out).mono ?_
  rintro e w2 ⟨rfl, rfl⟩
  go_wp2_with fail
  go_ret
  exact ⟨rfl, bl_alloc (bl_alloc (bl_alloc (Below.refl _ _) _) _) _⟩
end Go.Proofs.YtbbnfhpemaahjaaDoor.Up
end
section
set_option maxHeartbeats 2000000
set_option maxRecDepth 100000
namespace Go.Proofs.YtbbnfhpemaahjaaDoor.Up
open Go Go.RowKit
open Ob Ba Oc Pk Cr C6 Cc Su
def head : ByteArray := ⟨#[2, 1, 2, 0, 97, 98, 0]⟩
theorem conv7 {W : World} {B c : Nat} {A : Option Addr} {L : List Nat} (h : W.ownsRow B 5 1 (.slice A 64 c) 64 (ivs .u8 (ints L))) (hL : L.take 7 = [2, 1, 2, 0, 97, 98, 0]) :
    (convert 40 9 (.slice A 7 c)).run Tryd.prog W = .ok (.string head) W := by
  have hlen : (ints L).length = 64 := (own_rk h).2.1
  obtain ⟨x0, hx0⟩ := some_at (l := ints L) (i := 0) (by omega)
  obtain ⟨q, rfl, -, -⟩ := own_at h hx0
  have key : ∀ i < 7, (ints L)[i]? = (ints [2, 1, 2, 0, 97, 98, 0])[i]? := by
    intro i hi
    rw [← hL]
    unfold ints
    rw [List.map_take, List.getElem?_take, if_pos hi]
  refine run_convert_bytes_arg W 40 5 Tryd.underlying40 Tryd.underlying5 q 0 7 c (ints [2, 1, 2, 0, 97, 98, 0]) rfl (fun i hi => ?_) 9 Tryd.underlying9
  obtain ⟨x, hx⟩ := some_at (l := ints L) (i := i) (by omega)
  obtain ⟨q', e, h1, -⟩ := own_at h hx
  cases e
  rw [Nat.zero_add, h1, List.getD_eq_getElem?_getD, ← key i hi, hx]
  rfl
theorem lives08 (w : World) : Calls Tryd.prog 31 #[] w fun e w' => e = .returned (.bool true) ∧ Below w.heap.size w w' := by
  have HE := Lib.hid (enc_ w)
  have HL := Lib.hid (fun W => lives02 W)
  go_enter Tryd.func31, Tryd.ntmps31
  go_wp2_with fail
  refine (show Calls _ _ _ _ _ from HE.out).mono ?_
  rintro e w1 ⟨A, c, L, rfl, ho, hL, hlt, hlen, hb⟩
  have HO := Lib.hid ho
  have HB := Lib.hid hb
  have hc64 : 64 ≤ c := (own_rk ho).2.2
  clear ho hb HE hlt hlen
  go_wp2_with fail
  refine (HL.out _).mono ?_
  rintro e w2 ⟨rfl, hb2⟩
  have HC := conv7 (own_bl HO.out hb2) hL
  have HB2 := Lib.hid (bl_then HB.out hb2)
  clear hb2
  have hc0 : ¬ c = 0 := by omega
  have hc7 : 7 ≤ c := by omega
  have hhe : (head.toList == [2, 1, 2, 0, 97, 98, 0]) = true := by unfold head; rw [Lib.toList_data]; rfl
  go_wp2_with fail
  go_ret
  exact ⟨rfl, HB2.out⟩
theorem ex1 : splitD ⟨#[47, 97, 47, 98]⟩ = some [⟨#[97]⟩, ⟨#[98]⟩] := by decide
theorem ex2 : splitD ⟨#[47, 97, 47]⟩ = none := by decide
def Mx (w : World) : Prop := ∃ m, w.cell? ⟨1, 0, none⟩ = some (.int .i64 m)
theorem Mx.below {w w' : World} (h : Mx w) (hb : Below w.heap.size w w') : Mx w' := by
  obtain ⟨m, hm⟩ := h
  exact ⟨m, (hb.cell (p := ⟨1, 0, none⟩) (cell_plain hm).2).trans hm⟩
theorem splitM {s : ByteArray} (hs : s.size ≤ 1000000) {w : World} (hm : Mx w) :
    Calls Tryd.prog 17 #[.string s] w fun e w' => PIs e w' (splitD s) ∧ Below w.heap.size w w' := by
  obtain ⟨m, hm⟩ := hm
  exact split_ hs hm
theorem lives12 {w : World} (hm : Mx w) : Calls Tryd.prog 11 #[] w fun e w' => e = .returned (.bool true) ∧ Below w.heap.size w w' := by
  have HS := Lib.hid (splitM (s := ⟨#[47, 97, 47, 98]⟩) (by decide) hm)
  rw [ex1] at HS
  have HMX := Lib.hid hm
  have HL := Lib.hid (fun W => lives08 W)
  clear hm
  go_enter Tryd.func11, Tryd.ntmps11
  go_wp2_with fail
  refine HS.out.mono ?_
  rintro e w1 ⟨⟨A, c, rfl, hR, hc⟩, hb1⟩
  have HS2 := Lib.hid (splitM (s := ⟨#[47, 97, 47]⟩) (by decide) (HMX.out.below hb1))
  rw [ex2] at HS2
  obtain ⟨b, o, rfl, hbl, hcc⟩ := hR.plain (by simp)
  have HR := Lib.hid hcc
  have HBL := Lib.hid hbl
  have HB1 := Lib.hid hb1
  clear hb1 HS HMX hR hcc hbl
  go_wp2_with fail
  refine HS2.out.mono ?_
  rintro e w2 ⟨hp, hb2⟩
  have he : e = .returned (.tuple #[.slice none 0 0, .int .i64 3]) := hp
  subst he
  have HB2 := Lib.hid hb2
  clear hb2 hp HS2
  go_wp2_with fail
  refine (HL.out _).mono ?_
  rintro e w3 ⟨rfl, hb3⟩
  have HB13 : Hid (Below w1.heap.size w1 w3) := bl_then HB2.out hb3
  have HB3 := Lib.hid (bl_then HB1.out HB13.out)
  have c0 : w3.cell? ⟨b, o, none⟩ = some (.string ⟨#[97]⟩) := (HB13.out.cell (p := ⟨b, o, none⟩) HBL.out).trans (HR.out 0 _ rfl)
  have c1 : w3.cell? ⟨b, o + 1, none⟩ = some (.string ⟨#[98]⟩) := (HB13.out.cell (p := ⟨b, o + 1, none⟩) HBL.out).trans (HR.out 1 _ rfl)
  have e1 : ((⟨#[97]⟩ : ByteArray).toList == [97]) = true := by rw [Lib.toList_data]; rfl
  have e2 : ((⟨#[98]⟩ : ByteArray).toList == [98]) = true := by rw [Lib.toList_data]; rfl
  clear hb3
  go_wp2_with fail
  go_ret
  exact ⟨rfl, HB3.out⟩
end Go.Proofs.YtbbnfhpemaahjaaDoor.Up
end
section
set_option maxHeartbeats 2000000
set_option maxRecDepth 100000
namespace Go.Proofs.YtbbnfhpemaahjaaDoor.Up
open Go Go.RowKit
open Ob Ba
structure Ar (w : World) (A : Option Addr) (l : List ByteArray) (c : Nat) : Prop where
  rs : Rs w A l
  cap : l.length ≤ c
  cap2 : c ≤ 9223372036854775807
  len : l.length ≤ 9223372036854775807
  size : ∀ x ∈ l, x.size ≤ 9223372036854775807
theorem few_is {l : List ByteArray} (h : fewB l = true) : l.length ≤ 70 ∧ ∀ x ∈ l, x.size ≤ 60 := by
  unfold fewB at h
  simp only [Bool.and_eq_true, decide_eq_true_eq, List.all_eq_true] at h
  exact ⟨h.2, h.1⟩
end Go.Proofs.YtbbnfhpemaahjaaDoor.Up
end
section
set_option maxHeartbeats 2000000
set_option maxRecDepth 100000
namespace Go.Proofs.YtbbnfhpemaahjaaDoor.Up
open Go Go.ChangeShapes Go.WideShapes Go.ChangeAt Go.RowKit
open Ob Ba
theorem own : ownKnob Tryd.prog.godebug = none := by kernel_rfl
theorem laidOut : laidOutB Tryd.prog = true := by kernel_rfl
def laid : List (String × DataW Unit) := [("unicode/utf8.acceptRanges", Rows.laid_unicode_utf8_acceptRanges), ("unicode/utf8.first", Rows.laid_unicode_utf8_first)]
theorem handed_both {H : Type} {enc : TypeId × Value → H} {a : Assume} {C : Checked} {os : Os} {f : FuncId} {fn : Func} {s : ChangeSpec} {conds : List PathCond} {apart fresh handsOn again : Bool} {X : World → Array Value → Prop}
    (hX : ∀ (w w' : World) (args : Array Value), w.heap = w'.heap → X w args → X w' args)
    (own : ownKnob C.prog.godebug = none) (started : os.Started) (noInit : C.prog.inits.idxOf? f = none) (hfn : C.prog.funcs[f]? = some fn)
    (witness : ∃ (w : World) (tape : Tape) (i : Input), w.os = os ∧ (w.forCall tape i).Shaped C.prog ∧ i.vars = [] ∧ Input.okWide C.prog (w.forCall tape i) .any w.heap.size f i ∧
      ((s.pre enc C.prog fn conds apart (w.forCall tape i).memory i.args ∧ X (w.forCall tape i).memory i.args) ∧ sizedMet enc C.prog fn (OpenSpec.ofChange s) apart (w.forCall tape i).memory i.args) ∧ a.holds C.prog (lone (Frame.enter C.prog f i.args .normal) [] (w.forCall tape i)))
    (contract : ∀ (W : World) (base : Nat) (args : Array Value) (ds gs : List (DataW H)) (before : List MemPlace),
      (∀ (j : Nat) t v, fn.params[j]? = some t → args[j]? = some v → Value.okWide C.prog W .any base t v) →
      DataW.Whole enc C.prog fn.params.toList s.vars apart W args.toList ds gs before →
      (DataW.weightsEach C.prog (fn.params.toList ++ s.plain.varTypes C.prog) (ds ++ gs)).all (· ≤ reachBytes) = true → X W args →
      W.ShapedOpen C.prog →
      Calls C.prog f args W fun e W' => ∃ v, e = .returned v ∧ s.post enc C.prog fn apart fresh handsOn again W args v W') :
    ReturnsInHanded a C os f .any (fun w args => (s.pre enc C.prog fn conds apart w args ∧ X w args) ∧ sizedMet enc C.prog fn (OpenSpec.ofChange s) apart w args) (s.post enc C.prog fn apart fresh handsOn again) := by
  refine returnsInHanded_of_calls own started noInit witness ?_
  intro w tape i _ hsh _ hok hpre hholds
  obtain ⟨_, _, _, fn', hfn', _, _, _, _, hval⟩ := hok
  have e : fn' = fn := Option.some.inj (hfn'.symm.trans hfn)
  subst e
  obtain ⟨⟨⟨ds, gs, before, hw, hc⟩, hx⟩, hz⟩ := hpre
  have hw' := DataW.Whole.of_heap (w' := w.forCall tape i) (by rfl) hw
  refine (contract (w.forCall tape i) w.heap.size i.args ds gs before hval hw' (hz.weights hw) (hX _ _ _ (by rfl) hx) hsh).mono fun e W' ⟨v, he, hp⟩ => ?_
  subst he
  exact ChangeSpec.post_blind hp
theorem mx_open {W : World} (h : W.ShapedOpen Tryd.prog) : Mx W :=
  cell_of_shapedOpen_int (P := Tryd.prog) (g := 1) (t := 3) (zero := #[.int .i64 0]) h (of_decide_eq_true (by kernel_rfl)) (by kernel_rfl) rfl (by kernel_rfl) (by kernel_rfl) Tryd.underlying3
theorem strs_open {H : Type} {enc : TypeId × Value → H} {w : World} {v : Value} {b0 : Nat} {d : DataW H} {p : List MemPlace} (hv : Value.okWide Tryd.prog w .any b0 22 v) (h : DataW.Trod enc Tryd.prog w 0 (fun _ => true) true 22 v d p) :
    ∃ A l c, v = .slice A l.length c ∧ Ar w A l c := by
  obtain ⟨m, hm⟩ := h
  have hvc : ∃ A n c, v = .slice A n c := okWide_slice Tryd.underlying22 hv
  obtain ⟨A0, n0, c0, rfl⟩ := hvc
  have hm' : DataW.trod enc Tryd.prog w 0 (fun _ => true) true m 22 [.slice A0 n0 c0] = some (d, p) := hm
  rcases open_strings Tryd.underlying22 Tryd.underlying9 (by kernel_rfl) hm' with ⟨hcs, _⟩ | ⟨a, l, c, ss, hcs, _, hl, hc, hlen, _, hcell, hsz⟩
  · simp only [List.cons.injEq, and_true] at hcs
    exact ⟨none, [], 0, hcs, Rs.nil _ _, Nat.le_refl _, by decide, by decide, by simp⟩
  · simp only [if_true] at hlen
    simp only [List.cons.injEq, and_true] at hcs
    have hl2 : (ss.take l).length = l := by rw [List.length_take]; omega
    refine ⟨some a, ss.take l, c, by rw [hl2]; exact hcs, ?_, by omega, by unfold maxLen at hc; omega, by unfold maxLen at hc; omega, fun x hx => by have := hsz x (List.mem_of_mem_take hx); unfold maxLen at this; omega⟩
    intro i x hx
    rw [List.getElem?_take] at hx
    split at hx
    · have hi := (List.getElem?_eq_some_iff.1 hx).1
      have h1 := hcell i hi
      rw [List.getD_eq_getElem?_getD, hx] at h1
      have h2 := (cell_plain h1).2
      rw [add_block] at h2
      exact ⟨a, rfl, h2, h1⟩
    · cases hx
end Go.Proofs.YtbbnfhpemaahjaaDoor.Up
end
section
set_option maxHeartbeats 8000000
set_option maxRecDepth 100000
namespace Go.Proofs.YtbbnfhpemaahjaaDoor.Up
open Go Go.RowKit
open Ob Ba
theorem own_cap {w : World} {B T n c : Nat} {A : Option Addr} {xs : List Value} (h : w.ownsRow B T 1 (.slice A n c) n xs) : c ≤ 9223372036854775807 := by
  obtain ⟨-, ⟨h2, -⟩ | ⟨g, cap, cur, hv, -, -, -, hc, -⟩⟩ := h
  · cases h2
    decide
  · simp only [Value.slice.injEq, true_and] at hv
    unfold maxLen at hc
    omega
theorem own_empty {w W : World} (h : w.heap.size ≤ W.heap.size) : (W.alloc (.cells #[] 9)).ownsRow w.heap.size 9 1 (.slice (some ⟨W.heap.size, 0, none⟩) 0 0) 0 (svs []) :=
  ⟨rfl, .inr ⟨_, 0, #[], rfl, h, alloc_new W (.cells #[] 9), Nat.le_refl _, by decide, rfl, rfl⟩⟩
theorem slice_to {O : Option Addr} {n d la : Nat} (h : la ≤ d) (W : World) : ∃ O', (Instr.slice 22 (.slice O n d) none (some (.int .i64 (la : Int))) none).run Tryd.prog W = .ok (.slice O' la d) W ∧ ∀ (w : World) l, Rs w O l → Rs w O' l := by
  refine ⟨if d = 0 then O else O.map (·.add (0 * 1)), ?_, ?_⟩
  · rw [run_slice_h W _ _ _ _ Tryd.underlying22 .i64 _ (by omega) (by omega)]
    go_simp
  · intro w l h
    split
    · exact h
    · intro i x hi
      obtain ⟨a, rfl, h1, h2⟩ := h i x hi
      refine ⟨_, rfl, by rw [add_block]; exact h1, ?_⟩
      rw [add_two]
      simpa using h2
theorem kids_ {w : World} (hm : Mx w) {A O : Option Addr} {l other : List ByteArray} {c d : Nat} (ha : Ar w A l c) (hA : A = none → l = [] ∧ c = 0) {n : ByteArray} (hn : n.size ≤ 9223372036854775807) (hb : Ar w O other d) :
    Calls Tryd.prog 5 #[.slice A l.length c, .string n, .slice O other.length d] w fun e w' => e = .returned (.bool true) ∧ Below w.heap.size w w' := by
  have HL := Lib.hid (fun (W : World) (hW : Below w.heap.size w W) => lives12 (hm.below hW))
  have HFA := Lib.hid (fun (W : World) (hW : Below w.heap.size w W) => few_ (ha.rs.below hW) c ha.len ha.size)
  have HFB := Lib.hid (fun (W : World) (hW : Below w.heap.size w W) => few_ (hb.rs.below hW) d hb.len hb.size)
  by_cases hf : fewB l = true ∧ fewB other = true ∧ l.length ≤ 60 ∧ n.size ≤ 60
  case neg =>
    generalize fewB l = fa at *
    generalize fewB other = fb at *
    have hla := ha.len
    generalize l.length = la at *
    generalize other.length = lb at *
    clear ha hb hm
    go_enter Tryd.func5, Tryd.ntmps5
    go_wp2_with fail
    refine (HL.out _ (Below.refl _ _)).mono ?_
    rintro e w1 ⟨rfl, hb1⟩
    have HB1 := Lib.hid hb1
    clear hb1
    go_wp2_with fail
    refine (HFA.out _ HB1.out).mono ?_
    rintro e w2 ⟨rfl, hw⟩
    subst hw
    cases fa with
    | false =>
      go_wp2_with fail
      refine (HL.out _ HB1.out).mono ?_
      rintro e w3 ⟨rfl, hb3⟩
      have HB3 := Lib.hid (bl_then HB1.out hb3)
      clear hb3
      go_wp2_with fail
      go_ret
      exact ⟨rfl, HB3.out⟩
    | true =>
      go_wp2_with fail
      refine (HFB.out _ HB1.out).mono ?_
      rintro e w2 ⟨rfl, hw⟩
      subst hw
      cases fb with
      | false =>
        go_wp2_with fail
        refine (HL.out _ HB1.out).mono ?_
        rintro e w3 ⟨rfl, hb3⟩
        have HB3 := Lib.hid (bl_then HB1.out hb3)
        clear hb3
        go_wp2_with fail
        go_ret
        exact ⟨rfl, HB3.out⟩
      | true =>
        by_cases h60 : (60 : Int) < (la : Int)
        · clear hf
          go_wp2_with fail
          refine (HL.out _ HB1.out).mono ?_
          rintro e w3 ⟨rfl, hb3⟩
          have HB3 := Lib.hid (bl_then HB1.out hb3)
          clear hb3
          go_wp2_with fail
          go_ret
          exact ⟨rfl, HB3.out⟩
        · have h61 : (60 : Int) < (n.size : Int) := by
            apply Classical.byContradiction
            intro h
            exact hf ⟨by trivial, by trivial, by omega, by omega⟩
          clear hf
          go_wp2_with fail
          refine (HL.out _ HB1.out).mono ?_
          rintro e w3 ⟨rfl, hb3⟩
          have HB3 := Lib.hid (bl_then HB1.out hb3)
          clear hb3
          go_wp2_with fail
          go_ret
          exact ⟨rfl, HB3.out⟩
  obtain ⟨hf1, hf2, hl60, hn60⟩ := hf
  rw [hf1] at HFA
  rw [hf2] at HFB
  obtain ⟨-, hl2⟩ := few_is hf1
  obtain ⟨hlb, -⟩ := few_is hf2
  have HX := Lib.hid (fun (W : World) (hW : Below w.heap.size w W) (D : Option Addr) (k : Nat) (h : Rs W D (l ++ [n])) => before_ (ha.rs.below hW) h c k (by omega) (by simp; omega))
  have HY := Lib.hid (fun (W : World) (hW : Below w.heap.size w W) (D : Option Addr) (k : Nat) (h : Rs W D (l ++ [n])) => before_ h (ha.rs.below hW) k c (by simp; omega) (by omega))
  have HZ := Lib.hid (fun (W : World) (hW : Below w.heap.size w W) => before_ (ha.rs.below hW) (hb.rs.below hW) c d (by omega) (by omega))
  have HK := Lib.hid (fun (W : World) (hW : Below w.heap.size w W) (D : Option Addr) (k : Nat) (h : Rs W D (l ++ [n])) => before_ h (hb.rs.below hW) k d (by simp; omega) (by omega))
  have HP := Lib.hid (fun (W : World) (D : Option Addr) (k : Nat) (h : Rs W D (l ++ [n])) (h1 : l.length + 1 ≤ k) (h2 : k ≤ 9223372036854775807) => parent_ h k (by omega) h1 h2)
  have HS := Lib.hid (fun (W : World) (hW : Below w.heap.size w W) (D : Option Addr) (k : Nat) (h : Rs W D l) => rsame_ h (ha.rs.below hW) k c (by omega) (by omega))
  have HT := Lib.hid (fun (W : World) (hW : Below w.heap.size w W) (D : Option Addr) (h : ∀ (w : World) l, Rs w O l → Rs w D l) (hle : l.length ≤ other.length) => rsame_ (h _ _ ((hb.rs.below hW).take l.length)) (ha.rs.below hW) d c (by rw [List.length_take]; omega) (by omega))
  rw [bef_kid] at HX
  rw [bef_asymm _ _ (bef_kid l n)] at HY
  rw [decide_eq_true rfl] at HS
  obtain ⟨s, hs⟩ : ∃ s, s = decide (other.take l.length = l) := ⟨_, rfl⟩
  rw [← hs] at HT
  have HPAST : Hid (bef l other = true → (l.length ≤ other.length → s = false) → bef (l ++ [n]) other = true) := fun h1 h2 => bef_past l n other h1 (fun h => by
    have := h2 h.1
    rw [hs, decide_eq_true h.2] at this
    cases this)
  have HTL : Hid (l.length ≤ other.length → (other.take l.length).length = l.length) := fun h => by rw [List.length_take]; omega
  have HRS := Lib.hid (fun (W : World) (hW : Below w.heap.size w W) => ha.rs.below hW)
  have hcap := ha.cap
  have hcapb := hb.cap
  have HSV := Lib.hid (svs_length l)
  have HONE := Lib.hid (svs_one l)
  obtain ⟨la, hla⟩ : ∃ la, la = l.length := ⟨_, rfl⟩
  obtain ⟨lb, hlb'⟩ : ∃ lb, lb = other.length := ⟨_, rfl⟩
  have HLA := Lib.hid (And.intro hla hlb')
  rw [← hla, ← hlb']
  rw [← hla] at hl60 hcap
  rw [← hlb'] at hlb hcapb
  rw [← hla, ← hlb'] at HZ
  rw [← hlb'] at HFB
  rw [← hla] at HFA
  have hl1 : (l ++ [n]).length = la + 1 := by rw [hla]; simp
  rw [hl1, ← hla] at HX HY
  rw [hl1, ← hlb'] at HK
  rw [← hla, ← hlb'] at HPAST HTL HT
  generalize bef (l ++ [n]) other = y at *
  generalize bef l other = x at *
  rw [← hla] at HP HS
  have hnn : (n.toList == n.toList) = true := by simp
  have hlb60 : ¬ (60 : Int) < (la : Int) := by omega
  have hn61 : ¬ (60 : Int) < (n.size : Int) := by omega
  obtain ⟨i0, hinf, hz0, hz1, hz2⟩ := info_parts (show (Tryd.prog.info? 9).map (fun i => (i.zero, i.size, i.bytes)) = some (some (.string ⟨#[]⟩), 1, 16) by kernel_rfl)
  clear ha hb hm hf1 hf2 hla hlb' hl2 hs
  go_enter Tryd.func5, Tryd.ntmps5
  go_wp2_with fail
  refine (HL.out _ (Below.refl _ _)).mono ?_
  rintro e w1 ⟨rfl, hb1⟩
  have HB1 := Lib.hid hb1
  clear hb1
  go_wp2_with fail
  refine (HFA.out _ HB1.out).mono ?_
  rintro e w2 ⟨rfl, hw⟩
  subst hw
  go_wp2_with fail
  refine (HFB.out _ HB1.out).mono ?_
  rintro e w2 ⟨rfl, hw⟩
  subst hw
  have HE := Lib.hid (own_empty (w := w) (W := w2) HB1.out.size)
  cases A with
  | none =>
    obtain ⟨hA1, hA2⟩ := hA rfl
    have hla0 : la = 0 := by rw [HLA.out.1, hA1]; rfl
    subst hA2
    subst hla0
    have HB7 := Lib.hid (bl_alloc HB1.out (.cells #[] 9))
    have hl0 := Lib.hid (show svs l = [] from by rw [hA1]; rfl)
    clear hA hA1
    go_wp2_with (at_builtin; first | (refine wpList_append_own_none rfl (.tmp 35) (.tmp 36) 22 rfl w.heap.size 9 i0 1 Tryd.underlying22 hinf _ 0 (svs []) rfl HE.out rfl ?_; (generalize w2.alloc (.cells #[] 9) = w7 at *); (have HOA1 := Lib.hid (fun o => own_kp (W' := w7.alloc o) HE.out (fun k _ hk => Below.heap_alloc _ _ k hk)))) | (refine wpList_append_own _ rfl (.tmp 37) (.tmp 39) 22 rfl w.heap.size 9 i0 (.string ⟨#[]⟩) 1 16 Tryd.underlying22 hinf hz0 hz1 hz2 rfl (by decide) _ 0 _ rfl (HOA1.out _) ⟨w7.heap.size, 0, none⟩ 1 1 [.string n] rfl rfl (one_at _ _ _) (by intro u hu; simp at hu; subst hu; rfl) (by unfold maxLen; omega) (by omega) (by have h1 := HB7.out.size; simp; omega) ?_; intro v2 w8 hown2 hgrow2 _; (have HO2 := Lib.hid hown2); (have HG2 := Lib.hid hgrow2); clear hown2 hgrow2))
    have HB8 : Hid (Below w.heap.size w w8) := bl_grown (bl_alloc HB7.out _) HG2.out (own_lo HE.out)
    have HO8 : Hid (w8.ownsRow w.heap.size 9 1 v2 (0 + 1) (svs (l ++ [n]))) := by
      have := HO2.out
      rw [svs_append, hl0.out]
      exact this
    clear HO2 HG2 HOA1 HB7 HE hl0
    obtain ⟨D, k, qs, rfl, -, -⟩ := Sl.of_own HO8.out
    have hk := (own_rs HO8.out).2.2
    have hk2 := own_cap HO8.out
    have HR8 := Lib.hid (own_rs HO8.out).1
    refine (show Calls _ _ #[.slice D (0 + 1) k] _ _ from HP.out _ D k HR8.out hk hk2).mono ?_
    rintro e w9 ⟨⟨v9, rfl, ho9⟩, hb9⟩
    have HB9 := Lib.hid (bl_then HB8.out hb9)
    have HR9 := Lib.hid (HR8.out.below hb9)
    obtain ⟨D9, k9, qs9, rfl, -, -⟩ := Sl.of_own ho9
    have HD9 := Lib.hid (own_rs ho9).1
    clear hb9 ho9
    go_wp2_with fail
    refine (HX.out _ HB9.out D k HR9.out).mono ?_
    rintro e w10 ⟨rfl, hb10⟩
    have HB10 := Lib.hid (bl_then HB9.out hb10)
    have HR10 := Lib.hid (HR9.out.below hb10)
    have HD10 := Lib.hid (HD9.out.below hb10)
    clear hb10
    go_wp2_with fail
    refine (HY.out _ HB10.out D k HR10.out).mono ?_
    rintro e w11 ⟨rfl, hb11⟩
    have HB11 := Lib.hid (bl_then HB10.out hb11)
    have HR11 := Lib.hid (HR10.out.below hb11)
    have HD11 := Lib.hid (HD10.out.below hb11)
    clear hb11
    go_wp2_with fail
    refine (HS.out _ HB11.out D9 k9 HD11.out).mono ?_
    rintro e w12 ⟨rfl, hb12⟩
    have HB12 := Lib.hid (bl_then HB11.out hb12)
    have HR12 := Lib.hid (HR11.out.below hb12)
    clear hb12
    have hge : 0 ≤ lb := Nat.zero_le _
    have hd0 : 0 ≤ d := Nat.zero_le _
    · obtain ⟨O', hsl, hOr⟩ := slice_to (O := O) (n := lb) (d := d) (la := 0) (by omega) w12
      rw [show ((0 : Nat) : Int) = 0 from rfl] at hsl
      have HT12 := Lib.hid (HT.out _ HB12.out O' hOr hge)
      rw [HTL.out hge] at HT12
      clear hOr
      go_wp2_with fail
      refine HT12.out.mono ?_
      rintro e w13 ⟨rfl, hb13⟩
      have HB13 := Lib.hid (bl_then HB12.out hb13)
      have HR13 := Lib.hid (HR12.out.below hb13)
      clear hb13 HT12
      cases s with
      | true =>
        go_wp2_with fail
        go_ret
        exact ⟨rfl, HB13.out⟩
      | false =>
        go_wp2_with fail
        refine (HZ.out _ HB13.out).mono ?_
        rintro e w14 ⟨rfl, hb14⟩
        have HB14 := Lib.hid (bl_then HB13.out hb14)
        have HR14 := Lib.hid (HR13.out.below hb14)
        clear hb14
        cases x with
        | false =>
          go_wp2_with fail
          go_ret
          exact ⟨rfl, HB14.out⟩
        | true =>
          have hy : y = true := HPAST.out (by trivial) (fun _ => by trivial)
          subst hy
          go_wp2_with fail
          refine (HK.out _ HB14.out D k HR14.out).mono ?_
          rintro e w15 ⟨rfl, hb15⟩
          have HB15 := Lib.hid (bl_then HB14.out hb15)
          clear hb15
          go_wp2_with fail
          go_ret
          exact ⟨rfl, HB15.out⟩
  | some a =>
    have hnews : ∀ j u, (svs l)[j]? = some u → (w2.alloc (.cells #[] 9)).cell? (a.add j) = some u := by
      intro j u hu
      simp only [svs, List.getElem?_map, Option.map_eq_some_iff] at hu
      obtain ⟨x, hx, rfl⟩ := hu
      obtain ⟨a', e, -, h2⟩ := (HRS.out _ (bl_alloc HB1.out (.cells #[] 9))) j x hx
      cases e
      exact h2
    have HNEWS := Lib.hid hnews
    clear hnews
    go_wp2_with (at_builtin; first | (refine wpList_append_own _ rfl (.tmp 35) (.tmp 36) 22 rfl w.heap.size 9 i0 (.string ⟨#[]⟩) 1 16 Tryd.underlying22 hinf hz0 hz1 hz2 rfl (by decide) _ 0 (svs []) rfl HE.out a la c (svs l) rfl (by rw [HSV.out, HLA.out.1, Nat.mul_one]) HNEWS.out HONE.out (by unfold maxLen; omega) (by omega) (by have h1 := HB1.out.size; simp; omega) ?_; intro v1 w7 hown1 hgrow1 _; (have HO1 := Lib.hid hown1); (have HG1 := Lib.hid hgrow1); (have HOA1 := Lib.hid (fun o => own_kp (W' := w7.alloc o) HO1.out (fun k _ hk => Below.heap_alloc _ _ k hk))); (have HB7 := Lib.hid (bl_grown (bl_alloc HB1.out (.cells #[] 9)) HG1.out (own_lo HE.out))); clear hown1 hgrow1) | (refine wpList_append_own _ rfl (.tmp 37) (.tmp 39) 22 rfl w.heap.size 9 i0 (.string ⟨#[]⟩) 1 16 Tryd.underlying22 hinf hz0 hz1 hz2 rfl (by decide) _ (0 + la) _ rfl (HOA1.out _) ⟨w7.heap.size, 0, none⟩ 1 1 [.string n] rfl rfl (one_at _ _ _) (by intro u hu; simp at hu; subst hu; rfl) (by unfold maxLen; omega) (by omega) (by have h1 := HB7.out.size; simp; omega) ?_; intro v2 w8 hown2 hgrow2 _; (have HO2 := Lib.hid hown2); (have HG2 := Lib.hid hgrow2); clear hown2 hgrow2))
    have HB8 : Hid (Below w.heap.size w w8) := bl_grown (bl_alloc HB7.out _) HG2.out (own_lo HO1.out)
    have HO8 : Hid (w8.ownsRow w.heap.size 9 1 v2 (la + 1) (svs (l ++ [n]))) := by
      have := HO2.out
      rw [Nat.zero_add] at this
      rw [svs_append]
      exact this
    clear HO1 HO2 HG1 HG2 HOA1 HB7 HE HNEWS
    obtain ⟨D, k, qs, rfl, -, -⟩ := Sl.of_own HO8.out
    have hk := (own_rs HO8.out).2.2
    have hk2 := own_cap HO8.out
    have HR8 := Lib.hid (own_rs HO8.out).1
    refine (show Calls _ _ #[.slice D (la + 1) k] _ _ from HP.out _ D k HR8.out hk hk2).mono ?_
    rintro e w9 ⟨⟨v9, rfl, ho9⟩, hb9⟩
    have HB9 := Lib.hid (bl_then HB8.out hb9)
    have HR9 := Lib.hid (HR8.out.below hb9)
    obtain ⟨D9, k9, qs9, rfl, -, -⟩ := Sl.of_own ho9
    have HD9 := Lib.hid (own_rs ho9).1
    clear hb9 ho9
    go_wp2_with fail
    refine (HX.out _ HB9.out D k HR9.out).mono ?_
    rintro e w10 ⟨rfl, hb10⟩
    have HB10 := Lib.hid (bl_then HB9.out hb10)
    have HR10 := Lib.hid (HR9.out.below hb10)
    have HD10 := Lib.hid (HD9.out.below hb10)
    clear hb10
    go_wp2_with fail
    refine (HY.out _ HB10.out D k HR10.out).mono ?_
    rintro e w11 ⟨rfl, hb11⟩
    have HB11 := Lib.hid (bl_then HB10.out hb11)
    have HR11 := Lib.hid (HR10.out.below hb11)
    have HD11 := Lib.hid (HD10.out.below hb11)
    clear hb11
    go_wp2_with fail
    refine (HS.out _ HB11.out D9 k9 HD11.out).mono ?_
    rintro e w12 ⟨rfl, hb12⟩
    have HB12 := Lib.hid (bl_then HB11.out hb12)
    have HR12 := Lib.hid (HR11.out.below hb12)
    clear hb12
    by_cases hge : la ≤ lb
    · obtain ⟨O', hsl, hOr⟩ := slice_to (O := O) (n := lb) (d := d) (la := la) (by omega) w12
      have HT12 := Lib.hid (HT.out _ HB12.out O' hOr hge)
      rw [HTL.out hge] at HT12
      clear hOr
      go_wp2_with fail
      refine HT12.out.mono ?_
      rintro e w13 ⟨rfl, hb13⟩
      have HB13 := Lib.hid (bl_then HB12.out hb13)
      have HR13 := Lib.hid (HR12.out.below hb13)
      clear hb13 HT12
      cases s with
      | true =>
        go_wp2_with fail
        go_ret
        exact ⟨rfl, HB13.out⟩
      | false =>
        go_wp2_with fail
        refine (HZ.out _ HB13.out).mono ?_
        rintro e w14 ⟨rfl, hb14⟩
        have HB14 := Lib.hid (bl_then HB13.out hb14)
        have HR14 := Lib.hid (HR13.out.below hb14)
        clear hb14
        cases x with
        | false =>
          go_wp2_with fail
          go_ret
          exact ⟨rfl, HB14.out⟩
        | true =>
          have hy : y = true := HPAST.out (by trivial) (fun _ => by trivial)
          subst hy
          go_wp2_with fail
          refine (HK.out _ HB14.out D k HR14.out).mono ?_
          rintro e w15 ⟨rfl, hb15⟩
          have HB15 := Lib.hid (bl_then HB14.out hb15)
          clear hb15
          go_wp2_with fail
          go_ret
          exact ⟨rfl, HB15.out⟩
    · have HNG : Hid (la ≤ lb → s = false) := fun h => absurd h hge
      go_wp2_with fail
      refine (HZ.out _ HB12.out).mono ?_
      rintro e w14 ⟨rfl, hb14⟩
      have HB14 := Lib.hid (bl_then HB12.out hb14)
      have HR14 := Lib.hid (HR12.out.below hb14)
      clear hb14
      cases x with
      | false =>
        go_wp2_with fail
        go_ret
        exact ⟨rfl, HB14.out⟩
      | true =>
        have hy : y = true := HPAST.out (by trivial) (fun h => HNG.out h)
        subst hy
        go_wp2_with fail
        refine (HK.out _ HB14.out D k HR14.out).mono ?_
        rintro e w15 ⟨rfl, hb15⟩
        have HB15 := Lib.hid (bl_then HB14.out hb15)
        clear hb15
        go_wp2_with fail
        go_ret
        exact ⟨rfl, HB15.out⟩
end Go.Proofs.YtbbnfhpemaahjaaDoor.Up
end
section
set_option maxHeartbeats 2000000
set_option maxRecDepth 100000
namespace Go.Proofs.YtbbnfhpemaahjaaDoor.Up
open Go Go.ChangeShapes Go.WideShapes Go.ChangeAt Go.RowKit
open Ob Ba
theorem strs_open2 {H : Type} {enc : TypeId × Value → H} {w : World} {v : Value} {b0 : Nat} {d : DataW H} {p : List MemPlace} (hv : Value.okWide Tryd.prog w .any b0 22 v) (h : DataW.Trod enc Tryd.prog w 0 (fun _ => true) true 22 v d p) :
    ∃ A l c, v = .slice A l.length c ∧ Ar w A l c ∧ (A = none → l = [] ∧ c = 0) := by
  obtain ⟨m, hm⟩ := h
  have hvc : ∃ A n c, v = .slice A n c := okWide_slice Tryd.underlying22 hv
  obtain ⟨A0, n0, c0, rfl⟩ := hvc
  have hm' : DataW.trod enc Tryd.prog w 0 (fun _ => true) true m 22 [.slice A0 n0 c0] = some (d, p) := hm
  rcases open_strings Tryd.underlying22 Tryd.underlying9 (by kernel_rfl) hm' with ⟨hcs, _⟩ | ⟨a, l, c, ss, hcs, _, hl, hc, hlen, _, hcell, hsz⟩
  · simp only [List.cons.injEq, and_true] at hcs
    exact ⟨none, [], 0, hcs, ⟨Rs.nil _ _, Nat.le_refl _, by decide, by decide, by simp⟩, fun _ => ⟨rfl, rfl⟩⟩
  · simp only [if_true] at hlen
    simp only [List.cons.injEq, and_true] at hcs
    have hl2 : (ss.take l).length = l := by rw [List.length_take]; omega
    refine ⟨some a, ss.take l, c, by rw [hl2]; exact hcs, ⟨?_, by omega, by unfold maxLen at hc; omega, by unfold maxLen at hc; omega, fun x hx => by have := hsz x (List.mem_of_mem_take hx); unfold maxLen at this; omega⟩, fun e => by cases e⟩
    intro i x hx
    rw [List.getElem?_take] at hx
    split at hx
    · have hi := (List.getElem?_eq_some_iff.1 hx).1
      have h1 := hcell i hi
      rw [List.getD_eq_getElem?_getD, hx] at h1
      have h2 := (cell_plain h1).2
      rw [add_block] at h2
      exact ⟨a, rfl, h2, h1⟩
    · cases hx
end Go.Proofs.YtbbnfhpemaahjaaDoor.Up
end
