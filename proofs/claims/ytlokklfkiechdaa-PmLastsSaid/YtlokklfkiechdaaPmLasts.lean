/- PmLasts: whatever is asked of a device before a crash, each word then holds a value that it may hold, which lasts; the law returns true, and its arguments read as they did. No conditions. -/
import Derived.Test.YtlokklfkiechdaaRows
import Derived.Test.YtlokklfkiechdaaLd
import Derived.Test.YtlokklfkiechdaaLe
import Derived.ProofKit
import Derived.OpenShut
import Derived.ShutString
import Derived.ChangeOld
import Derived.Below
namespace Go.Proofs.Ytlokklfkiechdaa.pmLasts
open Go.ChangeShapes Go.WideShapes Go.ChangeAt Go.RowKit
open Go.ChangeMaps (open_string shut_string)
open Go.Proofs.Ytlokklfkiechdaa.La
set_option linter.unusedVariables false
set_option maxHeartbeats 2000000

theorem own : ownKnob Try.prog.godebug = none := by kernel_rfl
theorem laidOut : laidOutB Try.prog = true := by kernel_rfl

theorem bytes_open {H : Type} {enc : TypeId × Value → H} {w : World} {fuel : Nat} {cs : List Value} {x : DataW H × List MemPlace} (h : DataW.trod enc Try.prog w 0 (fun _ => true) true fuel 54 cs = some x) :
    ∃ (C : Option Addr) (l : List Nat) (c : Nat), cs = [.slice C l.length c] ∧ ∀ (i x : Nat), l[i]? = some x → ∃ q off, C = some ⟨q, off, none⟩ ∧ q < w.heap.size ∧ w.cell? ⟨q, off + i, none⟩ = some (.int .u8 x) ∧ x < 256 := by
  rcases open_ints Try.underlying54 Try.underlying5 (by kernel_rfl) h with ⟨hcs, _⟩ | ⟨a, l, c, zs, hcs, _, hl, hm, hz, _, hcell, hwz⟩
  · exact ⟨none, [], 0, hcs, by intro i x hx; simp at hx⟩
  · refine ⟨some a, (zs.take l).map Int.toNat, c, ?_, ?_⟩
    · rw [hcs]
      simp only [if_true] at hz
      simp [hz]
      omega
    · intro i x hx
      rw [List.getElem?_map, Option.map_eq_some_iff] at hx
      obtain ⟨z, hz1, rfl⟩ := hx
      obtain ⟨hi, hz2⟩ := List.getElem?_eq_some_iff.1 hz1
      rw [List.getElem_take] at hz2
      simp only [List.length_take] at hi
      have hi2 : i < zs.length := by omega
      have hc0 := hcell 0 (by omega)
      have hp : a = ⟨a.block, a.off, none⟩ := (cell_plain (a := a) (by simpa [Addr.add] using hc0)).1
      have hci := hcell i hi2
      have hwf := int_wf (hwz z (by rw [← hz2]; exact List.getElem_mem _))
      simp [IntKind.min, IntKind.max, IntKind.bits, IntKind.signed] at hwf
      obtain ⟨p1, p2⟩ := cell_plain hci
      have hblk : (a.add i).block = a.block := by rw [hp, add_plain]
      rw [hblk] at p2
      rw [hp, add_plain] at hci
      refine ⟨a.block, a.off, by rw [← hp], p2, ?_, by omega⟩
      rw [hci, List.getD_eq_getElem?_getD, List.getElem?_eq_getElem hi2, hz2]
      simp only [Option.getD_some]
      rw [Int.toNat_of_nonneg hwf.1]

theorem walk {w : World} {A C : Option Addr} {l : List La.Act} {a0 : Int} {cs : List Nat} (h : ActsAt w A l) (c cc : Nat) (h0 : 0 ≤ a0) (h1 : a0 < 256) (hl : l.length ≤ 9223372036854775807) (hcs : ∀ (i x : Nat), cs[i]? = some x → ∃ q off, C = some ⟨q, off, none⟩ ∧ q < w.heap.size ∧ w.cell? ⟨q, off + i, none⟩ = some (.int .u8 x) ∧ x < 256) :
    Calls Try.prog 8 #[.int .u8 a0, .slice A l.length c, .slice C cs.length cc] w fun e w' => e = .returned (.bool true) ∧ Below w.heap.size w w' := by
  by_cases hc : cs.length ≤ 100
  · cases hf : fewB l with
    | true => exact lasts_yes h c cc h0 h1 hf hc hcs
    | false => exact lasts_no h c cs.length cc hl (.inl hf)
  · exact lasts_no h c cs.length cc hl (.inr (by omega))

set_option maxRecDepth 100000 in
theorem lifted (os : Os) (started : os.Started) (H : Type) (enc : TypeId × Value → H) :
    ReturnsInHanded {} Try.checked os 8 .any (Rows.pmLastsSpec.pre6 enc Try.prog Try.f8 Rows.pmLastsRow.domain false) (Rows.pmLastsSpec.post enc Try.prog Try.f8 false true false false) := by
  refine returnsInHanded_of_change (C := Try.checked) own started (by kernel_rfl) Try.func8
    (ChangeSpec.witness6 (enc := enc) (C := Try.checked) false ⟨#[], #[.int .u8 0, .slice none 0 0, .slice none 0 0], []⟩ 8 (by kernel_rfl) (by kernel_rfl) (by kernel_rfl) (by kernel_rfl)) ?_
  intro W base args ds gs before hval0 hW hcnd _
  have hval : ∀ (j : Nat) t v, Try.f8.params[j]? = some t → args[j]? = some v → Value.okWide Try.prog W .any base t v := hval0
  have hW' := hW
  obtain ⟨p, q, hA0, hV, rfl, hfz, hnd⟩ := hW
  have hA : DataW.TrodAll enc Try.prog W 0 (fun _ => true) true Try.f8.params.toList args.toList ds p := hA0
  rw [Try.params8] at hA hval
  obtain ⟨v0, vs0, d0, ds0, p0, q0, hargs, rfl, rfl, h0, r0⟩ := trodAll_cons hA
  obtain ⟨v1, vs1, d1, ds1, p1, q1, rfl, rfl, rfl, h1, r1⟩ := trodAll_cons r0
  obtain ⟨v2, vs2, d2, ds2, p2, q2, rfl, rfl, rfl, h2, r2⟩ := trodAll_cons r1
  obtain ⟨rfl, rfl, rfl⟩ := trodAll_nil r2
  obtain rfl : args = #[v0, v1, v2] := by cases args; simp_all
  obtain ⟨rfl, rfl⟩ := trodVars_none hV
  obtain ⟨a0, rfl, rfl, rfl, w0⟩ := open_int Try.underlying5 (hval 0 5 v0 rfl rfl) h0
  obtain ⟨A, len, cap, rfl⟩ := okWide_slice Try.underlying53 (hval 1 53 v1 rfl rfl)
  obtain ⟨C, cn, cc, rfl⟩ := okWide_slice Try.underlying54 (hval 2 54 v2 rfl rfl)
  have lt1 : ∀ x ∈ p1, x.block < W.heap.size := by obtain ⟨m, hm⟩ := h1; exact DataW.trod_lt m _ _ _ hm
  have lt2 : ∀ x ∈ p2, x.block < W.heap.size := by obtain ⟨m, hm⟩ := h2; exact DataW.trod_lt m _ _ _ hm
  have k1 := h1
  have k2 := h2
  obtain ⟨f1, hf1⟩ := h1
  obtain ⟨f2, hf2⟩ := h2
  obtain ⟨A', l, c', e1, hacts, hl⟩ := acts_open hf1
  obtain ⟨C', cs, cc', e2, hcs⟩ := bytes_open hf2
  simp [Value.cells] at e1 e2
  obtain ⟨rfl, rfl, rfl⟩ := e1
  obtain ⟨rfl, rfl, rfl⟩ := e2
  have hb := int_wf w0
  simp [IntKind.min, IntKind.max, IntKind.bits, IntKind.signed] at hb
  clear hA0 hval0
  refine (walk (a0 := a0) hacts cap cc (by omega) (by omega) hl hcs).mono fun e W' ⟨he, bel⟩ => ?_
  subst he
  exact ⟨_, rfl, _, _, _, [], _, [], hW', trodAll_mk1 (shut_bool Try.underlying4 _), (trodAll_cons_mk (shut_int Try.underlying5 w0) (trodAll_cons_mk (Below.trod laidOut (by kernel_rfl) (of_decide_eq_true (by kernel_rfl)) k1 bel lt1) (trodAll_cons_mk (Below.trod laidOut (by kernel_rfl) (of_decide_eq_true (by kernel_rfl)) k2 bel lt2) trodAll_mk0))), rfl, bel.frame _, fun h => by cases h⟩

theorem over : Rows.pmLastsRow.holds Try.pinned (OpenSpec.ofChange Rows.pmLastsSpec) :=
  OpenClaim.holds_of_wide 8 Try.f8 rfl rfl rfl rfl rfl rfl rfl ⟨rfl, rfl, rfl, rfl, rfl⟩ rfl rfl rfl rfl rfl (by kernel_rfl) Try.func8 (by kernel_rfl)
    (of_decide_eq_true (by kernel_rfl)) (by unfold Func.isWrapper; first | (rw [if_pos (by decide +kernel)]; kernel_rfl) | (rw [if_neg (by decide +kernel)]; exact ⟨rfl, rfl⟩))
    (fun os started H enc _ => lifted os started H enc)

/-- PmLasts holds. -/
theorem proved : Rows.PmLastsSaid := over
#print axioms proved

end Go.Proofs.Ytlokklfkiechdaa.pmLasts
