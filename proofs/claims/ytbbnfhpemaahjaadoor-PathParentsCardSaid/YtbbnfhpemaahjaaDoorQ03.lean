/- Parts of the proof, one behind the other: Um, Un, Ur, Uo. -/
import Derived.Test.YtbbnfhpemaahjaaDoorQ02
import Derived.Test.YtbbnfhpemaahjaaDoorRows
import Derived.Test.YtbbnfhpemaahjaaDoorCards
import Derived.Test.YtbbnfhpemaahjaaDoorTie
import Derived.ProofKit
import Derived.OpenShut
import Derived.ShutString
import Derived.SliceStrings
import Derived.ChangeOld
import Derived.ChangeMaps5
import Derived.Below
import Derived.ChangeSame
import Derived.HandedShaped
import Derived.Shelf.Vars
import Derived.LaidMore
import Derived.Lay
import Derived.LaidOnce
import Derived.SevenTiedAt
set_option linter.unusedVariables false
set_option linter.unusedSimpArgs false
set_option linter.unusedSectionVars false
section
set_option maxHeartbeats 2000000
set_option maxRecDepth 100000
namespace Go.Proofs.YtbbnfhpemaahjaaDoor.Up
open Go Go.RowKit
open Ob Ba Oc Pk Cr C6 Cc Su
def head : ByteArray := ⟨#[2, 1, 2, 0, 97, 98, 0]⟩
theorem conv7 {W : World} {B c : Nat} {A : Option Addr} {L : List Nat} (h : W.ownsRow B 5 1 (.slice A 64 c) 64 (ivs .u8 (ints L))) (hL : L.take 7 = [2, 1, 2, 0, 97, 98, 0]) :
    (convert 40 9 (.slice A 7 c)).run Tryd.prog W = .ok (.string head) W := by
  have hlen : (ints L).length = 64 := (own_rk h).2.1
  obtain ⟨x0, hx0⟩ := some_at (l := ints L) (i := 0) (by omega)
  obtain ⟨q, rfl, -, -⟩ := own_at h hx0
  have key : ∀ i < 7, (ints L)[i]? = (ints [2, 1, 2, 0, 97, 98, 0])[i]? := by
    intro i hi
    rw [← hL]
    unfold ints
    rw [List.map_take, List.getElem?_take, if_pos hi]
  refine run_convert_bytes_arg W 40 5 Tryd.underlying40 Tryd.underlying5 q 0 7 c (ints [2, 1, 2, 0, 97, 98, 0]) rfl (fun i hi => ?_) 9 Tryd.underlying9
  obtain ⟨x, hx⟩ := some_at (l := ints L) (i := i) (by omega)
  obtain ⟨q', e, h1, -⟩ := own_at h hx
  cases e
  rw [Nat.zero_add, h1, List.getD_eq_getElem?_getD, ← key i hi, hx]
  rfl
theorem lives08 (w : World) : Calls Tryd.prog 31 #[] w fun e w' => e = .returned (.bool true) ∧ Below w.heap.size w w' := by
  have HE := Lib.hid (enc_ w)
  have HL := Lib.hid (fun W => lives02 W)
  go_enter Tryd.func31, Tryd.ntmps31
  go_wp2_with fail
  refine (show Calls _ _ _ _ _ from HE.out).mono ?_
  rintro e w1 ⟨A, c, L, rfl, ho, hL, hlt, hlen, hb⟩
  have HO := Lib.hid ho
  have HB := Lib.hid hb
  have hc64 : 64 ≤ c := (own_rk ho).2.2
  clear ho hb HE hlt hlen
  go_wp2_with fail
  refine (HL.out _).mono ?_
  rintro e w2 ⟨rfl, hb2⟩
  have HC := conv7 (own_bl HO.out hb2) hL
  have HB2 := Lib.hid (bl_then HB.out hb2)
  clear hb2
  have hc0 : ¬ c = 0 := by omega
  have hc7 : 7 ≤ c := by omega
  have hhe : (head.toList == [2, 1, 2, 0, 97, 98, 0]) = true := by unfold head; rw [Lib.toList_data]; rfl
  go_wp2_with fail
  go_ret
  exact ⟨rfl, HB2.out⟩
theorem ex1 : splitD ⟨#[47, 97, 47, 98]⟩ = some [⟨#[97]⟩, ⟨#[98]⟩] := by decide
theorem ex2 : splitD ⟨#[47, 97, 47]⟩ = none := by decide
def Mx (w : World) : Prop := ∃ m, w.cell? ⟨1, 0, none⟩ = some (.int .i64 m)
theorem Mx.below {w w' : World} (h : Mx w) (hb : Below w.heap.size w w') : Mx w' := by
  obtain ⟨m, hm⟩ := h
  exact ⟨m, (hb.cell (p := ⟨1, 0, none⟩) (cell_plain hm).2).trans hm⟩
theorem splitM {s : ByteArray} (hs : s.size ≤ 1000000) {w : World} (hm : Mx w) :
    Calls Tryd.prog 17 #[.string s] w fun e w' => PIs e w' (splitD s) ∧ Below w.heap.size w w' := by
  obtain ⟨m, hm⟩ := hm
  exact split_ hs hm
theorem lives12 {w : World} (hm : Mx w) : Calls Tryd.prog 11 #[] w fun e w' => e = .returned (.bool true) ∧ Below w.heap.size w w' := by
  have HS := Lib.hid (splitM (s := ⟨#[47, 97, 47, 98]⟩) (by decide) hm)
  rw [ex1] at HS
  have HMX := Lib.hid hm
  have HL := Lib.hid (fun W => lives08 W)
  clear hm
  go_enter Tryd.func11, Tryd.ntmps11
  go_wp2_with fail
  refine HS.out.mono ?_
  rintro e w1 ⟨⟨A, c, rfl, hR, hc⟩, hb1⟩
  have HS2 := Lib.hid (splitM (s := ⟨#[47, 97, 47]⟩) (by decide) (HMX.out.below hb1))
  rw [ex2] at HS2
  obtain ⟨b, o, rfl, hbl, hcc⟩ := hR.plain (by simp)
  have HR := Lib.hid hcc
  have HBL := Lib.hid hbl
  have HB1 := Lib.hid hb1
  clear hb1 HS HMX hR hcc hbl
  go_wp2_with fail
  refine HS2.out.mono ?_
  rintro e w2 ⟨hp, hb2⟩
  have he : e = .returned (.tuple #[.slice none 0 0, .int .i64 3]) := hp
  subst he
  have HB2 := Lib.hid hb2
  clear hb2 hp HS2
  go_wp2_with fail
  refine (HL.out _).mono ?_
  rintro e w3 ⟨rfl, hb3⟩
  have HB13 : Hid (Below w1.heap.size w1 w3) := bl_then HB2.out hb3
  have HB3 := Lib.hid (bl_then HB1.out HB13.out)
  have c0 : w3.cell? ⟨b, o, none⟩ = some (.string ⟨#[97]⟩) := (HB13.out.cell (p := ⟨b, o, none⟩) HBL.out).trans (HR.out 0 _ rfl)
  have c1 : w3.cell? ⟨b, o + 1, none⟩ = some (.string ⟨#[98]⟩) := (HB13.out.cell (p := ⟨b, o + 1, none⟩) HBL.out).trans (HR.out 1 _ rfl)
  have e1 : ((⟨#[97]⟩ : ByteArray).toList == [97]) = true := by rw [Lib.toList_data]; rfl
  have e2 : ((⟨#[98]⟩ : ByteArray).toList == [98]) = true := by rw [Lib.toList_data]; rfl
  clear hb3
  go_wp2_with fail
  go_ret
  exact ⟨rfl, HB3.out⟩
end Go.Proofs.YtbbnfhpemaahjaaDoor.Up
end
section
set_option maxHeartbeats 2000000
set_option maxRecDepth 100000
namespace Go.Proofs.YtbbnfhpemaahjaaDoor.Up
open Go Go.RowKit
open Ob Ba
structure Ar (w : World) (A : Option Addr) (l : List ByteArray) (c : Nat) : Prop where
  rs : Rs w A l
  cap : l.length ≤ c
  cap2 : c ≤ 9223372036854775807
  len : l.length ≤ 9223372036854775807
  size : ∀ x ∈ l, x.size ≤ 9223372036854775807
theorem few_is {l : List ByteArray} (h : fewB l = true) : l.length ≤ 70 ∧ ∀ x ∈ l, x.size ≤ 60 := by
  unfold fewB at h
  simp only [Bool.and_eq_true, decide_eq_true_eq, List.all_eq_true] at h
  exact ⟨h.2, h.1⟩
end Go.Proofs.YtbbnfhpemaahjaaDoor.Up
end
section
set_option maxHeartbeats 2000000
set_option maxRecDepth 100000
namespace Go.Proofs.YtbbnfhpemaahjaaDoor.Up
open Go Go.RowKit
open Ob Ba
theorem snoc_of {l : List ByteArray} (h : l ≠ []) : ∃ L n, l = L ++ [n] := ⟨l.dropLast, l.getLast h, (List.dropLast_concat_getLast h).symm⟩
theorem parents_ {w : World} (hm : Mx w) {A : Option Addr} {l : List ByteArray} {c : Nat} (ha : Ar w A l c) :
    Calls Tryd.prog 3 #[.slice A l.length c] w fun e w' => e = .returned (.bool true) ∧ Below w.heap.size w w' := by
  have HL := Lib.hid (fun (W : World) (hW : Below w.heap.size w W) => lives12 (hm.below hW))
  have HF := Lib.hid (fun (W : World) (hW : Below w.heap.size w W) => few_ (ha.rs.below hW) c ha.len ha.size)
  cases hf : fewB l with
  | false =>
    rw [hf] at HF
    generalize l.length = n at *
    clear hm ha hf
    go_enter Tryd.func3, Tryd.ntmps3
    go_wp2_with fail
    refine (HL.out _ (Below.refl _ _)).mono ?_
    rintro e w1 ⟨rfl, hb1⟩
    have HB1 := Lib.hid hb1
    clear hb1
    go_wp2_with fail
    refine (HF.out _ HB1.out).mono ?_
    rintro e w2 ⟨rfl, hw⟩
    subst hw
    go_wp2_with fail
    refine (HL.out _ HB1.out).mono ?_
    rintro e w3 ⟨rfl, hb3⟩
    have HB3 := Lib.hid (bl_then HB1.out hb3)
    clear hb3
    go_wp2_with fail
    go_ret
    exact ⟨rfl, HB3.out⟩
  | true =>
    rw [hf] at HF
    by_cases h0 : l = []
    · subst h0
      have HP := Lib.hid (fun (W : World) => parent0_ (w := W) A c)
      have hee : ((⟨#[]⟩ : ByteArray).toList == ([] : List UInt8)) = true := by rw [Lib.toList_data]; rfl
      have hee2 : (⟨#[]⟩ : ByteArray).toList.isEmpty = true := by rw [Lib.toList_data]; rfl
      rw [List.length_nil] at *
      clear hm ha hf
      go_enter Tryd.func3, Tryd.ntmps3
      go_wp2_with fail
      refine (HL.out _ (Below.refl _ _)).mono ?_
      rintro e w1 ⟨rfl, hb1⟩
      have HB1 := Lib.hid hb1
      clear hb1
      go_wp2_with fail
      refine (HF.out _ HB1.out).mono ?_
      rintro e w2 ⟨rfl, hw⟩
      subst hw
      go_wp2_with fail
      refine (HP.out _).mono ?_
      rintro e w3 ⟨rfl, hw⟩
      subst hw
      go_wp2_with fail
      go_ret
      exact ⟨rfl, HB1.out⟩
    obtain ⟨h70, -⟩ := few_is hf
    obtain ⟨L, n, rfl⟩ := snoc_of h0
    have hcap := ha.cap
    have hcap2 := ha.cap2
    rw [List.length_append, List.length_cons, List.length_nil] at *
    obtain ⟨q, hq⟩ : ∃ q, q = L.length := ⟨_, rfl⟩
    obtain ⟨b, o, rfl, hb, hcc⟩ := ha.rs.plain (by simp)
    have HP := Lib.hid (fun (W : World) (hW : Below w.heap.size w W) => parent_ (ha.rs.below hW) c (by omega) (by omega) (by omega))
    have HS := Lib.hid (fun (W : World) (hW : Below w.heap.size w W) (D : Option Addr) (k : Nat) (h : Rs W D L) => rsame_ h (ha.rs.below hW).last k c (by omega) (by omega))
    rw [decide_eq_true rfl] at HS
    have HN : Hid (∀ W, Below w.heap.size w W → W.cell? ⟨b, o + q, none⟩ = some (.string n)) := fun W hW => (hW.cell (p := ⟨b, o + q, none⟩) hb).trans (by rw [hq]; exact hcc L.length n (by simp))
    have hnn : (n.toList == n.toList) = true := by simp
    obtain ⟨M, hM⟩ : ∃ M, M = q + 1 := ⟨_, rfl⟩
    have e1 : (M : Int) - 1 = (q : Int) := by omega
    have e2 : ((M : Int) == 0) = false := beq_eq_false_iff_ne.2 (by omega)
    have hq5 : q ≤ c := by omega
    have hq6 : q < M := by omega
    have hc0 : ¬ c = 0 := by omega
    have hL0 : ¬ M = 0 := by omega
    have hw : IntKind.i64.wrap (q : Int) = (q : Int) := by rw [IntKind.wrap_i64]; omega
    have hq70 : q ≤ 70 := by omega
    have hP1 : L.length + 1 = M := by omega
    rw [hP1] at HP
    rw [show L.length + (0 + 1) = M from hP1] at HF
    rw [show L.length + (0 + 1) = M from hP1]
    rw [← hq] at HP HS
    clear hm ha hf h0 hcc hb hcap hcap2 hM hq hP1 h70
    go_enter Tryd.func3, Tryd.ntmps3
    go_wp2_with fail
    refine (HL.out _ (Below.refl _ _)).mono ?_
    rintro e w1 ⟨rfl, hb1⟩
    have HB1 := Lib.hid hb1
    clear hb1
    go_wp2_with fail
    refine (HF.out _ HB1.out).mono ?_
    rintro e w2 ⟨rfl, hw⟩
    subst hw
    go_wp2_with fail
    refine (HP.out _ HB1.out).mono ?_
    rintro e w3 ⟨⟨v, rfl, ho⟩, hb3⟩
    have HB3 := Lib.hid (bl_then HB1.out hb3)
    obtain ⟨D, k, qs, rfl, -, -⟩ := Sl.of_own ho
    have HO3 := Lib.hid (own_base ho HB1.out.size)
    have hn3 := HN.out _ HB3.out
    clear hb3 ho
    go_wp2_with fail
    refine (HS.out _ HB3.out D k (own_rs HO3.out).1).mono ?_
    rintro e w4 ⟨rfl, hb4⟩
    have HB4 := Lib.hid (bl_then HB3.out hb4)
    have HO4 := Lib.hid (own_bl HO3.out hb4)
    clear hb4 hn3
    go_wp2_with fail
    go_loopw [62] (fun c62 wr => ∃ i : Nat, i ≤ q ∧ c62 = .int .i64 i ∧ Hid (Below w.heap.size w wr ∧ ∃ xs, wr.ownsRow w.heap.size 9 1 (.slice D q k) q xs)) (fun c62 _ => q - (intOf c62).toNat)
    case atStart => exact ⟨0, Nat.zero_le _, rfl, HB4.out, _, HO4.out⟩
    case round =>
      obtain ⟨i, hi, rfl, HR⟩ := hrel
      by_cases hlt : i < q
      · obtain ⟨xs, hown⟩ := HR.out.2
        have hlo := own_lo hown
        obtain ⟨D', c', qs', hv, hsl, -⟩ := Sl.of_own hown
        cases hv
        have hxl : xs.length = q := by have := hown.1; omega
        obtain ⟨x, hx⟩ := some_at (l := xs) (i := i) (by omega)
        obtain ⟨g, off, cs, rfl, -, -, -, hcell, hfr⟩ := hsl.at_ hx
        have hoff : off = 0 := by
          obtain ⟨-, ⟨h2, -⟩ | ⟨g2, cap, cur, hv2, -⟩⟩ := hown
          · cases h2
          · simp only [Value.slice.injEq, Option.some.injEq, Addr.mk.injEq] at hv2
            exact hv2.1.2.1
        subst hoff
        rw [Nat.zero_add] at hcell hfr
        have hb5 : Below w.heap.size w (wr.setCell ⟨g, i, none⟩ (.string ⟨#[63]⟩)) := bl_set HR.out.1 (hlo g rfl) _
        have ho5 := own_set hown hlt (.string ⟨#[63]⟩)
        have HZ : Hid (Below w.heap.size w (wr.setCell ⟨g, i, none⟩ (.string ⟨#[63]⟩)) ∧ ∃ xs, (wr.setCell ⟨g, i, none⟩ (.string ⟨#[63]⟩)).ownsRow w.heap.size 9 1 (.slice (some ⟨g, 0, none⟩) q k) q xs) := ⟨hb5, _, ho5⟩
        clear hown hsl hx hxl hlo hb5 ho5
        go_wp2_with fail
        go_roundw
        case rel => exact ⟨i + 1, by omega, by go_num, HZ.out⟩
        case measure => simp [intOf]; omega
      · obtain rfl : i = q := by omega
        go_wp2_with fail
        refine (HP.out _ HR.out.1).mono ?_
        rintro e w6 ⟨⟨v, rfl, ho⟩, hb6⟩
        have HB6 := Lib.hid (bl_then HR.out.1 hb6)
        obtain ⟨D6, k6, qs6, rfl, -, -⟩ := Sl.of_own ho
        have HS6 := Lib.hid (HS.out _ HB6.out D6 k6 (own_rs ho).1)
        clear hb6 ho
        go_wp2_with fail
        refine HS6.out.mono ?_
        rintro e w7 ⟨rfl, hb7⟩
        have HB7 := Lib.hid (bl_then HB6.out hb7)
        clear hb7
        go_wp2_with fail
        go_ret
        exact ⟨rfl, HB7.out⟩
end Go.Proofs.YtbbnfhpemaahjaaDoor.Up
end
section
set_option maxHeartbeats 2000000
set_option maxRecDepth 100000
namespace Go.Proofs.YtbbnfhpemaahjaaDoor.Up
open Go Go.ChangeShapes Go.WideShapes Go.ChangeAt Go.RowKit
open Ob Ba
theorem own : ownKnob Tryd.prog.godebug = none := by kernel_rfl
theorem laidOut : laidOutB Tryd.prog = true := by kernel_rfl
def laid : List (String × DataW Unit) := [("unicode/utf8.acceptRanges", Rows.laid_unicode_utf8_acceptRanges), ("unicode/utf8.first", Rows.laid_unicode_utf8_first)]
theorem handed_both {H : Type} {enc : TypeId × Value → H} {a : Assume} {C : Checked} {os : Os} {f : FuncId} {fn : Func} {s : ChangeSpec} {conds : List PathCond} {apart fresh handsOn again : Bool} {X : World → Array Value → Prop}
    (hX : ∀ (w w' : World) (args : Array Value), w.heap = w'.heap → X w args → X w' args)
    (own : ownKnob C.prog.godebug = none) (started : os.Started) (noInit : C.prog.inits.idxOf? f = none) (hfn : C.prog.funcs[f]? = some fn)
    (witness : ∃ (w : World) (tape : Tape) (i : Input), w.os = os ∧ (w.forCall tape i).Shaped C.prog ∧ i.vars = [] ∧ Input.okWide C.prog (w.forCall tape i) .any w.heap.size f i ∧
      ((s.pre enc C.prog fn conds apart (w.forCall tape i).memory i.args ∧ X (w.forCall tape i).memory i.args) ∧ sizedMet enc C.prog fn (OpenSpec.ofChange s) apart (w.forCall tape i).memory i.args) ∧ a.holds C.prog (lone (Frame.enter C.prog f i.args .normal) [] (w.forCall tape i)))
    (contract : ∀ (W : World) (base : Nat) (args : Array Value) (ds gs : List (DataW H)) (before : List MemPlace),
      (∀ (j : Nat) t v, fn.params[j]? = some t → args[j]? = some v → Value.okWide C.prog W .any base t v) →
      DataW.Whole enc C.prog fn.params.toList s.vars apart W args.toList ds gs before →
      (DataW.weightsEach C.prog (fn.params.toList ++ s.plain.varTypes C.prog) (ds ++ gs)).all (· ≤ reachBytes) = true → X W args →
      W.ShapedOpen C.prog →
      Calls C.prog f args W fun e W' => ∃ v, e = .returned v ∧ s.post enc C.prog fn apart fresh handsOn again W args v W') :
    ReturnsInHanded a C os f .any (fun w args => (s.pre enc C.prog fn conds apart w args ∧ X w args) ∧ sizedMet enc C.prog fn (OpenSpec.ofChange s) apart w args) (s.post enc C.prog fn apart fresh handsOn again) := by
  refine returnsInHanded_of_calls own started noInit witness ?_
  intro w tape i _ hsh _ hok hpre hholds
  obtain ⟨_, _, _, fn', hfn', _, _, _, _, hval⟩ := hok
  have e : fn' = fn := Option.some.inj (hfn'.symm.trans hfn)
  subst e
  obtain ⟨⟨⟨ds, gs, before, hw, hc⟩, hx⟩, hz⟩ := hpre
  have hw' := DataW.Whole.of_heap (w' := w.forCall tape i) (by rfl) hw
  refine (contract (w.forCall tape i) w.heap.size i.args ds gs before hval hw' (hz.weights hw) (hX _ _ _ (by rfl) hx) hsh).mono fun e W' ⟨v, he, hp⟩ => ?_
  subst he
  exact ChangeSpec.post_blind hp
theorem mx_open {W : World} (h : W.ShapedOpen Tryd.prog) : Mx W :=
  cell_of_shapedOpen_int (P := Tryd.prog) (g := 1) (t := 3) (zero := #[.int .i64 0]) h (of_decide_eq_true (by kernel_rfl)) (by kernel_rfl) rfl (by kernel_rfl) (by kernel_rfl) Tryd.underlying3
theorem strs_open {H : Type} {enc : TypeId × Value → H} {w : World} {v : Value} {b0 : Nat} {d : DataW H} {p : List MemPlace} (hv : Value.okWide Tryd.prog w .any b0 22 v) (h : DataW.Trod enc Tryd.prog w 0 (fun _ => true) true 22 v d p) :
    ∃ A l c, v = .slice A l.length c ∧ Ar w A l c := by
  obtain ⟨m, hm⟩ := h
  have hvc : ∃ A n c, v = .slice A n c := okWide_slice Tryd.underlying22 hv
  obtain ⟨A0, n0, c0, rfl⟩ := hvc
  have hm' : DataW.trod enc Tryd.prog w 0 (fun _ => true) true m 22 [.slice A0 n0 c0] = some (d, p) := hm
  rcases open_strings Tryd.underlying22 Tryd.underlying9 (by kernel_rfl) hm' with ⟨hcs, _⟩ | ⟨a, l, c, ss, hcs, _, hl, hc, hlen, _, hcell, hsz⟩
  · simp only [List.cons.injEq, and_true] at hcs
    exact ⟨none, [], 0, hcs, Rs.nil _ _, Nat.le_refl _, by decide, by decide, by simp⟩
  · simp only [if_true] at hlen
    simp only [List.cons.injEq, and_true] at hcs
    have hl2 : (ss.take l).length = l := by rw [List.length_take]; omega
    refine ⟨some a, ss.take l, c, by rw [hl2]; exact hcs, ?_, by omega, by unfold maxLen at hc; omega, by unfold maxLen at hc; omega, fun x hx => by have := hsz x (List.mem_of_mem_take hx); unfold maxLen at this; omega⟩
    intro i x hx
    rw [List.getElem?_take] at hx
    split at hx
    · have hi := (List.getElem?_eq_some_iff.1 hx).1
      have h1 := hcell i hi
      rw [List.getD_eq_getElem?_getD, hx] at h1
      have h2 := (cell_plain h1).2
      rw [add_block] at h2
      exact ⟨a, rfl, h2, h1⟩
    · cases hx
end Go.Proofs.YtbbnfhpemaahjaaDoor.Up
end
