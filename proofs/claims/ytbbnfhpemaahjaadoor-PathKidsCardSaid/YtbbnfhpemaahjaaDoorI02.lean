/- Parts of the proof, one behind the other: Uf, Ug, Uh, Ui, Uj, Cr, Cc, C6, Oc, Cd, Ce, Pk, We, Mp, Su, PmR, Lv. -/
import Derived.Test.YtbbnfhpemaahjaaDoorI01
import Derived.BigQuiet
import Derived.Laws.Cover1
import Derived.Laws.BitsLemmas
import Derived.Test.YtbbnfhpemaahjaaDoorProg
import Derived.LoopTactic
import Derived.WalkSpells
import Derived.RegionTactic
import Derived.ChangeAlike
import Derived.BigRegion
import Derived.Carry
import Derived.ChangeMaps5
import Derived.Maps.RangeRun
import Derived.Maps.OwnOps
import Derived.Maps.RangeWalk
import Derived.Maps.OwnSet
import Derived.WalkKit
import Derived.Lib.Hide
import Derived.Deep.RegionWith
import Derived.Deep.RegionHeld3
import Derived.OwnWalk
import Derived.ArgAppend
import Derived.Laws.MakeOwn
import Derived.Lib.SlBytesConst
import Derived.KernelRfl
import Derived.Outline
import Derived.Deep.QuietTactic
import Derived.Maps.Own
set_option linter.unusedVariables false
set_option linter.unusedSimpArgs false
set_option linter.unusedSectionVars false
section
set_option maxHeartbeats 2000000
set_option maxRecDepth 100000
namespace Go.Proofs.YtbbnfhpemaahjaaDoor.Up
open Go Go.RowKit
open Ob Ba
def PIs (e : Ending) (w : World) : Option (List ByteArray) → Prop
  | some l => ∃ A c, e = .returned (.tuple #[.slice A l.length c, .int .i64 0]) ∧ Rs w A l ∧ l.length ≤ c
  | none => e = .returned (.tuple #[.slice none 0 0, .int .i64 3])
theorem piece_sizes (s : ByteArray) : ∀ x ∈ piecesB s, x.size ≤ s.size := by
  unfold piecesB
  have key : ∀ (l acc : List UInt8) x, x ∈ pcs 47 acc l → x.length ≤ acc.length + l.length := by
    intro l
    induction l with
    | nil => intro acc x hx; simp [pcs] at hx; subst hx; simp
    | cons y r ih =>
      intro acc x hx
      unfold pcs at hx
      split at hx
      · rcases List.mem_cons.1 hx with rfl | hx
        · omega
        · have := ih [] x hx; simp at this ⊢; omega
      · have := ih _ x hx; simp at this ⊢; omega
  intro x hx
  rw [List.mem_map] at hx
  obtain ⟨y, hy, rfl⟩ := hx
  have := key _ _ y hy
  rw [size_data, mkB_data, size_data]
  simpa using this
theorem pieces_count (s : ByteArray) : (piecesB s).length ≤ s.size + 1 := by
  unfold piecesB
  have key : ∀ (l acc : List UInt8), (pcs 47 acc l).length ≤ l.length + 1 := by
    intro l
    induction l with
    | nil => intro acc; simp [pcs]
    | cons y r ih =>
      intro acc
      unfold pcs
      split
      · have := ih []; simp at this ⊢; omega
      · have := ih (acc ++ [y]); simp at this ⊢; omega
  rw [List.length_map, size_data]
  exact key _ _
theorem count_pieces (s : ByteArray) : Lib.countB s slash + 1 = (piecesB s).length := by
  have e2 : slash.data.toList = [47] := rfl
  unfold Lib.countB piecesB
  rw [e2, Lib.count_one, List.length_map]
  have key : ∀ (l acc : List UInt8), (pcs 47 acc l).length = l.count 47 + 1 := by
    intro l
    induction l with
    | nil => intro acc; rfl
    | cons y r ih =>
      intro acc
      unfold pcs
      by_cases h : y = 47
      · rw [if_pos h, List.length_cons, ih, h, List.count_cons_self]
      · rw [if_neg h, ih, List.count_cons_of_ne (by simpa using h)]
  exact (key _ _).symm
theorem split_call (s : ByteArray) (m : Int) (w : World) (hs : s.size < 4294967281) (hm : w.cell? ⟨1, 0, none⟩ = some (.int .i64 m)) :
    Calls Tryd.prog 35 #[.string s, .string slash] w fun e w' => (∃ A, e = .returned (.slice A (piecesB s).length (piecesB s).length) ∧ Rs w' A (piecesB s)) ∧ Below w.heap.size w w' := by
  refine (Tryd.strings_Split s slash m w hs hm (by decide)).mono ?_
  rintro e w' ⟨rfl, rfl⟩
  rw [count_pieces, splitB_pieces]
  refine ⟨⟨_, rfl, ?_⟩, (Below.refl _ _).alloc (Nat.le_refl _) _⟩
  exact blk_rs (heap_alloc_new w _) (fun i x hx => by simp [hx])
theorem trim_le (s : ByteArray) : (⟨(Lib.trimPrefix s.data.toList slash.data.toList).toArray⟩ : ByteArray).size ≤ s.size := by
  rw [size_data, size_data]
  unfold Lib.trimPrefix
  split <;> simp
theorem splitD_root : splitD slash = some [] := by unfold splitD; rw [if_pos rfl]
theorem splitD_none {s : ByteArray} (h1 : s ≠ slash) (h2 : Lib.hasPrefix s.data.toList slash.data.toList = false) : splitD s = none := by
  unfold splitD
  rw [if_neg h1]
  split
  · rfl
  · rename_i c r hc
    rw [hc] at h2
    rw [if_neg]
    intro e
    subst e
    revert h2
    simp [Lib.hasPrefix, slash]
theorem splitD_some {s : ByteArray} (h1 : s ≠ slash) (h2 : Lib.hasPrefix s.data.toList slash.data.toList = true) : ∃ t, t.size + 1 = s.size ∧ (⟨(Lib.trimPrefix s.data.toList slash.data.toList).toArray⟩ : ByteArray) = t ∧ splitD s = if mayB (piecesB t) then some (piecesB t) else none := by
  unfold splitD
  rw [if_neg h1]
  generalize hl : s.data.toList = l at *
  have hsz := size_data s
  rw [hl] at hsz
  cases l with
  | nil => simp [Lib.hasPrefix, slash] at h2
  | cons c r =>
    have hc : 47 = c := by simpa [Lib.hasPrefix, slash] using h2
    subst hc
    refine ⟨mkB r, ?_, ?_, ?_⟩
    · rw [size_data, mkB_data, hsz]; rfl
    · unfold mkB
      congr 2
    · show (if (47 : UInt8) = 47 then _ else _) = _
      rw [if_pos rfl]
      unfold piecesB
      rw [mkB_data]
theorem split_ {s : ByteArray} (hs : s.size ≤ 1000000) {w : World} {m : Int} (hm : w.cell? ⟨1, 0, none⟩ = some (.int .i64 m)) :
    Calls Tryd.prog 17 #[.string s] w fun e w' => PIs e w' (splitD s) ∧ Below w.heap.size w w' := by
  by_cases hr : s = slash
  · subst hr
    rw [splitD_root]
    have hE : (slash.toList == [47]) = true := by unfold slash; rw [Lib.toList_data]; rfl
    go_enter Tryd.func17, Tryd.ntmps17
    go_wp2_with fail
    go_ret2
    exact ⟨⟨none, 0, rfl, Rs.nil _ _, Nat.le_refl _⟩, Below.refl _ _⟩
  have hne : (s.toList == [47]) = false := beq_eq_false_iff_ne.2 (fun e => hr (toList_inj (by rw [e]; unfold slash; rw [Lib.toList_data])))
  have HCP := Lib.hid (Tryd.strings_CutPrefix s slash w)
  cases hp : Lib.hasPrefix s.data.toList slash.data.toList with
  | false =>
    rw [splitD_none hr hp]
    rw [hp] at HCP
    have HSP := Lib.hid (split_call ⟨(Lib.trimPrefix s.data.toList slash.data.toList).toArray⟩ m w (by have := trim_le s; omega) hm)
    generalize piecesB ⟨(Lib.trimPrefix s.data.toList slash.data.toList).toArray⟩ = l at *
    generalize (Lib.trimPrefix s.data.toList slash.data.toList).toArray = t at *
    clear hr hp
    go_enter Tryd.func17, Tryd.ntmps17
    go_wp2_with fail
    refine HCP.out.mono ?_
    rintro e w1 ⟨rfl, hw1⟩
    subst hw1
    go_wp2_with fail
    refine HSP.out.mono ?_
    rintro e w2 ⟨⟨A, rfl, hR⟩, hb2⟩
    have HR2 := Lib.hid hR
    have HB2 := Lib.hid hb2
    clear hR hb2
    go_wp2_with fail
    go_ret2
    exact ⟨rfl, HB2.out⟩
  | true =>
    obtain ⟨t, ht1, ht2, ht3⟩ := splitD_some hr hp
    rw [ht3]
    rw [hp, ht2] at HCP
    clear ht2 ht3
    have HSP := Lib.hid (split_call t m w (by omega) hm)
    have hcnt := pieces_count t
    have hsz := piece_sizes t
    generalize piecesB t = l at *
    have HSZ : Hid (∀ x ∈ l, x.size < 4294967281) := fun x hx => by have := hsz x hx; omega
    obtain ⟨R, hR⟩ : ∃ R, R = mayB l := ⟨_, rfl⟩
    rw [← hR]
    have HRR := Lib.hid hR
    clear hr hp hsz hR
    have hcn : l.length ≤ 1000000000 := by omega
    clear hcnt
    go_enter Tryd.func17, Tryd.ntmps17
    go_wp2_with fail
    refine HCP.out.mono ?_
    rintro e w1 ⟨rfl, hw1⟩
    subst hw1
    go_wp2_with fail
    refine HSP.out.mono ?_
    rintro e w2 ⟨⟨A, rfl, hR⟩, hb2⟩
    have HR2 := Lib.hid hR
    have HB2 := Lib.hid hb2
    have HM := Lib.hid (pmay_ hR HSZ.out l.length hcn)
    rw [← HRR.out] at HM
    generalize hln : l.length = n at *
    clear hR hb2
    go_wp2_with fail
    refine HM.out.mono ?_
    rintro e w3 ⟨rfl, hb3⟩
    have HB3 := Lib.hid (bl_then HB2.out hb3)
    have HR3 := Lib.hid (HR2.out.below hb3)
    clear hb3
    cases R with
    | false =>
      go_wp2_with fail
      go_ret2
      exact ⟨rfl, HB3.out⟩
    | true =>
      go_wp2_with fail
      go_ret2
      refine ⟨?_, HB3.out⟩
      exact ⟨A, n, by rw [hln]; rfl, HR3.out, Nat.le_of_eq hln⟩
end Go.Proofs.YtbbnfhpemaahjaaDoor.Up
end
section
set_option maxHeartbeats 2000000
set_option maxRecDepth 100000
namespace Go.Proofs.YtbbnfhpemaahjaaDoor.Up
open Go Go.RowKit
open Ob Ba
theorem drop_at {α} {l : List α} {i : Nat} {x : α} (h : l[i]? = some x) : l.drop i = x :: l.drop (i + 1) := by
  obtain ⟨hi, rfl⟩ := List.getElem?_eq_some_iff.1 h
  exact List.drop_eq_getElem_cons hi
end Go.Proofs.YtbbnfhpemaahjaaDoor.Up
end
section
set_option maxHeartbeats 2000000
set_option maxRecDepth 100000
namespace Go.Proofs.YtbbnfhpemaahjaaDoor.Up
open Go Go.RowKit
open Ob Ba
theorem rsame_ {w : World} {A B : Option Addr} {l m : List ByteArray} (h : Rs w A l) (k : Rs w B m) (c d : Nat) (hl : l.length ≤ 1000000000) (hm : m.length ≤ 1000000000) :
    Calls Tryd.prog 14 #[.slice A l.length c, .slice B m.length d] w fun e w' => e = .returned (.bool (decide (l = m))) ∧ Below w.heap.size w w' := by
  have H := Lib.hid h
  have K := Lib.hid k
  obtain ⟨n, hn⟩ : ∃ n, n = l.length := ⟨_, rfl⟩
  by_cases hne : l.length = m.length
  case neg =>
    rw [decide_eq_false (fun e => hne (by rw [e]))]
    have e1 : ((l.length : Int) == (m.length : Int)) = false := beq_eq_false_iff_ne.2 (by omega)
    generalize l.length = x at *
    generalize m.length = y at *
    clear hne
    go_enter Tryd.func14, Tryd.ntmps14
    go_wp2_with fail
    go_ret
    exact ⟨rfl, Below.refl _ _⟩
  rw [← hne, ← hn]
  rw [← hn] at hl
  have HN := Lib.hid (And.intro hn (hn.trans hne))
  obtain ⟨R, hR⟩ : ∃ R, R = decide (l = m) := ⟨_, rfl⟩
  rw [← hR]
  have HR := Lib.hid hR
  clear h k hn hne hR hm
  go_enter Tryd.func14, Tryd.ntmps14
  go_wp2_with fail
  go_loopw [13] (fun c13 wr => ∃ i : Nat, i ≤ n ∧ c13 = .int .i64 i ∧ Hid (l.take i = m.take i ∧ Below w.heap.size w wr)) (fun c13 _ => n - (intOf c13).toNat)
  case atStart => exact ⟨0, Nat.zero_le _, rfl, rfl, Below.refl _ _⟩
  case round =>
    obtain ⟨i, hi, rfl, HE⟩ := hrel
    by_cases hlt : i < n
    · obtain ⟨x, hx⟩ := some_at (l := l) (i := i) (by rw [← HN.out.1]; exact hlt)
      obtain ⟨y, hy⟩ := some_at (l := m) (i := i) (by rw [← HN.out.2]; exact hlt)
      obtain ⟨a, rfl, -, g1⟩ := (H.out.below HE.out.2) i x hx
      obtain ⟨b, rfl, -, g2⟩ := (K.out.below HE.out.2) i y hy
      by_cases hxy : x = y
      · subst hxy
        have HZ : Hid (l.take (i + 1) = m.take (i + 1)) := by
          show _ = _
          rw [take_next hx, take_next hy, HE.out.1]
        have he : (x.toList == x.toList) = true := by simp
        clear hx hy
        go_wp2_with fail
        go_quiet (fail)
        go_wp2_with fail
        go_roundw
        case rel => exact ⟨i + 1, by omega, by go_num, HZ.out, bl_drewN HE.out.2 _⟩
        case measure => simp [intOf]; omega
      · have hRR : R = false := by
          rw [HR.out]
          refine decide_eq_false fun e => hxy ?_
          rw [e, hy] at hx
          exact (Option.some.inj hx).symm
        subst hRR
        have he : (x.toList == y.toList) = false := beq_eq_false_iff_ne.2 (fun e => hxy (toList_inj e))
        clear hx hy hxy
        go_wp2_with fail
        go_quiet (fail)
        go_wp2_with fail
        go_ret
        exact ⟨rfl, bl_drewN HE.out.2 _⟩
    · obtain rfl : i = n := by omega
      have hRR : R = true := by
        rw [HR.out]
        refine decide_eq_true ?_
        have := HE.out.1
        rw [List.take_of_length_le (Nat.le_of_eq HN.out.1.symm), List.take_of_length_le (Nat.le_of_eq HN.out.2.symm)] at this
        exact this
      subst hRR
      go_wp2_with fail
      go_ret
      exact ⟨rfl, HE.out.2⟩
end Go.Proofs.YtbbnfhpemaahjaaDoor.Up
end
section
set_option maxHeartbeats 2000000
set_option maxRecDepth 100000
namespace Go.Proofs.YtbbnfhpemaahjaaDoor.Up
open Go Go.RowKit
open Ob Ba
theorem bef_step {l m : List ByteArray} {i : Nat} {x : ByteArray} (hx : l[i]? = some x) (hy : m[i]? = some x) : bef (l.drop i) (m.drop i) = bef (l.drop (i + 1)) (m.drop (i + 1)) := by
  rw [drop_at hx, drop_at hy]
  show (if x = x then _ else _) = _
  rw [if_pos rfl]
theorem bef_differ {l m : List ByteArray} {i : Nat} {x y : ByteArray} (hx : l[i]? = some x) (hy : m[i]? = some y) (h : x ≠ y) : bef (l.drop i) (m.drop i) = ahead x y := by
  rw [drop_at hx, drop_at hy]
  show (if x = y then _ else _) = _
  rw [if_neg h]
theorem bef_long {l m : List ByteArray} {i : Nat} {x : ByteArray} (hx : l[i]? = some x) (hi : m.length ≤ i) : bef (l.drop i) (m.drop i) = false := by
  rw [drop_at hx, List.drop_eq_nil_of_le hi]
  rfl
theorem bef_done {l m : List ByteArray} {i : Nat} (hl : l.length = i) (hm : i ≤ m.length) : bef (l.drop i) (m.drop i) = decide (i < m.length) := by
  rw [List.drop_eq_nil_of_le (Nat.le_of_eq hl)]
  by_cases h : i < m.length
  · rw [List.drop_eq_getElem_cons h, decide_eq_true h]
    rfl
  · rw [List.drop_eq_nil_of_le (by omega), decide_eq_false h]
    rfl
theorem isnan_ (s : ByteArray) (w : World) : Calls Tryd.prog 67 #[.string s] w fun e w' => e = .returned (.bool false) ∧ w' = w := by
  have he : (s.toList == s.toList) = true := by simp
  go_enter Tryd.func67, Tryd.ntmps67
  go_wp2_with fail
  go_ret
  exact ⟨rfl, rfl⟩
def CIs (e : Ending) (a : Bool) (x y : ByteArray) : Prop := ∃ r : Int, e = .returned (.int .i64 r) ∧ decide (r < 0) = a ∧ (r = 0 ↔ x = y)
theorem cmpc_ (x y : ByteArray) (w : World) : Calls Tryd.prog 51 #[.string x, .string y] w fun e w' => CIs e (ahead x y) x y ∧ w' = w := by
  have HX := Lib.hid (isnan_ x w)
  have HY := Lib.hid (isnan_ y w)
  cases h1 : ahead x y with
  | true =>
    have h1' : Op.bytesLess x.toList y.toList = true := h1
    have hne : x ≠ y := fun e => by rw [e, ahead_irrefl] at h1; cases h1
    go_enter Tryd.func51, Tryd.ntmps51
    go_wp2_with fail
    refine HX.out.mono ?_
    rintro e w1 ⟨rfl, hw⟩
    subst hw
    go_wp2_with fail
    refine HY.out.mono ?_
    rintro e w1 ⟨rfl, hw⟩
    subst hw
    go_wp2_with fail
    go_ret
    exact ⟨⟨-1, rfl, rfl, by simpa using hne⟩, rfl⟩
  | false =>
    have h1' : Op.bytesLess x.toList y.toList = false := h1
    cases h2 : ahead y x with
    | true =>
      have h2' : Op.bytesLess y.toList x.toList = true := h2
      have hne : x ≠ y := fun e => by rw [e, ahead_irrefl] at h2; cases h2
      have he : (x.toList == y.toList) = false := beq_eq_false_iff_ne.2 (fun e => hne (toList_inj e))
      go_enter Tryd.func51, Tryd.ntmps51
      go_wp2_with fail
      refine HX.out.mono ?_
      rintro e w1 ⟨rfl, hw⟩
      subst hw
      go_wp2_with fail
      refine HY.out.mono ?_
      rintro e w1 ⟨rfl, hw⟩
      subst hw
      go_wp2_with fail
      go_ret
      exact ⟨⟨1, rfl, rfl, by simpa using hne⟩, rfl⟩
    | false =>
      have h2' : Op.bytesLess y.toList x.toList = false := h2
      have heq := Lib.hid (ahead_tri h1 h2)
      have he : (x.toList == y.toList) = true := by rw [heq.out]; simp
      go_enter Tryd.func51, Tryd.ntmps51
      go_wp2_with fail
      refine HX.out.mono ?_
      rintro e w1 ⟨rfl, hw⟩
      subst hw
      go_wp2_with fail
      refine HY.out.mono ?_
      rintro e w1 ⟨rfl, hw⟩
      subst hw
      go_wp2_with fail
      go_ret
      exact ⟨⟨0, rfl, rfl, by simpa using heq.out⟩, rfl⟩
def BIs (e : Ending) (b : Bool) : Prop := ∃ r : Int, e = .returned (.int .i64 r) ∧ decide (r < 0) = b
theorem compare_ {w : World} {A B : Option Addr} {l m : List ByteArray} (h : Rs w A l) (k : Rs w B m) (c d : Nat) (hl : l.length ≤ 1000000000) (hm : m.length ≤ 1000000000) :
    Calls Tryd.prog 33 #[.slice A l.length c, .slice B m.length d] w fun e w' => BIs e (bef l m) ∧ Below w.heap.size w w' := by
  have H := Lib.hid h
  have K := Lib.hid k
  obtain ⟨n, hn⟩ : ∃ n, n = l.length := ⟨_, rfl⟩
  obtain ⟨q, hq⟩ : ∃ q, q = m.length := ⟨_, rfl⟩
  rw [← hn, ← hq]
  rw [← hn] at hl
  rw [← hq] at hm
  have HN := Lib.hid (And.intro hn hq)
  obtain ⟨R, hR⟩ : ∃ R, R = bef l m := ⟨_, rfl⟩
  rw [← hR]
  have HR := Lib.hid hR
  clear h k hn hq hR
  go_enter Tryd.func33, Tryd.ntmps33
  go_wp2_with fail
  go_loopw [11] (fun c11 wr => ∃ i : Nat, i ≤ n ∧ i ≤ q ∧ c11 = .int .i64 i ∧ Hid (R = bef (l.drop i) (m.drop i) ∧ Below w.heap.size w wr)) (fun c11 _ => n - (intOf c11).toNat)
  case atStart => exact ⟨0, Nat.zero_le _, Nat.zero_le _, rfl, HR.out, Below.refl _ _⟩
  case round =>
    obtain ⟨i, hi, hiq, rfl, HE⟩ := hrel
    by_cases hlt : i < n
    · obtain ⟨x, hx⟩ := some_at (l := l) (i := i) (by rw [← HN.out.1]; exact hlt)
      obtain ⟨a, rfl, -, g1⟩ := (H.out.below HE.out.2) i x hx
      by_cases hlq : i < q
      · obtain ⟨y, hy⟩ := some_at (l := m) (i := i) (by rw [← HN.out.2]; exact hlq)
        obtain ⟨b, rfl, -, g2⟩ := (K.out.below HE.out.2) i y hy
        have HC := Lib.hid (cmpc_ x y wr)
        have HS := Lib.hid (fun e : x = y => by subst e; exact HE.out.1.trans (bef_step hx hy))
        have HD := Lib.hid (fun e : x ≠ y => HE.out.1.trans (bef_differ hx hy e))
        generalize ahead x y = ax at *
        clear hx hy
        go_wp2_with fail
        refine HC.out.mono ?_
        rintro e w1 ⟨⟨r, rfl, hra, hr0⟩, hw⟩
        subst hw
        by_cases hz : r = 0
        · have HZ := Lib.hid (HS.out (hr0.1 hz))
          subst hz
          clear hra hr0
          go_wp2_with fail
          go_roundw
          case rel => exact ⟨i + 1, by omega, by omega, by go_num, HZ.out, HE.out.2⟩
          case measure => simp [intOf]; omega
        · have HZ := Lib.hid (And.intro hra (HD.out (fun e => hz (hr0.2 e))))
          clear hra hr0
          go_wp2_with fail
          go_ret
          exact ⟨⟨r, rfl, by rw [HZ.out.1, HZ.out.2]⟩, HE.out.2⟩
      · have HZ := Lib.hid (HE.out.1.trans (bef_long hx (by rw [← HN.out.2]; omega)))
        clear hx
        go_wp2_with fail
        go_ret
        exact ⟨⟨1, rfl, by rw [HZ.out]; rfl⟩, HE.out.2⟩
    · obtain rfl : i = n := by omega
      have hz := HE.out.1.trans (bef_done HN.out.1.symm (by rw [← HN.out.2]; exact hiq))
      rw [← HN.out.2] at hz
      by_cases hlq : i < q
      · have HZ := Lib.hid hz
        clear hz
        go_wp2_with fail
        go_ret
        exact ⟨⟨-1, rfl, by rw [HZ.out, decide_eq_true hlq]; rfl⟩, HE.out.2⟩
      · have HZ := Lib.hid hz
        clear hz
        go_wp2_with fail
        go_ret
        exact ⟨⟨0, rfl, by rw [HZ.out, decide_eq_false hlq]; rfl⟩, HE.out.2⟩
theorem before_ {w : World} {A B : Option Addr} {l m : List ByteArray} (h : Rs w A l) (k : Rs w B m) (c d : Nat) (hl : l.length ≤ 1000000000) (hm : m.length ≤ 1000000000) :
    Calls Tryd.prog 15 #[.slice A l.length c, .slice B m.length d] w fun e w' => e = .returned (.bool (bef l m)) ∧ Below w.heap.size w w' := by
  have HC := Lib.hid (compare_ h k c d hl hm)
  generalize bef l m = R at *
  generalize l.length = x at *
  generalize m.length = y at *
  clear h k
  go_enter Tryd.func15, Tryd.ntmps15
  go_wp2_with fail
  refine HC.out.mono ?_
  rintro e w1 ⟨⟨r, rfl, hr⟩, hb⟩
  have HB := Lib.hid hb
  clear hb
  subst hr
  go_wp2_with fail
  go_ret
  exact ⟨rfl, HB.out⟩
end Go.Proofs.YtbbnfhpemaahjaaDoor.Up
end
section
set_option maxHeartbeats 2000000
set_option maxRecDepth 100000
namespace Go.Proofs.YtbbnfhpemaahjaaDoor.Up
open Go Go.RowKit
open Ob Ba
theorem cell_plain {w : World} {a : Addr} {v : Value} (h : w.cell? a = some v) : a = ⟨a.block, a.off, none⟩ ∧ a.block < w.heap.size := by
  obtain ⟨b, o, s⟩ := a
  simp only [World.cell?] at h
  split at h
  · rename_i c e f hb
    refine ⟨?_, (Array.getElem?_eq_some_iff.1 hb).1⟩
    cases s with
    | none => rfl
    | some _ => simp at h
  · cases h
theorem Rs.plain {w : World} {A : Option Addr} {l : List ByteArray} (h : Rs w A l) (hl : l ≠ []) : ∃ b o, A = some ⟨b, o, none⟩ ∧ b < w.heap.size ∧ ∀ (i : Nat) x, l[i]? = some x → w.cell? ⟨b, o + i, none⟩ = some (.string x) := by
  cases l with
  | nil => exact absurd rfl hl
  | cons y r =>
    obtain ⟨a, rfl, h1, h2⟩ := h 0 y rfl
    obtain ⟨ha, -⟩ := cell_plain h2
    have h3 : a = ⟨a.block, a.off, none⟩ := by
      obtain ⟨b, o, s⟩ := a
      have := ha
      simp [Addr.add] at this
      simpa using this
    refine ⟨a.block, a.off, by rw [← h3], h1, fun i x hi => ?_⟩
    obtain ⟨a', e, -, h4⟩ := h i x hi
    cases e
    rw [h3, Addr.add_lit] at h4
    exact h4
theorem clone_ {w : World} {A : Option Addr} {l : List ByteArray} (h : Rs w A l) (c : Nat) (hl : l.length ≤ 1000000000) :
    Calls Tryd.prog 32 #[.slice A l.length c] w fun e w' => (∃ v, e = .returned v ∧ w'.ownsRow w.heap.size 9 1 v l.length (svs l)) ∧ Below w.heap.size w w' := by
  by_cases h0 : l = []
  · subst h0
    cases A with
    | none =>
      refine (Tryd.slices_Clone_string_nil _ c w).mono ?_
      rintro e w' ⟨rfl, rfl⟩
      exact ⟨⟨_, rfl, own_nil0 _ _ _ _⟩, Below.refl _ _⟩
    | some a =>
      refine (Tryd.slices_Clone_string_zero a c w).mono ?_
      rintro e w' ⟨v, rfl, ho, -, hb⟩
      exact ⟨⟨_, rfl, ho⟩, hb⟩
  · obtain ⟨b, o, rfl, hb, hc⟩ := h.plain h0
    refine (Tryd.slices_Clone_string b o l.length c l w (Nat.le_refl _) (by omega) (fun j hj => by rw [List.getD_eq_getElem?_getD, List.getElem?_eq_getElem hj]; exact hc j _ (List.getElem?_eq_getElem hj))).mono ?_
    rintro e w' ⟨v, rfl, ho, -, hb⟩
    rw [List.take_length] at ho
    exact ⟨⟨_, rfl, ho⟩, hb⟩
theorem Rs.last {w : World} {A : Option Addr} {l : List ByteArray} {n : ByteArray} (h : Rs w A (l ++ [n])) : Rs w A l := by
  have := h.take l.length
  rwa [List.take_left] at this
theorem Rs.heap {w w' : World} {A : Option Addr} {l : List ByteArray} (h : Rs w A l) (hh : w'.heap = w.heap) : Rs w' A l := by
  intro i x hi
  obtain ⟨a, rfl, h1, h2⟩ := h i x hi
  refine ⟨a, rfl, by rw [hh]; exact h1, ?_⟩
  unfold World.cell? at h2 ⊢
  rw [hh]
  exact h2
theorem parent_ {w : World} {A : Option Addr} {l : List ByteArray} {n : ByteArray} (h : Rs w A (l ++ [n])) (c : Nat) (hl : l.length ≤ 1000000000) (hc : l.length + 1 ≤ c) (hc2 : c ≤ 9223372036854775807) :
    Calls Tryd.prog 13 #[.slice A (l.length + 1) c] w fun e w' => (∃ v, e = .returned (.tuple #[v, .string n, .bool true]) ∧ w'.ownsRow w.heap.size 9 1 v l.length (svs l)) ∧ Below w.heap.size w w' := by
  obtain ⟨b, o, rfl, hb, hcc⟩ := h.plain (by simp)
  have hn : w.cell? ⟨b, o + l.length, none⟩ = some (.string n) := hcc l.length n (by simp)
  have HN := Lib.hid hn
  have HC := Lib.hid (fun (W : World) (hW : W.heap = w.heap) (c : Nat) => clone_ (h.last.heap hW) c hl)
  have HB := Lib.hid hb
  generalize hq : l.length = q at *
  obtain ⟨L, hL⟩ : ∃ L, L = q + 1 := ⟨_, rfl⟩
  rw [← hL]
  have e1 : (L : Int) - 1 = (q : Int) := by omega
  have e2 : ((L : Int) == 0) = false := beq_eq_false_iff_ne.2 (by omega)
  have hq5 : q ≤ c := by omega
  have hq6 : q < L := by omega
  have hc0 : ¬ c = 0 := by omega
  have hL0 : ¬ L = 0 := by omega
  have hw : IntKind.i64.wrap (q : Int) = (q : Int) := by simp [IntKind.wrap, IntKind.bits, IntKind.signed]; omega
  have hLb : L ≤ 1000000001 := by omega
  clear h hcc hb hL hc hc2
  go_enter Tryd.func13, Tryd.ntmps13
  go_wp2_with fail
  go_region_with (go_at_call 32; refine (HC.out _ ?hk _).mono ?_; (case hk => rfl); rintro e w5 ⟨⟨v, rfl, ho⟩, hb⟩; (have HO5 := Lib.hid ho); (have HB5 := Lib.hid hb); (have hn5 := (hb.cell (p := ⟨b, o + q, none⟩) HB.out).trans HN.out); clear ho hb)
  all_goals
    go_wp2_with fail
    go_ret3
    exact ⟨⟨v, rfl, HO5.out⟩, bl_then (w1 := w.drew) ⟨rfl, rfl, rfl, Nat.le_refl _, fun _ _ => rfl⟩ HB5.out⟩
def fewB (l : List ByteArray) : Bool := l.all (fun s => decide (s.size ≤ 60)) && decide (l.length ≤ 70)
theorem few_ {w : World} {A : Option Addr} {l : List ByteArray} (h : Rs w A l) (c : Nat) (hl : l.length ≤ 9223372036854775807) (hz : ∀ x ∈ l, x.size ≤ 9223372036854775807) :
    Calls Tryd.prog 12 #[.slice A l.length c] w fun e w' => e = .returned (.bool (fewB l)) ∧ w' = w := by
  have H := Lib.hid h
  have HZ := Lib.hid hz
  obtain ⟨n, hn⟩ : ∃ n, n = l.length := ⟨_, rfl⟩
  rw [← hn]
  rw [← hn] at hl
  have HN := Lib.hid hn
  obtain ⟨R, hR⟩ : ∃ R, R = fewB l := ⟨_, rfl⟩
  rw [← hR]
  have HR := Lib.hid hR
  clear h hz hn hR
  go_enter Tryd.func12, Tryd.ntmps12
  go_wp2_with fail
  go_loop [7] (fun c7 => ∃ i : Nat, i ≤ n ∧ c7 = .int .i64 i ∧ Hid ((l.take i).all (fun s => decide (s.size ≤ 60)) = true)) (fun c7 => n - (intOf c7).toNat)
  case atStart => exact ⟨0, Nat.zero_le _, rfl, rfl⟩
  case round =>
    obtain ⟨i, hi, rfl, HE⟩ := hrel
    by_cases hlt : i < n
    · obtain ⟨x, hx⟩ := some_at (l := l) (i := i) (by rw [← HN.out]; exact hlt)
      obtain ⟨a, rfl, -, g1⟩ := H.out i x hx
      have hzx := HZ.out x (List.mem_of_getElem? hx)
      by_cases h60 : x.size ≤ 60
      · have HZ2 : Hid ((l.take (i + 1)).all (fun s => decide (s.size ≤ 60)) = true) := by
          show _ = _
          rw [take_next hx, List.all_append, HE.out]
          simp [h60]
        have hd : decide ((60 : Int) < (x.size : Int)) = false := decide_eq_false (by omega)
        clear hx
        go_wp2_with fail
        go_round
        case rel => exact ⟨i + 1, by omega, by go_num, HZ2.out⟩
        case measure => simp [intOf]; omega
      · have hRR : R = false := by
          rw [HR.out]
          unfold fewB
          have : l.all (fun s => decide (s.size ≤ 60)) = false := by
            rw [← Bool.not_eq_true, List.all_eq_true]
            intro hh
            have := hh x (List.mem_of_getElem? hx)
            exact h60 (of_decide_eq_true this)
          rw [this]
          rfl
        subst hRR
        have hd : decide ((60 : Int) < (x.size : Int)) = true := decide_eq_true (by omega)
        clear hx
        go_wp2_with fail
        go_ret
        exact ⟨rfl, rfl⟩
    · obtain rfl : i = n := by omega
      have hRR : R = decide (i ≤ 70) := by
        rw [HR.out]
        unfold fewB
        have := HE.out
        rw [List.take_of_length_le (Nat.le_of_eq HN.out.symm)] at this
        rw [this, ← HN.out]
        rfl
      subst hRR
      go_wp2_with fail
      go_ret
      exact ⟨ret_bool (by simp; omega), rfl⟩
end Go.Proofs.YtbbnfhpemaahjaaDoor.Up
end
section
namespace Go.Proofs.YtbbnfhpemaahjaaDoor.Cr
open Go
def P32 : Nat := 3988292384
def bst (r : Nat) : Nat := if r % 2 = 1 then (r / 2) ^^^ P32 else r / 2
def itb : Nat → Nat → Nat
  | 0, r => r
  | n + 1, r => itb n (bst r)
def stp (s x : Nat) : Nat := itb 8 (s ^^^ x)
def sumB (s : Nat) (l : List Nat) : Nat := l.foldl stp s
theorem bst_lt (r : Nat) (h : r < 4294967296) : bst r < 4294967296 := by
  unfold bst
  split
  · exact Nat.xor_lt_two_pow (n := 32) (by omega) (by decide)
  · omega
theorem itb_lt : ∀ (n r : Nat), r < 4294967296 → itb n r < 4294967296
  | 0, _, h => h
  | n + 1, r, h => itb_lt n _ (bst_lt r h)
theorem xor_lt32 {a b : Nat} (h : a < 4294967296) (h' : b < 4294967296) : a ^^^ b < 4294967296 := Nat.xor_lt_two_pow (n := 32) h h'
theorem stp_lt (s x : Nat) (h : s < 4294967296) (h' : x < 256) : stp s x < 4294967296 := itb_lt 8 _ (xor_lt32 h (by omega))
theorem sumB_lt : ∀ (l : List Nat) (s : Nat), s < 4294967296 → (∀ x ∈ l, x < 256) → sumB s l < 4294967296
  | [], _, h, _ => h
  | x :: l, s, h, hl => sumB_lt l _ (stp_lt s x h (hl x (by simp))) (fun y hy => hl y (by simp [hy]))
theorem bits_xor32 (a b : Nat) (ha : a < 4294967296) (hb : b < 4294967296) : bits .xor .u32 a b = ((a ^^^ b : Nat) : Int) := by
  have ha' : a % 4294967296 = a := Nat.mod_eq_of_lt ha
  have hb' : b % 4294967296 = b := Nat.mod_eq_of_lt hb
  have hl := xor_lt32 ha hb
  have hk : IntKind.u32.bits = 32 := rfl
  simp only [bits, hk, BitVec.ofInt_natCast, BitVec.toNat_xor, BitVec.toNat_ofNat]
  rw [show (2 : Nat) ^ 32 = 4294967296 from rfl, ha', hb', IntKind.wrap_u32]
  omega
theorem bits_and1 (a : Nat) (ha : a < 4294967296) : bits .and .u32 a 1 = ((a % 2 : Nat) : Int) := by
  have := bits_mask .u32 32 (by decide) (fun n h0 h1 => by rw [IntKind.wrap_u32]; omega) 1 (by decide) a (by omega) (by omega)
  simpa using this
theorem not32 (x : Nat) (h : x < 4294967296) : 4294967295 ^^^ x = 4294967295 - x := by
  apply Nat.eq_of_testBit_eq
  intro i
  have h1 := Nat.testBit_two_pow_sub_succ (n := 32) (x := x) (by omega) i
  have h2 := Nat.testBit_two_pow_sub_succ (n := 32) (x := 0) (by omega) i
  rw [Nat.testBit_xor]
  rw [show (4294967295 : Nat) - x = 2 ^ 32 - (x + 1) from by omega, h1]
  rw [show (4294967295 : Nat) = 2 ^ 32 - (0 + 1) from by omega, h2]
  by_cases hi : i < 32
  · simp [hi]
  · have : x.testBit i = false := Nat.testBit_lt_two_pow (Nat.lt_of_lt_of_le h (by
      have : 2 ^ 32 ≤ 2 ^ i := Nat.pow_le_pow_right (by decide) (by omega)
      omega))
    simp [hi, this]
end Go.Proofs.YtbbnfhpemaahjaaDoor.Cr
end
section
set_option maxHeartbeats 1000000
set_option maxRecDepth 100000
namespace Go.Proofs.YtbbnfhpemaahjaaDoor.Cc
open Go Go.RowKit
open Ob Ba Cr
theorem step32_ (s x : Nat) (hs : s < 4294967296) (hx : x < 256) (w : World) :
    Calls Tryd.prog 76 #[.int .u32 s, .int .u8 x] w fun e w' => e = .returned (.int .u32 (stp s x)) ∧ w = w' := by
  have hwx : IntKind.u32.wrap (x : Int) = x := by rw [IntKind.wrap_u32]; omega
  have hx0 : Go.bits .xor .u32 (s : Int) (x : Int) = ((s ^^^ x : Nat) : Int) := bits_xor32 s x hs (by omega)
  have hr0 : s ^^^ x < 4294967296 := xor_lt32 hs (by omega)
  go_enter Tryd.func76, Tryd.ntmps76
  go_wp2_with fail
  have HS : Hid (itb 8 (s ^^^ x) = stp s x) := rfl
  clear hwx hx0
  generalize s ^^^ x = r0 at *
  go_loop [9, 0] (fun c9 c0 => ∃ (i r : Nat), i ≤ 8 ∧ c9 = .int .i64 i ∧ c0 = .int .u32 r ∧ r < 4294967296 ∧ Hid (itb (8 - i) r = stp s x)) (fun c9 _ => 8 - (intOf c9).toNat)
  case atStart => exact ⟨0, r0, by omega, rfl, rfl, hr0, HS⟩
  case round =>
    obtain ⟨i, r, hi, rfl, rfl, hr, HR⟩ := hrel
    by_cases hlt : i < 8
    · have hn : itb (8 - (i + 1)) (bst r) = stp s x := by
        have := HR.out
        rw [show 8 - i = (8 - (i + 1)) + 1 from by omega, itb] at this
        exact this
      have HN := Lib.hid hn
      have hl := bst_lt r hr
      clear hn
      by_cases hp : r % 2 = 1
      · have e1 : Go.bits .and .u32 (r : Int) 1 = 1 := by rw [bits_and1 r hr, hp]; rfl
        have e3 : Go.bits .xor .u32 ((r : Int) / 2) 3988292384 = ((bst r : Nat) : Int) := by
          have := bits_xor32 (r / 2) P32 (by omega) (by decide)
          unfold bst
          rw [if_pos hp]
          exact this
        clear hp
        generalize bst r = z at *
        go_wp2
        go_round
        case rel => exact ⟨i + 1, z, by omega, by go_num, rfl, hl, HN⟩
        case measure => simp [intOf]; omega
      · have e1 : Go.bits .and .u32 (r : Int) 1 = 0 := by rw [bits_and1 r hr, show r % 2 = 0 from by omega]; rfl
        have e3 : (r : Int) / 2 = ((bst r : Nat) : Int) := by
          unfold bst
          rw [if_neg hp]
          rfl
        clear hp
        generalize bst r = z at *
        go_wp2
        go_round
        case rel => exact ⟨i + 1, z, by omega, by go_num, rfl, hl, HN⟩
        case measure => simp [intOf]; omega
    · obtain rfl : i = 8 := by omega
      go_wp2
      go_ret
      have := HR.out
      simp only [Nat.sub_self, itb] at this
      exact ⟨by rw [← this]; rfl, rfl⟩
end Go.Proofs.YtbbnfhpemaahjaaDoor.Cc
end
section
namespace Go.Proofs.YtbbnfhpemaahjaaDoor.C6
open Go Cr
def P16 : Nat := 4129
def dbl (r : Nat) : Nat := 2 * r % 65536
def bst6 (r : Nat) : Nat := if r.testBit 15 then dbl r ^^^ P16 else dbl r
def itb6 : Nat → Nat → Nat
  | 0, r => r
  | n + 1, r => itb6 n (bst6 r)
def stp6 (s x : Nat) : Nat := itb6 8 (s ^^^ 256 * x)
def sum6 (s : Nat) (l : List Nat) : Nat := l.foldl stp6 s
theorem xor_lt16 {a b : Nat} (h : a < 65536) (h' : b < 65536) : a ^^^ b < 65536 := Nat.xor_lt_two_pow (n := 16) h h'
theorem dbl_lt (r : Nat) : dbl r < 65536 := Nat.mod_lt _ (by decide)
theorem bst6_lt (r : Nat) : bst6 r < 65536 := by
  unfold bst6
  split
  · exact xor_lt16 (dbl_lt r) (by decide)
  · exact dbl_lt r
theorem itb6_lt : ∀ (n r : Nat), r < 65536 → itb6 n r < 65536
  | 0, _, h => h
  | n + 1, r, _ => itb6_lt n _ (bst6_lt r)
theorem stp6_lt (s x : Nat) (h : s < 65536) (hx : x < 256) : stp6 s x < 65536 := itb6_lt 8 _ (xor_lt16 h (by omega))
theorem bits_xor16 (a b : Nat) (ha : a < 65536) (hb : b < 65536) : bits .xor .u16 a b = ((a ^^^ b : Nat) : Int) := by
  have ha' : a % 65536 = a := Nat.mod_eq_of_lt ha
  have hb' : b % 65536 = b := Nat.mod_eq_of_lt hb
  have hl := xor_lt16 ha hb
  have hk : IntKind.u16.bits = 16 := rfl
  simp only [bits, hk, BitVec.ofInt_natCast, BitVec.toNat_xor, BitVec.toNat_ofNat]
  rw [show (2 : Nat) ^ 16 = 65536 from rfl, ha', hb']
  simp [IntKind.wrap, IntKind.bits, IntKind.signed]
  omega
theorem bits_and16 (a b : Nat) (ha : a < 65536) (hb : b < 65536) : bits .and .u16 a b = ((a &&& b : Nat) : Int) := by
  have ha' : a % 65536 = a := Nat.mod_eq_of_lt ha
  have hb' : b % 65536 = b := Nat.mod_eq_of_lt hb
  have hl : a &&& b < 65536 := Nat.lt_of_le_of_lt Nat.and_le_left ha
  have hk : IntKind.u16.bits = 16 := rfl
  simp only [bits, hk, BitVec.ofInt_natCast, BitVec.toNat_and, BitVec.toNat_ofNat]
  rw [show (2 : Nat) ^ 16 = 65536 from rfl, ha', hb']
  simp [IntKind.wrap, IntKind.bits, IntKind.signed]
  omega
theorem and_top (r : Nat) (h : r < 65536) : (r &&& 32768 = 0) ↔ r.testBit 15 = false := by
  constructor
  · intro e
    have := congrArg (fun z => z.testBit 15) e
    simp only [Nat.testBit_and, Nat.zero_testBit] at this
    have h2 : (32768 : Nat).testBit 15 = true := by decide
    rw [h2, Bool.and_true] at this
    exact this
  · intro e
    apply Nat.eq_of_testBit_eq
    intro i
    rw [Nat.testBit_and, Nat.zero_testBit]
    by_cases hi : i = 15
    · subst hi; simp [e]
    · have : (32768 : Nat).testBit i = false := by
        rw [show (32768 : Nat) = 2 ^ 15 from rfl, Nat.testBit_two_pow]
        simp
        omega
      simp [this]
end Go.Proofs.YtbbnfhpemaahjaaDoor.C6
end
section
namespace Go.Proofs.YtbbnfhpemaahjaaDoor.Oc
open Go Go.RowKit Ba
def ints (l : List Nat) : List Int := l.map Int.ofNat
theorem ints_get {l : List Nat} {i x : Nat} (h : l[i]? = some x) : (ints l)[i]? = some (x : Int) := by simp [ints, h]
def oct (w : Nat) : List Nat := (List.range 8).map fun i => w / 256 ^ i % 256
def octs (l : List Nat) : List Nat := l.flatMap oct
theorem ints_append (a b : List Nat) : ints (a ++ b) = ints a ++ ints b := by simp [ints]
end Go.Proofs.YtbbnfhpemaahjaaDoor.Oc
end
section
set_option maxHeartbeats 1000000
set_option maxRecDepth 100000
namespace Go.Proofs.YtbbnfhpemaahjaaDoor.Cc
open Go Go.RowKit
open Ob Ba Cr C6 Oc
theorem step16_ (s x : Nat) (hs : s < 65536) (hx : x < 256) (w : World) :
    Calls Tryd.prog 77 #[.int .u16 s, .int .u8 x] w fun e w' => e = .returned (.int .u16 (stp6 s x)) ∧ w = w' := by
  have hx0 : Go.bits .xor .u16 (s : Int) ((x : Int) * 256) = ((s ^^^ 256 * x : Nat) : Int) := by
    have := bits_xor16 s (256 * x) hs (by omega)
    rw [← this]
    congr 1
    omega
  have hr0 : s ^^^ 256 * x < 65536 := xor_lt16 hs (by omega)
  have HX := Lib.hid hx0
  go_enter Tryd.func77, Tryd.ntmps77
  go_wp2_with fail
  have HS : Hid (itb6 8 (s ^^^ 256 * x) = stp6 s x) := rfl
  clear hx0
  generalize s ^^^ 256 * x = r0 at *
  go_loop [10, 0] (fun c9 c0 => ∃ (i r : Nat), i ≤ 8 ∧ c9 = .int .i64 i ∧ c0 = .int .u16 r ∧ r < 65536 ∧ Hid (itb6 (8 - i) r = stp6 s x)) (fun c9 _ => 8 - (intOf c9).toNat)
  case atStart => exact ⟨0, r0, by omega, rfl, rfl, hr0, HS⟩
  case round =>
    obtain ⟨i, r, hi, rfl, rfl, hr, HR⟩ := hrel
    by_cases hlt : i < 8
    · have hn : itb6 (8 - (i + 1)) (bst6 r) = stp6 s x := by
        have := HR.out
        rw [show 8 - i = (8 - (i + 1)) + 1 from by omega, itb6] at this
        exact this
      have HN := Lib.hid hn
      have hl := bst6_lt r
      have hd := dbl_lt r
      have e0 : IntKind.u16.wrap ((r : Int) * 2) = ((dbl r : Nat) : Int) := by unfold dbl; simp [IntKind.wrap, IntKind.bits, IntKind.signed]; omega
      clear hn
      cases hp : r.testBit 15 with
      | true =>
        have e1 : (Go.bits .and .u16 (r : Int) 32768 != 0) = true := by
          rw [show (32768 : Int) = ((32768 : Nat) : Int) from rfl, bits_and16 r 32768 hr (by decide), bne_iff_ne]
          intro e
          have := (and_top r hr).1 (by omega)
          rw [hp] at this
          cases this
        have e3 : Go.bits .xor .u16 ((dbl r : Nat) : Int) 4129 = ((bst6 r : Nat) : Int) := by
          have := bits_xor16 (dbl r) P16 hd (by decide)
          unfold bst6
          rw [if_pos hp]
          exact this
        clear hp
        generalize bst6 r = z at *
        generalize dbl r = y at *
        go_wp2
        go_round
        case rel => exact ⟨i + 1, z, by omega, by go_num, rfl, hl, HN⟩
        case measure => simp [intOf]; omega
      | false =>
        have e1 : (Go.bits .and .u16 (r : Int) 32768 != 0) = false := by
          rw [show (32768 : Int) = ((32768 : Nat) : Int) from rfl, bits_and16 r 32768 hr (by decide), (and_top r hr).2 hp]
          rfl
        have e3 : bst6 r = dbl r := by unfold bst6; rw [if_neg (by simp [hp])]
        rw [e3] at HN hl
        clear hp e3
        generalize dbl r = y at *
        go_wp2
        go_round
        case rel => exact ⟨i + 1, y, by omega, by go_num, rfl, hl, HN⟩
        case measure => simp [intOf]; omega
    · obtain rfl : i = 8 := by omega
      go_wp2
      go_ret
      have := HR.out
      simp only [Nat.sub_self, itb6] at this
      exact ⟨by rw [← this]; rfl, rfl⟩
theorem shr_at (x j : Nat) (hj : j < 8) : (x : Int) / 2 ^ (8 * j) % 256 = ((x / 256 ^ j % 256 : Nat) : Int) := by
  have : ∀ i < 8, (2 : Int) ^ (8 * i) = ((256 ^ i : Nat) : Int) := by decide
  rw [this j hj]
  norm_cast
end Go.Proofs.YtbbnfhpemaahjaaDoor.Cc
end
section
set_option maxHeartbeats 2000000
set_option maxRecDepth 100000
namespace Go.Proofs.YtbbnfhpemaahjaaDoor.Cc
open Go Go.RowKit
open Ob Ba Cr C6 Oc
structure Part where
  A : Option Addr
  c : Nat
  l : List Nat
structure Part.Ok (k : World) (p : Part) : Prop where
  rd : Rk .u8 k p.A (ints p.l)
  lt : ∀ x ∈ p.l, x < 256
  len : p.l.length ≤ 9223372036854775807
def PsAt (w : World) (A : Option Addr) (ps : List Part) : Prop := ∀ (i : Nat) p, ps[i]? = some p → p.Ok w ∧ ∃ a, A = some a ∧ w.cell? (a.add i) = some (.slice p.A p.l.length p.c)
def allOf (ps : List Part) : List Nat := ps.flatMap (·.l)
theorem allOf_next {ps : List Part} {i : Nat} {p : Part} (h : ps[i]? = some p) : allOf (ps.take (i + 1)) = allOf (ps.take i) ++ p.l := by rw [take_next h]; simp [allOf]
theorem sumB_app (s : Nat) (a b : List Nat) : sumB s (a ++ b) = sumB (sumB s a) b := List.foldl_append ..
theorem sum6_app (s : Nat) (a b : List Nat) : sum6 s (a ++ b) = sum6 (sum6 s a) b := List.foldl_append ..
theorem all_lt {w : World} {A : Option Addr} {ps : List Part} (h : PsAt w A ps) : ∀ x ∈ allOf ps, x < 256 := by
  intro x hx
  simp only [allOf, List.mem_flatMap] at hx
  obtain ⟨p, hp, hx⟩ := hx
  obtain ⟨i, hi, hpi⟩ := List.getElem_of_mem hp
  exact (h i p (by rw [List.getElem?_eq_getElem hi, hpi])).1.lt x hx
theorem sum32_ {w : World} {A : Option Addr} {ps : List Part} (h : PsAt w A ps) (c : Nat) (hn : ps.length ≤ 9223372036854775807) :
    Calls Tryd.prog 65 #[.slice A ps.length c] w fun e w' => e = .returned (.int .u32 (4294967295 - (sumB 4294967295 (allOf ps) : Nat) : Int)) ∧ w = w' := by
  have H := Lib.hid h
  have HLT := Lib.hid (all_lt h)
  obtain ⟨n, hnn⟩ : ∃ n, n = ps.length := ⟨_, rfl⟩
  rw [← hnn]
  rw [← hnn] at hn
  have HN := Lib.hid hnn
  clear h hnn
  go_enter Tryd.func65, Tryd.ntmps65
  go_wp2_with fail
  go_loop [10, 3] (fun c10 c3 => ∃ (i s : Nat), i ≤ n ∧ c10 = .int .i64 i ∧ c3 = .int .u32 s ∧ s < 4294967296 ∧ Hid (s = sumB 4294967295 (allOf (ps.take i)))) (fun c10 _ => n - (intOf c10).toNat)
  case atStart => exact ⟨0, 4294967295, Nat.zero_le _, rfl, rfl, by decide, rfl⟩
  case round =>
    obtain ⟨i, s, hi, rfl, rfl, hs, HR⟩ := hrel
    by_cases hlt : i < n
    · obtain ⟨p, hp⟩ := some_at (l := ps) (i := i) (by rw [← HN.out]; exact hlt)
      obtain ⟨hok, a, rfl, ha⟩ := H.out i p hp
      obtain ⟨o1, o2, o3⟩ := hok
      have HP := Lib.hid (And.intro hp (And.intro o1 o2))
      obtain ⟨m, hm⟩ : ∃ m, m = p.l.length := ⟨_, rfl⟩
      rw [← hm] at ha o3
      have HM := Lib.hid hm
      clear hp o1 o2 hm
      go_wp2_with fail
      go_loop [16, 3] (fun c16 c3 => ∃ (j s : Nat), j ≤ m ∧ c16 = .int .i64 j ∧ c3 = .int .u32 s ∧ s < 4294967296 ∧ Hid (s = sumB 4294967295 (allOf (ps.take i) ++ p.l.take j))) (fun c16 _ => m - (intOf c16).toNat)
      case atStart => exact ⟨0, s, Nat.zero_le _, rfl, rfl, hs, by show s = _; rw [HR.out]; simp⟩
      case round =>
        obtain ⟨j, t, hj, rfl, rfl, ht, HQ⟩ := hrel
        by_cases hl : j < m
        · obtain ⟨x, hx⟩ := some_at (l := p.l) (i := j) (by rw [← HM.out]; exact hl)
          obtain ⟨b, hb, -, hcx⟩ := HP.out.2.1 j x (ints_get hx)
          rw [hb] at ha
          have hx8 : x < 256 := HP.out.2.2 x (List.mem_of_getElem? hx)
          have HX : Hid (stp t x = sumB 4294967295 (allOf (ps.take i) ++ p.l.take (j + 1))) := by
            show stp t x = _
            rw [take_next hx, ← List.append_assoc, sumB_app, ← HQ.out]
            rfl
          have hlt2 : stp t x < 4294967296 := stp_lt t x ht hx8
          have HB := Lib.hid hb
          clear hx hb
          simp only [HB.out]
          go_wp2_with (go_at_call 76; refine (step32_ t x ht hx8 _).mono ?_; rintro e w5 ⟨rfl, rfl⟩)
          go_round
          case rel => exact ⟨j + 1, _, by omega, by go_num, rfl, hlt2, HX⟩
          case measure => simp [intOf]; omega
        · obtain rfl : j = m := by omega
          have HX : Hid (t = sumB 4294967295 (allOf (ps.take (i + 1)))) := by
            have := HQ.out
            rw [List.take_of_length_le (l := p.l) (by rw [← HM.out]; omega), ← allOf_next HP.out.1] at this
            exact this
          go_wp2_with fail
          go_round
          case rel => exact ⟨i + 1, t, by omega, by go_num, rfl, ht, HX⟩
          case measure => simp [intOf]; omega
    · obtain rfl : i = n := by omega
      have HE : Hid (s = sumB 4294967295 (allOf ps)) := by
        have := HR.out
        rw [List.take_of_length_le (l := ps) (by rw [← HN.out]; omega)] at this
        exact this
      have he : Go.bits .xor .u32 IntKind.u32.max (s : Int) = 4294967295 - (s : Int) := by
        have := bits_xor32 4294967295 s (by decide) hs
        rw [not32 s hs] at this
        refine this.trans ?_
        omega
      go_wp2_with fail
      go_ret
      exact ⟨by rw [HE.out]; rfl, rfl⟩
theorem sum16_ {w : World} {A : Option Addr} {ps : List Part} (h : PsAt w A ps) (c : Nat) (hn : ps.length ≤ 9223372036854775807) :
    Calls Tryd.prog 66 #[.slice A ps.length c] w fun e w' => e = .returned (.int .u16 (sum6 65535 (allOf ps) : Nat)) ∧ w = w' := by
  have H := Lib.hid h
  have HLT := Lib.hid (all_lt h)
  obtain ⟨n, hnn⟩ : ∃ n, n = ps.length := ⟨_, rfl⟩
  rw [← hnn]
  rw [← hnn] at hn
  have HN := Lib.hid hnn
  clear h hnn
  go_enter Tryd.func66, Tryd.ntmps66
  go_wp2_with fail
  go_loop [10, 3] (fun c10 c3 => ∃ (i s : Nat), i ≤ n ∧ c10 = .int .i64 i ∧ c3 = .int .u16 s ∧ s < 65536 ∧ Hid (s = sum6 65535 (allOf (ps.take i)))) (fun c10 _ => n - (intOf c10).toNat)
  case atStart => exact ⟨0, 65535, Nat.zero_le _, rfl, rfl, by decide, rfl⟩
  case round =>
    obtain ⟨i, s, hi, rfl, rfl, hs, HR⟩ := hrel
    by_cases hlt : i < n
    · obtain ⟨p, hp⟩ := some_at (l := ps) (i := i) (by rw [← HN.out]; exact hlt)
      obtain ⟨hok, a, rfl, ha⟩ := H.out i p hp
      obtain ⟨o1, o2, o3⟩ := hok
      have HP := Lib.hid (And.intro hp (And.intro o1 o2))
      obtain ⟨m, hm⟩ : ∃ m, m = p.l.length := ⟨_, rfl⟩
      rw [← hm] at ha o3
      have HM := Lib.hid hm
      clear hp o1 o2 hm
      go_wp2_with fail
      go_loop [16, 3] (fun c16 c3 => ∃ (j s : Nat), j ≤ m ∧ c16 = .int .i64 j ∧ c3 = .int .u16 s ∧ s < 65536 ∧ Hid (s = sum6 65535 (allOf (ps.take i) ++ p.l.take j))) (fun c16 _ => m - (intOf c16).toNat)
      case atStart => exact ⟨0, s, Nat.zero_le _, rfl, rfl, hs, by show s = _; rw [HR.out]; simp⟩
      case round =>
        obtain ⟨j, t, hj, rfl, rfl, ht, HQ⟩ := hrel
        by_cases hl : j < m
        · obtain ⟨x, hx⟩ := some_at (l := p.l) (i := j) (by rw [← HM.out]; exact hl)
          obtain ⟨b, hb, -, hcx⟩ := HP.out.2.1 j x (ints_get hx)
          rw [hb] at ha
          have hx8 : x < 256 := HP.out.2.2 x (List.mem_of_getElem? hx)
          have HX : Hid (stp6 t x = sum6 65535 (allOf (ps.take i) ++ p.l.take (j + 1))) := by
            show stp6 t x = _
            rw [take_next hx, ← List.append_assoc, sum6_app, ← HQ.out]
            rfl
          have hlt2 : stp6 t x < 65536 := stp6_lt t x ht hx8
          have HB := Lib.hid hb
          clear hx hb
          simp only [HB.out]
          go_wp2_with (go_at_call 77; refine (step16_ t x ht hx8 _).mono ?_; rintro e w5 ⟨rfl, rfl⟩)
          go_round
          case rel => exact ⟨j + 1, _, by omega, by go_num, rfl, hlt2, HX⟩
          case measure => simp [intOf]; omega
        · obtain rfl : j = m := by omega
          have HX : Hid (t = sum6 65535 (allOf (ps.take (i + 1)))) := by
            have := HQ.out
            rw [List.take_of_length_le (l := p.l) (by rw [← HM.out]; omega), ← allOf_next HP.out.1] at this
            exact this
          go_wp2_with fail
          go_round
          case rel => exact ⟨i + 1, t, by omega, by go_num, rfl, ht, HX⟩
          case measure => simp [intOf]; omega
    · obtain rfl : i = n := by omega
      have HE : Hid (s = sum6 65535 (allOf ps)) := by
        have := HR.out
        rw [List.take_of_length_le (l := ps) (by rw [← HN.out]; omega)] at this
        exact this
      go_wp2_with fail
      go_ret
      exact ⟨by rw [HE.out]; rfl, rfl⟩
end Go.Proofs.YtbbnfhpemaahjaaDoor.Cc
end
section
set_option maxHeartbeats 2000000
set_option maxRecDepth 100000
namespace Go.Proofs.YtbbnfhpemaahjaaDoor.Pk
open Go Go.RowKit
open Ob Ba Oc
structure FOk (wd v : Nat) : Prop where
  lo : 1 ≤ wd
  hi : wd ≤ 64
  lt : v < 2 ^ wd
end Go.Proofs.YtbbnfhpemaahjaaDoor.Pk
end
section
set_option maxHeartbeats 2000000
set_option maxRecDepth 100000
namespace Go.Proofs.YtbbnfhpemaahjaaDoor.Pk
open Go Go.RowKit
open Ob Ba Oc
theorem own_at {k : IntKind} {W : World} {B T n c : Nat} {A : Option Addr} {l : List Int} (h : W.ownsRow B T 1 (.slice A n c) n (ivs k l)) {i : Nat} {x : Int} (hx : l[i]? = some x) :
    ∃ q, A = some ⟨q, 0, none⟩ ∧ W.cell? ⟨q, i, none⟩ = some (.int k x) ∧ W.frozen? ⟨q, i, none⟩ = false := by
  obtain ⟨h1, ⟨h2, h3⟩ | ⟨g, cap, cur, hv, hg, hb, hn, hm, hs, ht⟩⟩ := h
  · have := (List.getElem?_eq_some_iff.1 hx).1
    rw [ivs_length] at h1
    omega
  · simp only [Value.slice.injEq, true_and] at hv
    obtain ⟨rfl, rfl⟩ := hv
    refine ⟨g, rfl, ?_, free_of hb i⟩
    rw [cell_of hb]
    have := ivs_get (k := k) hx
    rw [← ht, List.getElem?_take] at this
    split at this
    · simpa using this
    · cases this
end Go.Proofs.YtbbnfhpemaahjaaDoor.Pk
end
section
namespace Go.Proofs.YtbbnfhpemaahjaaDoor.Mp
open Go
open Go.ChangeMaps (setBlock)
theorem run_underlying {P : Program} {t : TypeId} {d : TypeDesc} (h : P.underlying t = some d) (w : World) : (underlying t).run P w = .ok d w := by
  unfold underlying
  simp [Sem.run_bind, Sem.run, h, program, Result.andThen]
end Go.Proofs.YtbbnfhpemaahjaaDoor.Mp
end
section
set_option maxHeartbeats 2000000
set_option maxRecDepth 100000
namespace Go.Proofs.YtbbnfhpemaahjaaDoor.Su
open Go Go.RowKit
open Ob Ba Cr Cc Oc Pk
def head7 (a b : Nat) : List Nat := [a, b, 0, 0, 0, 0, 0]
def sum7 (a b : Nat) : Nat := 4294967295 - sumB 4294967295 (octs (head7 a b))
def line (a b : Nat) : List Nat := [a, b, 0, 0, 0, 0, 0, sum7 a b]
def magic : Nat := 3544409100874826051
def word1 (n m s : Nat) : Nat := n + 65536 * m + 4294967296 * s
def enc (n m s : Nat) : List Nat := line magic (word1 n m s)
theorem f16 {v : Nat} (h : v < 65536) : FOk 16 v := ⟨by omega, by omega, h⟩
end Go.Proofs.YtbbnfhpemaahjaaDoor.Su
end
section
set_option maxHeartbeats 1000000
namespace Go.Proofs.YtbbnfhpemaahjaaDoor.Pm
open Go Go.RowKit
open Go.ChangeMaps (setBlock)
open Ob Mp
theorem own_kp {W W' : World} {B T n : Nat} {v : Value} {xs : List Value} (h : W.ownsRow B T 1 v n xs) (hk : ∀ k, B ≤ k → k < W.heap.size → W'.heap[k]? = W.heap[k]?) : W'.ownsRow B T 1 v n xs := by
  obtain ⟨h1, h2 | ⟨g, cap, cur, hv, hg, hb, r⟩⟩ := h
  · exact ⟨h1, .inl h2⟩
  · exact ⟨h1, .inr ⟨g, cap, cur, hv, hg, (hk g hg (lt_of hb)).trans hb, r⟩⟩
theorem add_block (a : Addr) (j : Nat) : (a.add j).block = a.block := by
  unfold Addr.add
  split <;> rfl
theorem own_lo {W : World} {B T n : Nat} {v : Value} {xs : List Value} (h : W.ownsRow B T 1 v n xs) : ∀ k, v.ownBlock = some k → B ≤ k := by
  obtain ⟨_, ⟨rfl, _⟩ | ⟨g, cap, cur, rfl, hg, _⟩⟩ := h
  · intro k hk; simp [Value.ownBlock] at hk
  · intro k hk; simp [Value.ownBlock] at hk; omega
end Go.Proofs.YtbbnfhpemaahjaaDoor.Pm
end
section
set_option maxHeartbeats 2000000
set_option maxRecDepth 100000
namespace Go.Proofs.YtbbnfhpemaahjaaDoor.Li
open Go Go.RowKit
open Ob Ba Oc Pk Cr C6 Cc Su
def nine : List Nat := [49, 50, 51, 52, 53, 54, 55, 56, 57]
end Go.Proofs.YtbbnfhpemaahjaaDoor.Li
end
