/- Parts of the proof, one behind the other: Eq, Od, Ra, Qh, Rb, Sv. -/
import Derived.Test.YtichcdoijieddaaGreatG07
import Derived.Test.YtichcdoijieddaaGreatG02
import Derived.Test.YtichcdoijieddaaGreatG05
import Derived.Deep.QuietTactic
import Derived.BigQuiet
import Derived.Deep.RegionWith
import Derived.Test.YtichcdoijieddaaGreatG04

/- Words compared. -/
section
set_option linter.unusedVariables false
set_option linter.unusedSimpArgs false
set_option maxHeartbeats 1000000
namespace Go.Proofs.YtichcdoijieddaaGreat.Pm
open Go Go.RowKit
open Go.ChangeMaps (setBlock)
open Go.Proofs.YtichcdoijieddaaGreat.Ob Go.Proofs.YtichcdoijieddaaGreat.Mp Go.Proofs.YtichcdoijieddaaGreat.Dv Go.Proofs.YtichcdoijieddaaGreat.Wl

theorem Rd.drewN {w : World} {A : Option Addr} {l : List Int} (h : Rd w A l) (n : Nat) : Rd (w.drewN n) A l := h
theorem bl_dn {w w1 : World} (h : Below w.heap.size w w1) (n : Nat) : Below w.heap.size w (w1.drewN n) := ⟨h.os, h.tape, h.output, h.size, h.block⟩
theorem drewN_two (w : World) (a b : Nat) : (w.drewN a).drewN b = w.drewN (a + b) := by simp [World.drewN, Nat.add_assoc]

theorem eq_step {l m : List Int} {i : Nat} {x y : Int} (hx : l[i]? = some x) (hy : m[i]? = some y) (h : l.take i = m.take i) (e : x = y) : l.take (i + 1) = m.take (i + 1) := by
  obtain ⟨h1, h2⟩ := List.getElem?_eq_some_iff.1 hx
  obtain ⟨h3, h4⟩ := List.getElem?_eq_some_iff.1 hy
  rw [List.take_succ_eq_append_getElem h1, List.take_succ_eq_append_getElem h3, h2, h4, h, e]

set_option maxRecDepth 100000 in
theorem equal_any {w : World} {A B : Option Addr} {l m : List Int} (h : Rd w A l) (k : Rd w B m) (c1 c2 : Nat) (hl : l.length ≤ 9223372036854775807) (hm : m.length ≤ 9223372036854775807) :
    Calls Tryz.prog 68 #[.slice A l.length c1, .slice B m.length c2] w fun e w' => e = .returned (.bool (decide (l = m))) ∧ ∃ n, w' = w.drewN n := by
  have H := Lib.hid h
  have K := Lib.hid k
  clear h k
  by_cases he : l.length = m.length
  · obtain ⟨n, hn⟩ : ∃ n, n = l.length := ⟨_, rfl⟩
    rw [← he, ← hn]
    rw [← hn] at hl
    have HN : Hid (n = l.length ∧ n = m.length) := ⟨hn, by rw [hn, he]⟩
    clear hn he hm
    go_enter Tryz.func68, Tryz.ntmps68
    go_wp2_with fail
    go_loopw [13] (fun c13 wr => ∃ i : Nat, i ≤ n ∧ c13 = .int .i64 i ∧ ∃ q, Hid (wr = w.drewN q ∧ l.take i = m.take i)) (fun c13 _ => n - (intOf c13).toNat)
    case atStart => exact ⟨0, Nat.zero_le _, rfl, 0, rfl, rfl⟩
    case round =>
      obtain ⟨i, hi, rfl, q, HR⟩ := hrel
      by_cases hlt : i < n
      · obtain ⟨x, hx⟩ : ∃ x, l[i]? = some x := ⟨_, List.getElem?_eq_getElem (by rw [← HN.out.1]; exact hlt)⟩
        obtain ⟨y, hy⟩ : ∃ y, m[i]? = some y := ⟨_, List.getElem?_eq_getElem (by rw [← HN.out.2]; exact hlt)⟩
        have hl2 : Rd wr A l := by rw [HR.out.1]; exact H.out.drewN q
        have hm2 : Rd wr B m := by rw [HR.out.1]; exact K.out.drewN q
        obtain ⟨a, rfl, -, ha⟩ := hl2 i x hx
        obtain ⟨b, rfl, -, hb⟩ := hm2 i y hy
        have HX := Lib.hid (And.intro hx hy)
        clear hx hy hl2 hm2
        by_cases hxy : x = y
        · have e1 : (x != y) = false := by simp [hxy]
          have EX := Lib.hid hxy
          clear hxy
          go_wp2
          go_quiet (fail)
          go_wp2
          go_roundw
          case rel => exact ⟨i + 1, by omega, by go_num, q + nq, by show _ ∧ _; rw [HR.out.1]; exact ⟨drewN_two _ _ _, eq_step HX.out.1 HX.out.2 HR.out.2 EX.out⟩⟩
          case measure => simp [intOf]; omega
        · have e1 : (x != y) = true := bne_iff_ne.2 hxy
          have EX := Lib.hid hxy
          clear hxy
          go_wp2
          go_quiet (fail)
          go_wp2
          go_ret
          have hd : decide (l = m) = false := by
            apply decide_eq_false
            rintro rfl
            have := HX.out.1.symm.trans HX.out.2
            simp at this
            exact EX.out this
          rw [hd]
          exact ⟨rfl, _, by rw [HR.out.1]; exact drewN_two _ _ _⟩
      · obtain rfl : i = n := by omega
        go_wp2
        go_ret
        have hd : decide (l = m) = true := by
          apply decide_eq_true
          have h1 := HR.out.2
          rw [List.take_of_length_le (by rw [← HN.out.1]; omega), List.take_of_length_le (by rw [← HN.out.2]; omega)] at h1
          exact h1
        rw [hd]
        exact ⟨rfl, q, HR.out.1⟩
  · have hd : decide (l = m) = false := by
      apply decide_eq_false
      intro e
      exact he (by rw [e])
    rw [hd]
    have e1 : ((l.length : Int) != (m.length : Int)) = true := by rw [bne_iff_ne]; omega
    clear hd he
    generalize l.length = x at *
    generalize m.length = y at *
    go_enter Tryz.func68, Tryz.ntmps68
    go_wp2
    go_ret
    exact ⟨rfl, 0, rfl⟩

end Go.Proofs.YtichcdoijieddaaGreat.Pm
end

/- pm.Of: a device of given words. -/
section
set_option linter.unusedVariables false
set_option linter.unusedSimpArgs false
set_option maxHeartbeats 2000000
set_option maxRecDepth 100000
namespace Go.Proofs.YtichcdoijieddaaGreat.Pm
open Go Go.RowKit
open Go.Proofs.YtichcdoijieddaaGreat.Ob Go.Proofs.YtichcdoijieddaaGreat.Mp Go.Proofs.YtichcdoijieddaaGreat.Dv Go.Proofs.YtichcdoijieddaaGreat.Wl Go.Proofs.YtichcdoijieddaaGreat.Ba

def devOf (l : List Int) : Dev := ⟨0, 0, l, [], none⟩
theorem devOf_wf (l : List Int) (h : l.length ≤ 4194304) : (devOf l).Wf :=
  ⟨h, by simp [devOf], by simp [devOf], by simp [devOf], by simp [devOf], by simp [devOf], by simp [devOf], by simp [devOf], by simp [devOf], by simp [devOf]⟩

theorem of_dev {B : Nat} {W : World} {l : List Int} {A : Option Addr} {c : Nat} (hB : B ≤ W.heap.size) (h : W.ownsRow B 60 1 (.slice A l.length c) l.length (u64s l)) (hl : l.length ≤ 4194304) :
    ∃ g, DevIs ((W.alloc (.map #[] 0)).alloc (.cells #[.int .i64 0, .int .i64 0, .slice A l.length c, .map (some W.heap.size), .bool false, .int .i64 0] 135 (0, 0))) (W.heap.size + 1) (devOf l) g ∧ (∀ k ∈ g.foot (W.heap.size + 1), B ≤ k) := by
  obtain ⟨A', c', qs, hv, hsl, hqs⟩ := Sl.of_own h
  simp only [Value.slice.injEq, true_and] at hv
  obtain ⟨rfl, rfl⟩ := hv
  have hlt : ∀ q ∈ qs, q < W.heap.size := by
    obtain ⟨_, ⟨_, rfl⟩ | ⟨q', o', cs', _, rfl, hb', _⟩⟩ := hsl
    · simp
    · intro q hq
      simp at hq
      subst hq
      exact lt_of hb'
  have hnd : qs.Nodup := by
    obtain ⟨_, ⟨_, rfl⟩ | ⟨q', o', cs', _, rfl, hb', _⟩⟩ := hsl <;> simp
  have b2 := alloc_new (W.alloc (.map #[] 0)) (.cells #[.int .i64 0, .int .i64 0, .slice A l.length c, .map (some W.heap.size), .bool false, .int .i64 0] 135 (0, 0))
  simp only [World.size_alloc] at b2
  refine ⟨⟨A, c, qs, W.heap.size, 0, []⟩, ⟨b2, hsl.keep (fun q hq => ?_), alloc_old (alloc_new W _) _, by simp, rfl, ?_, by simp, by simp, devOf_wf l hl⟩, ?_⟩
  · have := hlt q hq
    rw [Below.heap_alloc _ _ q (by simp; omega), Below.heap_alloc _ _ q this]
  · simp only [Lay.foot, Lay.ents, List.flatMap_nil, List.append_nil, List.nodup_cons, List.mem_cons, not_or]
    refine ⟨⟨by omega, fun hq => ?_⟩, fun hq => ?_, hnd⟩
    · have := hlt _ hq; omega
    · have := hlt _ hq; omega
  · intro k hk
    simp only [Lay.foot, Lay.ents, List.flatMap_nil, List.append_nil, List.mem_cons] at hk
    rcases hk with rfl | rfl | hk
    · omega
    · exact hB
    · exact hqs k hk

theorem of_any {w : World} {a : Addr} {l : List Int} (h : Rd w (some a) l) (c : Nat) (hc : l.length ≤ c) (hl : l.length ≤ 4194304) :
    Calls Tryz.prog 90 #[.slice (some a) l.length c] w fun e w' => ∃ v, e = .returned v ∧ DevNew w w' v (devOf l) := by
  have HCL := Lib.hid (clone_any h c hl (by simp))
  have HL := Lib.hid hl
  obtain ⟨n, hn⟩ : ∃ n, n = l.length := ⟨_, rfl⟩
  rw [← hn]
  rw [← hn] at hc hl HCL
  have HN := Lib.hid hn
  have hmin : min (n : Int) 4194304 = n := by omega
  have hc1 : ¬ ((c : Int) < n) := by omega
  have hmm := @run_makeMap Tryz.prog
  clear h hn
  go_enter Tryz.func90, Tryz.ntmps90
  go_wp2_with fail
  refine HCL.out.mono ?_
  rintro e w2 ⟨v2, rfl, hown, hb⟩
  have HO := Lib.hid hown
  have HB := Lib.hid hb
  obtain ⟨A2, c2, rfl⟩ := own_slice hown
  clear hown hb HCL
  go_wp2_with fail
  go_ret
  have ho := HO.out
  rw [HN.out] at ho
  obtain ⟨g, h1, h2⟩ := of_dev HB.out.size ho HL.out
  rw [← HN.out] at h1
  exact ⟨_, rfl, _, g, rfl, h1, h2, bl_alloc (bl_alloc HB.out _) _⟩

end Go.Proofs.YtichcdoijieddaaGreat.Pm
end

/- The laws' raw images: their geometry. -/
section
set_option linter.unusedVariables false
set_option linter.unusedSimpArgs false
set_option maxHeartbeats 2000000
set_option maxRecDepth 100000
namespace Go.Proofs.YtichcdoijieddaaGreat.Ra
open Go Go.RowKit
open Go.Proofs.YtichcdoijieddaaGreat.Ob Go.Proofs.YtichcdoijieddaaGreat.Ba Go.Proofs.YtichcdoijieddaaGreat.Ko Go.Proofs.YtichcdoijieddaaGreat.Ge Go.Proofs.YtichcdoijieddaaGreat.Oc Go.Proofs.YtichcdoijieddaaGreat.Pk Go.Proofs.YtichcdoijieddaaGreat.Su Go.Proofs.YtichcdoijieddaaGreat.Rf

def gB (r : Nat) : Nat := 1 + r % 20
def gS (r : Nat) : Nat := if r % 2 = 0 then 64 else 128
theorem gS_or (r : Nat) : gS r = 64 ∨ gS r = 128 := by unfold gS; split <;> simp
theorem gB_in (r : Nat) : 1 ≤ gB r ∧ gB r ≤ 20 := by unfold gB; omega
theorem g_ok (a b c : Nat) : geoOk (gB a) (gB b) (gS c) = true := by
  obtain ⟨h1, h2⟩ := gB_in a
  obtain ⟨h3, h4⟩ := gB_in b
  generalize gB a = n at *
  generalize gB b = m at *
  rcases gS_or c with h | h
  all_goals
    rw [h]
    simp only [geoOk, inB, Bool.and_eq_true, decide_eq_true_eq]
    refine ⟨⟨⟨⟨⟨by omega, by omega⟩, by omega⟩, by omega⟩, by decide⟩, ?_⟩
    unfold tot up8
    omega
theorem g_tot (a b c : Nat) : 40 ≤ tot (gB a) (gB b) (gS c) ∧ tot (gB a) (gB b) (gS c) ≤ 1000 := by
  obtain ⟨h1, h2⟩ := gB_in a
  obtain ⟨h3, h4⟩ := gB_in b
  generalize gB a = n at *
  generalize gB b = m at *
  rcases gS_or c with h | h
  all_goals
    rw [h]
    unfold tot up8
    omega

theorem geometry_ (r0 r1 r2 : Nat) (h0 : r0 < 256) (h1 : r1 < 256) (h2 : r2 < 256) (A : Option Addr) (len c : Nat) (w : World) :
    Calls Tryz.prog 35 #[.agg #[.int .u8 r0, .int .u8 r1, .int .u8 r2, .slice A len c]] w fun e w' => e = .returned (.agg #[.int .i64 (gB r0), .int .i64 (gB r1), .int .i64 (gS r2)]) ∧ Below w.heap.size w w' := by
  have hu := Tryz.underlying83
  have hur := Tryz.underlying24
  have q0 : 1 + (r0 : Int) % 20 = (gB r0 : Nat) := by unfold gB; omega
  have q1 : 1 + (r1 : Int) % 20 = (gB r1 : Nat) := by unfold gB; omega
  have Q := Lib.hid (And.intro q0 q1)
  clear q0 q1
  obtain ⟨q, hq⟩ : ∃ q, q = r2 % 2 := ⟨_, rfl⟩
  have hq1 : (r2 : Int) % 2 = (q : Int) := by omega
  have hS : Hid (gS r2 = if q = 0 then 64 else 128) := by rw [hq]; rfl
  rcases (by omega : q = 0 ∨ q = 1) with rfl | rfl
  all_goals
    clear hq
    go_enter Tryz.func35, Tryz.ntmps35
    go_wp2_with fail
    rw [Q.out.1, Q.out.2]
    have hal := alloc_new (w.alloc (.cells #[.int .u8 r0, .int .u8 r1, .int .u8 r2, .slice A len c] 24)) (.cells #[.int .i64 (gB r0 : Nat), .int .i64 (gB r1 : Nat), .int .i64 (gS r2 : Nat)] 83)
    rw [World.size_alloc] at hal
    have hs := hS.out
    simp at hs
    rw [hs] at hal ⊢
    refine bodyPost_ret (res_c rfl _ _ (w.heap.size + 1) 83 _ (0, 0) _ rfl hal hu rfl ?_) rfl ⟨rfl, bl_alloc (bl_alloc (Below.refl _ _) _) _⟩
    kernel_rfl

end Go.Proofs.YtichcdoijieddaaGreat.Ra
end

/- The document's volume written: cantleref15.Put. -/
section
set_option linter.unusedVariables false
set_option linter.unusedSimpArgs false
set_option maxHeartbeats 2000000
set_option maxRecDepth 100000
namespace Go.Proofs.YtichcdoijieddaaGreat.Rf
open Go Go.RowKit
open Go.Proofs.YtichcdoijieddaaGreat.Ob Go.Proofs.YtichcdoijieddaaGreat.Ba Go.Proofs.YtichcdoijieddaaGreat.Oc Go.Proofs.YtichcdoijieddaaGreat.Pk

/-- words written from one on -/
def wput (l : List Int) (a : Nat) : List Int → List Int
  | [] => l
  | x :: r => wput (l.set a x) (a + 1) r
def nline (a : Nat) : Nat → Nat
  | 0 => 0
  | i + 1 => nline a i + (if i = 0 ∨ (a + i) % 8 = 0 then 1 else 0)
theorem wput_snoc (l : List Int) (a : Nat) (xs : List Int) (x : Int) : wput l a (xs ++ [x]) = (wput l a xs).set (a + xs.length) x := by
  induction xs generalizing l a with
  | nil => rfl
  | cons y r ih =>
    show wput (l.set a y) (a + 1) (r ++ [x]) = _
    rw [ih]
    show _ = (wput (l.set a y) (a + 1) r).set _ x
    rw [show a + 1 + r.length = a + (y :: r).length from by simp; omega]
theorem wput_length (l : List Int) (a : Nat) (xs : List Int) : (wput l a xs).length = l.length := by
  induction xs generalizing l a with
  | nil => rfl
  | cons y r ih => show (wput (l.set a y) (a + 1) r).length = _; rw [ih, List.length_set]
theorem nline_le (a : Nat) : ∀ i, nline a i ≤ i
  | 0 => Nat.le_refl _
  | i + 1 => by have := nline_le a i; show nline a i + _ ≤ _; split <;> omega
theorem ivs_set (k : IntKind) (l : List Int) (i : Nat) (x : Int) : ivs k (l.set i x) = (ivs k l).set i (.int k x) := by simp [ivs, List.map_set]

def vint (y : List Int) : List Value := y.map (.int .i64)

theorem own_low {W : World} {B T s n : Nat} {v : Value} {xs : List Value} (h : W.ownsRow B T s v n xs) {q : Nat} (hq : q < B) (o : Nat) (u : Value) : (W.setCell ⟨q, o, none⟩ u).ownsRow B T s v n xs :=
  own_kp h (fun k hk _ => Below.heap_setCell _ _ _ k (by show k ≠ q; omega))
theorem own_low9 {W : World} {B T s n : Nat} {v : Value} {xs : List Value} (h : W.ownsRow B T s v n xs) {q : Nat} (hq : q < B) (u0 u1 u2 u3 u4 u5 u6 u7 u8 : Value) : (((((((((W.setCell ⟨q, 0, none⟩ u0).setCell ⟨q, 1, none⟩ u1).setCell ⟨q, 2, none⟩ u2).setCell ⟨q, 3, none⟩ u3).setCell ⟨q, 4, none⟩ u4).setCell ⟨q, 5, none⟩ u5).setCell ⟨q, 6, none⟩ u6).setCell ⟨q, 7, none⟩ u7).setCell ⟨q, 8, none⟩ u8).ownsRow B T s v n xs :=
  own_low (own_low (own_low (own_low (own_low (own_low (own_low (own_low (own_low h hq _ _) hq _ _) hq _ _) hq _ _) hq _ _) hq _ _) hq _ _) hq _ _) hq _ _

theorem put15_ {w : World} {A B : Option Addr} {l xs : List Int} (h : Rk .u64 w A l) (hx : Rk .u64 w B xs) (y0 y1 y2 y3 y4 y5 y6 y7 : Int) (a c c2 : Nat) (hl : 1 ≤ l.length) (hl9 : l.length ≤ 4194304) (ha : a + xs.length ≤ l.length) :
    Calls Tryz.prog 21 #[.agg #[.int .i64 y0, .int .i64 y1, .int .i64 y2, .int .i64 y3, .int .i64 y4, .int .i64 y5, .int .i64 y6, .int .i64 y7, .slice A l.length c], .int .i64 a, .slice B xs.length c2] w fun e w' =>
      ∃ v, e = .returned (.tuple #[.agg #[.int .i64 y0, .int .i64 y1, .int .i64 y2, .int .i64 y3, .int .i64 y4, .int .i64 y5, .int .i64 y6, .int .i64 y7, v], .int .i64 (nline a xs.length : Nat)]) ∧ w'.ownsRow w.heap.size 60 1 v l.length (ivs .u64 (wput l a xs)) ∧ Below w.heap.size w w' := by
  have hu := Tryz.underlying33
  obtain ⟨x0, hx0⟩ := some_at (l := l) (i := 0) (by omega)
  obtain ⟨p, rfl, -, -⟩ := h 0 x0 hx0
  have H := Lib.hid h
  have HXS := Lib.hid hx
  obtain ⟨n, hn⟩ : ∃ n, n = l.length := ⟨_, rfl⟩
  obtain ⟨m, hm⟩ : ∃ m, m = xs.length := ⟨_, rfl⟩
  rw [← hn, ← hm]
  rw [← hn] at hl hl9 ha
  rw [← hm] at ha
  have HN := Lib.hid (And.intro hn hm)
  obtain ⟨i0, hinf, hz0, hz1, hz2⟩ := info_parts info_u64
  clear h hx hn hm hx0
  obtain ⟨w3, hw3⟩ : ∃ w3, w3 = ((w.alloc (.cells #[.int .i64 y0, .int .i64 y1, .int .i64 y2, .int .i64 y3, .int .i64 y4, .int .i64 y5, .int .i64 y6, .int .i64 y7, .slice (some p) n c] 33)).alloc (.cells #[.int .i64 0, .int .i64 0, .int .i64 0, .int .i64 0, .int .i64 0, .int .i64 0, .int .i64 0, .int .i64 0, .slice none 0 0] 33)).alloc (.cells #[] 60) := ⟨_, rfl⟩
  have HB3 : Hid (Below w.heap.size w w3) := by rw [hw3]; exact bl_alloc (bl_alloc (bl_alloc (Below.refl _ _) _) _) _
  have HQ3 : Hid (w3.heap[w.heap.size]? = some (.cells #[.int .i64 y0, .int .i64 y1, .int .i64 y2, .int .i64 y3, .int .i64 y4, .int .i64 y5, .int .i64 y6, .int .i64 y7, .slice (some p) n c] 33 (0, 0))) := by rw [hw3]; exact alloc_old (alloc_old (alloc_new w _) _) _
  have HZ3 : Hid (w3.heap[w.heap.size + 1]? = some (.cells #[.int .i64 0, .int .i64 0, .int .i64 0, .int .i64 0, .int .i64 0, .int .i64 0, .int .i64 0, .int .i64 0, .slice none 0 0] 33 (0, 0))) := by
    have := alloc_old (alloc_new (w.alloc (.cells #[.int .i64 y0, .int .i64 y1, .int .i64 y2, .int .i64 y3, .int .i64 y4, .int .i64 y5, .int .i64 y6, .int .i64 y7, .slice (some p) n c] 33)) (.cells #[.int .i64 0, .int .i64 0, .int .i64 0, .int .i64 0, .int .i64 0, .int .i64 0, .int .i64 0, .int .i64 0, .slice none 0 0] 33)) (.cells #[] 60)
    rw [World.size_alloc, ← hw3] at this
    exact this
  have HE3 : Hid (w3.ownsRow (w.heap.size + 2) 60 1 (.slice (some ⟨w.heap.size + 1 + 1, 0, none⟩) 0 0) 0 []) := by
    have := alloc_new ((w.alloc (.cells #[.int .i64 y0, .int .i64 y1, .int .i64 y2, .int .i64 y3, .int .i64 y4, .int .i64 y5, .int .i64 y6, .int .i64 y7, .slice (some p) n c] 33)).alloc (.cells #[.int .i64 0, .int .i64 0, .int .i64 0, .int .i64 0, .int .i64 0, .int .i64 0, .int .i64 0, .int .i64 0, .slice none 0 0] 33)) (.cells #[] 60)
    simp only [World.size_alloc] at this
    rw [← hw3] at this
    exact own_nil w3 _ _ _ (by omega) this 1
  have HS3 : Hid (w3.heap.size = w.heap.size + 3) := by rw [hw3]; show _ = _; simp
  have HL3 : Hid (Rk .u64 w3 (some p) l) := H.out.below HB3.out
  have HW3 := Lib.hid hw3
  clear hw3
  go_enter Tryz.func21, Tryz.ntmps21
  go_wp2_with (rw [← HW3.out]; at_builtin; refine wpList_append_own _ rfl (.tmp 12) (.tmp 14) 22 rfl (w.heap.size + 2) 60 i0 (.int .u64 0) 1 8 Tryz.underlying22 hinf hz0 hz1 hz2 rfl (by decide) _ 0 [] rfl HE3.out p n c (ivs .u64 l) rfl (by rw [ivs_length, HN.out.1, Nat.mul_one]) (by intro j u hj; simp only [ivs, List.getElem?_map, Option.map_eq_some_iff] at hj; obtain ⟨z, hz, rfl⟩ := hj; exact HL3.out.at_ hz) (ivs_oneCell _ _) (by unfold maxLen; omega) (by omega) (by rw [HS3.out]; omega) ?_; intro v8 w4 hown hgrow _; (have HO := Lib.hid hown); (have HG : Hid (w3.grownBy w4 (some (w.heap.size + 1 + 1))) := hgrow); clear hown hgrow)
  have hrow : w4.ownsRow (w.heap.size + 2) 60 1 v8 n (ivs .u64 l) := by
    have h9 := HO.out
    rw [Nat.zero_add, List.nil_append] at h9
    exact h9
  obtain ⟨A8, c8, e8⟩ := own_slice hrow
  obtain ⟨x1, hx1⟩ := some_at (l := l) (i := 0) (by rw [← HN.out.1]; omega)
  rw [e8] at hrow
  obtain ⟨g8, e9, -, -⟩ := own_at hrow hx1
  subst e9
  subst e8
  have hg8 : w.heap.size + 2 ≤ g8 := own_lo hrow g8 rfl
  have hne : ∀ k, k < w.heap.size + 2 → w4.heap[k]? = w3.heap[k]? := fun k hk => HG.out.block k (by rw [HS3.out]; omega) (fun e => by simp at e; omega)
  have hI : w4.ownsRow (w.heap.size + 2) 60 1 (.slice (some ⟨g8, 0, none⟩) n c8) n (ivs .u64 (wput l a (xs.take 0))) ∧ w4.heap[w.heap.size]? = some (.cells #[.int .i64 y0, .int .i64 y1, .int .i64 y2, .int .i64 y3, .int .i64 y4, .int .i64 y5, .int .i64 y6, .int .i64 y7, .slice (some p) n c] 33 (0, 0)) ∧ w4.heap[w.heap.size + 1]? = some (.cells #[.int .i64 0, .int .i64 0, .int .i64 0, .int .i64 0, .int .i64 0, .int .i64 0, .int .i64 0, .int .i64 0, .slice none 0 0] 33 (0, 0)) ∧ Below w.heap.size w w4 :=
    ⟨hrow, (hne _ (by omega)).trans HQ3.out, (hne _ (by omega)).trans HZ3.out, bl_grown HB3.out HG.out (fun b hb => by simp at hb; omega)⟩
  have HI := Lib.hid hI
  clear hrow hne hI hx1 HO HG HL3 HE3 HB3 HQ3 HZ3
  go_loopw [9, 18] (fun c9 c18 wr => ∃ i : Nat, i ≤ m ∧ c18 = .int .i64 i ∧ c9 = .int .i64 (nline a i : Nat) ∧ Hid (wr.ownsRow (w.heap.size + 2) 60 1 (.slice (some ⟨g8, 0, none⟩) n c8) n (ivs .u64 (wput l a (xs.take i))) ∧ wr.heap[w.heap.size]? = some (.cells #[.int .i64 y0, .int .i64 y1, .int .i64 y2, .int .i64 y3, .int .i64 y4, .int .i64 y5, .int .i64 y6, .int .i64 y7, .slice (some p) n c] 33 (0, 0)) ∧ wr.heap[w.heap.size + 1]? = some (.cells #[.int .i64 0, .int .i64 0, .int .i64 0, .int .i64 0, .int .i64 0, .int .i64 0, .int .i64 0, .int .i64 0, .slice none 0 0] 33 (0, 0)) ∧ Below w.heap.size w wr)) (fun _ c18 _ => m - (intOf c18).toNat)
  case atStart => exact ⟨0, Nat.zero_le _, rfl, rfl, HI.out⟩
  case round =>
    obtain ⟨i, hi, rfl, rfl, HR⟩ := hrel
    by_cases hlt : i < m
    · obtain ⟨x, hx⟩ := some_at (l := xs) (i := i) (by rw [← HN.out.2]; exact hlt)
      obtain ⟨r, rfl, -, hr⟩ := (HXS.out.below HR.out.2.2.2) i x hx
      obtain ⟨z, hz⟩ := some_at (l := wput l a (xs.take i)) (i := a + i) (by rw [wput_length, ← HN.out.1]; omega)
      obtain ⟨_, e0, hc0, hf0⟩ := own_at HR.out.1 hz
      cases e0
      have hai : ((a : Int) + i).toNat = a + i := by omega
      have HX := Lib.hid hx
      have hnl := nline_le a i
      generalize hnn : nline a i = q at *
      have HQ := Lib.hid hnn
      have HSTEP : Hid (nline a (i + 1) = q + (if i = 0 ∨ (a + i) % 8 = 0 then 1 else 0)) := by show nline a i + _ = _; rw [HQ.out]
      have hfin : ∀ W, W = wr.setCell ⟨g8, a + i, none⟩ (.int .u64 x) → (W.ownsRow (w.heap.size + 2) 60 1 (.slice (some ⟨g8, 0, none⟩) n c8) n (ivs .u64 (wput l a (xs.take (i + 1)))) ∧ W.heap[w.heap.size]? = some (.cells #[.int .i64 y0, .int .i64 y1, .int .i64 y2, .int .i64 y3, .int .i64 y4, .int .i64 y5, .int .i64 y6, .int .i64 y7, .slice (some p) n c] 33 (0, 0)) ∧ W.heap[w.heap.size + 1]? = some (.cells #[.int .i64 0, .int .i64 0, .int .i64 0, .int .i64 0, .int .i64 0, .int .i64 0, .int .i64 0, .int .i64 0, .slice none 0 0] 33 (0, 0)) ∧ Below w.heap.size w W) := by
        rintro W rfl
        refine ⟨?_, set_other HR.out.2.1 (a := ⟨g8, a + i, none⟩) (by show _ ≠ g8; omega) _, set_other HR.out.2.2.1 (a := ⟨g8, a + i, none⟩) (by show _ ≠ g8; omega) _, bl_set HR.out.2.2.2 (by omega) _⟩
        rw [take_next hx, wput_snoc, ivs_set, List.length_take, Nat.min_eq_left (by rw [← HN.out.2]; omega)]
        exact own_set HR.out.1 (by omega) _
      have HFIN := Lib.hid hfin
      clear hx hz hnn hfin HR
      by_cases hi0 : i = 0
      · have HS2 : Hid (nline a (i + 1) = q + 1) := by show _ = _; rw [HSTEP.out, if_pos (.inl hi0)]
        have e0 : ((i : Int) == 0) = true := by rw [beq_iff_eq]; omega
        have HI0 := Lib.hid hi0
        clear HSTEP hi0
        go_wp2_with fail
        go_roundw
        case rel => exact ⟨i + 1, hlt, by go_num, by rw [HS2.out]; go_num, HFIN.out _ rfl⟩
        case measure => simp [intOf]; omega
      · have e0 : ((i : Int) == 0) = false := by rw [beq_eq_false_iff_ne]; omega
        by_cases hm8 : (a + i) % 8 = 0
        · have HS2 : Hid (nline a (i + 1) = q + 1) := by show _ = _; rw [HSTEP.out, if_pos (.inr hm8)]
          have e1 : (((a : Int) + i) % 8 == 0) = true := by rw [beq_iff_eq]; omega
          have HM8 := Lib.hid hm8
          clear hm8 hi0
          clear HSTEP
          go_wp2_with fail
          go_roundw
          case rel => exact ⟨i + 1, hlt, by go_num, by rw [HS2.out]; go_num, HFIN.out _ rfl⟩
          case measure => simp [intOf]; omega
        · have HS2 : Hid (nline a (i + 1) = q) := by show _ = _; rw [HSTEP.out, if_neg (fun h => h.elim hi0 hm8)]; rfl
          have e1 : (((a : Int) + i) % 8 == 0) = false := by rw [beq_eq_false_iff_ne]; omega
          have HM8 := Lib.hid hm8
          clear hm8 hi0
          clear HSTEP
          go_wp2_with fail
          go_roundw
          case rel => exact ⟨i + 1, hlt, by go_num, by rw [HS2.out], HFIN.out _ rfl⟩
          case measure => simp [intOf]; omega
    · obtain rfl : i = m := by omega
      have hfin := HR.out
      rw [List.take_of_length_le (by rw [← HN.out.2]; exact Nat.le_refl _)] at hfin
      have hqb := hfin.2.1
      have b0 := cell_of hqb 0
      have b1 := cell_of hqb 1
      have b2 := cell_of hqb 2
      have b3 := cell_of hqb 3
      have b4 := cell_of hqb 4
      have b5 := cell_of hqb 5
      have b6 := cell_of hqb 6
      have b7 := cell_of hqb 7
      have b8 := cell_of hqb 8
      have fb8 := free_of hqb 8
      have hqz := hfin.2.2.1
      have z0 := cell_of hqz 0
      have z1 := cell_of hqz 1
      have z2 := cell_of hqz 2
      have z3 := cell_of hqz 3
      have z4 := cell_of hqz 4
      have z5 := cell_of hqz 5
      have z6 := cell_of hqz 6
      have z7 := cell_of hqz 7
      have z8 := cell_of hqz 8
      have f0 := free_of hqz 0
      have f1 := free_of hqz 1
      have f2 := free_of hqz 2
      have f3 := free_of hqz 3
      have f4 := free_of hqz 4
      have f5 := free_of hqz 5
      have f6 := free_of hqz 6
      have f7 := free_of hqz 7
      have f8 := free_of hqz 8
      have HF := Lib.hid hfin
      clear hfin hqb hqz HR HI
      go_wp2_with fail
      have hw5 := set_other (a := ⟨w.heap.size, 8, none⟩) HF.out.2.2.1 (by show _ ≠ w.heap.size; omega) (.slice (some ⟨g8, 0, none⟩) n c8)
      have hp9 := put9 hw5 (.int .i64 y0) (.int .i64 y1) (.int .i64 y2) (.int .i64 y3) (.int .i64 y4) (.int .i64 y5) (.int .i64 y6) (.int .i64 y7) (.slice (some ⟨g8, 0, none⟩) n c8)
      have hb9 := bl_put9 (bl_set (o := 8) HF.out.2.2.2 (Nat.le_refl _) (.slice (some ⟨g8, 0, none⟩) n c8)) (Nat.le_succ _) (.int .i64 y0) (.int .i64 y1) (.int .i64 y2) (.int .i64 y3) (.int .i64 y4) (.int .i64 y5) (.int .i64 y6) (.int .i64 y7) (.slice (some ⟨g8, 0, none⟩) n c8)
      have ho1 := own_low HF.out.1 (q := w.heap.size) (by omega) 8 (.slice (some ⟨g8, 0, none⟩) n c8)
      have ho := own_base (own_low9 ho1 (q := w.heap.size + 1) (by omega) (.int .i64 y0) (.int .i64 y1) (.int .i64 y2) (.int .i64 y3) (.int .i64 y4) (.int .i64 y5) (.int .i64 y6) (.int .i64 y7) (.slice (some ⟨g8, 0, none⟩) n c8)) (show w.heap.size ≤ w.heap.size + 2 by omega)
      refine bodyPost_ret (res_ct (u := 7) rfl _ _ (w.heap.size + 1) 33 _ (0, 0) _ rfl hp9 hu rfl ?_) rfl ⟨_, rfl, ho, hb9⟩
      kernel_rfl

end Go.Proofs.YtichcdoijieddaaGreat.Rf
end

/- The laws' raw images: a device of their words. -/
section
set_option linter.unusedVariables false
set_option linter.unusedSimpArgs false
set_option maxHeartbeats 2000000
set_option maxRecDepth 100000
namespace Go.Proofs.YtichcdoijieddaaGreat.Ra
open Go Go.RowKit
open Go.Proofs.YtichcdoijieddaaGreat.Ob Go.Proofs.YtichcdoijieddaaGreat.Ba Go.Proofs.YtichcdoijieddaaGreat.Ko Go.Proofs.YtichcdoijieddaaGreat.Ge Go.Proofs.YtichcdoijieddaaGreat.Oc Go.Proofs.YtichcdoijieddaaGreat.Pk Go.Proofs.YtichcdoijieddaaGreat.Su Go.Proofs.YtichcdoijieddaaGreat.Rf Go.Proofs.YtichcdoijieddaaGreat.Dv

def rwd (l : List Int) (i : Nat) : Int := if l.length = 0 then 0 else l.getD (i % l.length) 0
def dws (h l : List Int) (T : Nat) : List Int := h ++ (List.range (T - 8)).map fun j => rwd l (8 + j)
theorem dws_length (h l : List Int) (T : Nat) (hh : h.length = 8) (hT : 8 ≤ T) : (dws h l T).length = T := by simp [dws, hh]; omega
theorem dws_at (h l : List Int) (T i : Nat) (hh : h.length = 8) (hi : 8 ≤ i) (hT : i < T) : (dws h l T)[i]? = some (rwd l i) := by
  unfold dws
  rw [List.getElem?_append_right (by omega), hh, List.getElem?_map, List.getElem?_range (by omega)]
  show some (rwd l (8 + (i - 8))) = _
  rw [show 8 + (i - 8) = i from by omega]
theorem dws_take8 (h l : List Int) (T : Nat) (hh : h.length = 8) : (dws h l T).take 8 = h := by
  unfold dws
  rw [← hh, List.take_left]

theorem res_tc {P : Program} {fn : Func} {p u : Tmp} {ty : TypeId} (h : fn.results = #[.tmp u, .cell p ty]) (tmps : Array Value) (w : World) (g : Nat) (t : TypeId) (cs : Array Value) (fr : Nat × Nat) (d : TypeDesc)
    (hp : tmps.getD p undef = .pointer (some ⟨g, 0, none⟩)) (hg : w.heap[g]? = some (.cells cs t fr))
    (hu : P.underlying ty = some d) (hd : (match d with | .struct _ | .array _ _ => true | _ => false) = true) (hi : (P.info? ty).map (·.size) = some cs.size) :
    (results fn tmps).run P w = .ok (.tuple #[tmps.getD u undef, .agg cs]) w := by
  have hp' : tmps[p]?.getD undef = .pointer (some ⟨g, 0, none⟩) := by simpa using hp
  simp [results, h, hp', asAddr, run_loadVar_row w g t ty cs fr d hg hu hd hi]
theorem put9_other {W : World} {q k : Nat} (h : k ≠ q) {u0 u1 u2 u3 u4 u5 u6 u7 u8 : Value} :
    (((((((((W.setCell ⟨q, 0, none⟩ u0).setCell ⟨q, 1, none⟩ u1).setCell ⟨q, 2, none⟩ u2).setCell ⟨q, 3, none⟩ u3).setCell ⟨q, 4, none⟩ u4).setCell ⟨q, 5, none⟩ u5).setCell ⟨q, 6, none⟩ u6).setCell ⟨q, 7, none⟩ u7).setCell ⟨q, 8, none⟩ u8).heap[k]? = W.heap[k]? := by
  have h1 : ∀ (V : World) (o : Nat) (u : Value), (V.setCell ⟨q, o, none⟩ u).heap[k]? = V.heap[k]? := fun V o u => Below.heap_setCell _ _ _ k h
  rw [h1, h1, h1, h1, h1, h1, h1, h1, h1]

theorem device_ (r0 r1 r2 : Nat) (h0 : r0 < 256) (h1 : r1 < 256) (h2 : r2 < 256) {A : Option Addr} {l : List Int} (c : Nat) {w : World} (h : Rk .u64 w A l) (hl9 : l.length ≤ 9223372036854775807) (n m s T : Nat) (hn : n = gB r0) (hm : m = gB r1) (hs : s = gS r2) (hT : (T : Int) = tot n m s) :
    Calls Tryz.prog 45 #[.agg #[.int .u8 r0, .int .u8 r1, .int .u8 r2, .slice A l.length c]] w fun e w' => ∃ b g v, e = .returned (.tuple #[.pointer (some ⟨b, 0, none⟩), .agg (vcells n m s v)]) ∧
      DevIs w' b (Pm.devOf (dws (ints (enc n m s)) l T)) g ∧ (∀ k ∈ g.foot b, w.heap.size ≤ k) ∧ w'.ownsRow w.heap.size 60 1 v T (ivs .u64 (dws (ints (enc n m s)) l T)) ∧ (∀ k, v.ownBlock = some k → k ∉ g.foot b) ∧ Below w.heap.size w w' := by
  have hu := Tryz.underlying33
  have hok : geoOk n m s = true := by rw [hn, hm, hs]; exact g_ok r0 r1 r2
  have htt := g_tot r0 r1 r2
  rw [← hn, ← hm, ← hs, ← hT] at htt
  have hgeo := geometry_ r0 r1 r2 h0 h1 h2 A l.length c
  rw [← hn, ← hm, ← hs] at hgeo
  have hn9 : n < 65536 := by have := gB_in r0; omega
  have hm9 : m < 65536 := by have := gB_in r1; omega
  have hs9 : s < 65536 := by have := gS_or r2; omega
  have HGEO := Lib.hid hgeo
  have HENC := Lib.hid (Su.rencode_yes n m s hok hn9 hm9 hs9)
  have HOF := Lib.hid (of15_ n m s hok none 0 0)
  have HV : Hid (∀ v, vcells n m s v = #[.int .i64 n, .int .i64 m, .int .i64 s, .int .i64 16, .int .i64 (16 + 8 * m), .int .i64 (bmAt n m), .int .i64 (bkAt n m), .int .i64 (tot n m s), v]) := fun _ => rfl
  rw [← hT] at HV
  have HH8 : Hid ((ints (enc n m s)).length = 8) := rfl
  have H := Lib.hid h
  have hv0 : vcells n m s (.slice none 0 0) = _ := HV.out _
  rw [hv0] at HOF
  generalize vcells n m s = vc at *
  generalize ints (enc n m s) = hd at *
  obtain ⟨len, hlen⟩ : ∃ len, len = l.length := ⟨_, rfl⟩
  rw [← hlen] at HGEO
  rw [← hlen]
  have HLEN := Lib.hid hlen
  have hlen9 : len ≤ 9223372036854775807 := by omega
  obtain ⟨i0, hinf, hz0, hz1, hz2⟩ := info_parts info_u64
  clear h hl9 hn hm hs hT hok hgeo hlen h0 h1 h2 hv0
  generalize bmAt n m = p3 at *
  generalize bkAt n m = p4 at *
  generalize (16 + 8 * m : Int) = p2 at *
  go_enter Tryz.func45, Tryz.ntmps45
  go_wp2_with fail
  refine (HGEO.out _).mono ?_
  rintro e w1 ⟨rfl, hb1⟩
  have hqr := blk_bl (alloc_old (alloc_new w (.cells #[.int .u8 r0, .int .u8 r1, .int .u8 r2, .slice A len c] 24)) (.cells #[.int .i64 0, .int .i64 0, .int .i64 0, .int .i64 0, .int .i64 0, .int .i64 0, .int .i64 0, .int .i64 0, .slice none 0 0] 33)) hb1
  have hqz := alloc_new (w.alloc (.cells #[.int .u8 r0, .int .u8 r1, .int .u8 r2, .slice A len c] 24)) (.cells #[.int .i64 0, .int .i64 0, .int .i64 0, .int .i64 0, .int .i64 0, .int .i64 0, .int .i64 0, .int .i64 0, .slice none 0 0] 33)
  rw [World.size_alloc] at hqz
  have HR1 := Lib.hid hqr
  have HZ1 := Lib.hid (blk_bl hqz hb1)
  have HB1 := Lib.hid (bl_then (bl_alloc (bl_alloc (Below.refl _ _) _) _) hb1)
  have hs1 := hb1.size
  simp only [World.size_alloc] at hs1
  have HS1 : Hid (w.heap.size + 2 ≤ w1.heap.size) := hs1
  clear hqr hqz hb1 hs1
  go_wp2_with fail
  refine (HENC.out _).mono ?_
  rintro e w2 ⟨v5, rfl, hown5, hb2⟩
  have hq4 := blk_bl (alloc_new w1 (.cells #[.int .i64 n, .int .i64 m, .int .i64 s] 83)) hb2
  have c40 := cell_of hq4 0
  have c41 := cell_of hq4 1
  have c42 := cell_of hq4 2
  have HB2 := Lib.hid (bl_then (bl_alloc (Below.refl _ _) _) hb2)
  have HBG := Lib.hid hb2
  obtain ⟨A5, c5, rfl⟩ := own_slice hown5
  have HO5 := Lib.hid hown5
  clear hown5 hb2 hq4
  go_wp2_with fail
  refine (HOF.out _).mono ?_
  rintro e w3 ⟨rfl, hb3⟩
  have HB3 := Lib.hid hb3
  clear hb3
  have hrk5 := (own_rk HO5.out).1
  obtain ⟨y5, hy5⟩ := some_at (l := hd) (i := 0) (by rw [HH8.out]; decide)
  obtain ⟨q5, rfl, -, -⟩ := own_at HO5.out hy5
  clear hy5
  obtain ⟨wA, hwA⟩ : ∃ wA, wA = w3.alloc (.cells #[.int .i64 n, .int .i64 m, .int .i64 s, .int .i64 16, .int .i64 p2, .int .i64 p3, .int .i64 p4, .int .i64 T, .slice none 0 0] 33) := ⟨_, rfl⟩
  obtain ⟨wB, hwB⟩ : ∃ wB, wB = (w3.alloc (.cells #[.int .i64 n, .int .i64 m, .int .i64 s, .int .i64 16, .int .i64 p2, .int .i64 p3, .int .i64 p4, .int .i64 T, .slice none 0 0] 33)).alloc (.cells #[] 60) := ⟨_, rfl⟩
  have HSA : Hid (wA.heap.size = w3.heap.size + 1) := by rw [hwA]; show _ = _; simp
  have HSB : Hid (wB.heap.size = w3.heap.size + 2) := by rw [hwB]; show _ = _; simp
  have HQ7 : Hid (wA.heap[w3.heap.size]? = some (.cells #[.int .i64 n, .int .i64 m, .int .i64 s, .int .i64 16, .int .i64 p2, .int .i64 p3, .int .i64 p4, .int .i64 T, .slice none 0 0] 33 (0, 0))) := by rw [hwA]; exact alloc_new _ _
  have HAB : Hid (Below wA.heap.size wA wB) := by rw [hwB, ← hwA]; exact bl_alloc (Below.refl _ _) _
  have HE : Hid (wB.ownsRow wA.heap.size 60 1 (.slice (some ⟨w3.heap.size + 1, 0, none⟩) 0 0) 0 []) := by
    have := alloc_new wA (.cells #[] 60)
    rw [HSA.out] at this
    rw [hwB, ← hwA]
    exact own_nil _ _ _ _ (by rw [HSA.out]; exact Nat.le_refl _) this 1
  have HWB := Lib.hid hwB
  have h1A : Below w1.heap.size w1 wA := by rw [hwA]; exact bl_alloc (bl_then HB2.out HB3.out) _
  have HWA1 := Lib.hid (bl_then HB1.out h1A)
  have HR : Hid (wA.heap[w.heap.size]? = some (.cells #[.int .u8 r0, .int .u8 r1, .int .u8 r2, .slice A len c] 24 (0, 0))) := blk_bl HR1.out h1A
  have HZ : Hid (wA.heap[w.heap.size + 1]? = some (.cells #[.int .i64 0, .int .i64 0, .int .i64 0, .int .i64 0, .int .i64 0, .int .i64 0, .int .i64 0, .int .i64 0, .slice none 0 0] 33 (0, 0))) := blk_bl HZ1.out h1A
  have HL5 : Hid (Rk .u64 wB (some ⟨q5, 0, none⟩) hd) := (hrk5.below (by
    have : Below w2.heap.size w2 wA := by rw [hwA]; exact bl_alloc HB3.out _
    exact bl_then this HAB.out))
  have HA := Lib.hid (H.out.below HWA1.out)
  have HS3 : Hid (w.heap.size + 3 ≤ wA.heap.size) := by
    have h5 := HB2.out.size
    have h6 := HB3.out.size
    have h7 := HS1.out
    have h8 := HSA.out
    show _ ≤ _
    have h9 : w1.heap.size + 1 ≤ w2.heap.size := by
      have := lt_of (blk_bl (W' := w2) (alloc_new w1 (.cells #[.int .i64 n, .int .i64 m, .int .i64 s] 83)) HBG.out)
      omega
    omega
  clear hwA hwB h1A hrk5 HO5 HB1 HB2 HB3 HR1 HZ1 HGEO HENC HOF c40 c41 c42
  go_wp2_with (rw [← HWB.out]; at_builtin; refine wpList_append_own _ rfl (.tmp 30) (.tmp 31) 22 rfl wA.heap.size 60 i0 (.int .u64 0) 1 8 Tryz.underlying22 hinf hz0 hz1 hz2 rfl (by decide) _ 0 [] rfl HE.out ⟨q5, 0, none⟩ 8 c5 (ivs .u64 hd) rfl (by rw [ivs_length, HH8.out]) (by intro j u hj; simp only [ivs, List.getElem?_map, Option.map_eq_some_iff] at hj; obtain ⟨z, hz, rfl⟩ := hj; exact HL5.out.at_ hz) (ivs_oneCell _ _) (by unfold maxLen; omega) (by omega) (by rw [HSA.out, HSB.out]; omega) ?_; intro v8 w4 hown hgrow _; (have HO : Hid (w4.ownsRow wA.heap.size 60 1 v8 8 (ivs .u64 hd)) := hown); (have HG : Hid (wB.grownBy w4 (some (w3.heap.size + 1))) := hgrow); clear hown hgrow)
  have hI : w4.ownsRow wA.heap.size 60 1 v8 8 (ivs .u64 ((dws hd l T).take 8)) ∧ Below wA.heap.size wA w4 := by
    refine ⟨by rw [dws_take8 hd l T HH8.out]; exact HO.out, bl_grown HAB.out HG.out (fun b hb => by simp at hb; rw [← hb, HSA.out]; exact Nat.le_refl _)⟩
  have HI := Lib.hid hI
  have HL2 : Hid (∀ i, 8 ≤ i → i < T → (dws hd l T)[i]? = some (rwd l i)) := fun i hi hT => dws_at hd l T i HH8.out hi hT
  have HLT : Hid ((dws hd l T).length = T) := dws_length hd l T HH8.out (by omega)
  generalize hLL : dws hd l T = L at *
  have HLL := Lib.hid hLL
  clear hLL
  have hT9 : T ≤ 1000 := by omega
  have hT8 : 8 ≤ T := by omega
  clear hI HO HG HE HL5 HAB HSB HWB htt
  go_loopw [8, 9] (fun c8 c9 wr => ∃ i : Nat, 8 ≤ i ∧ i ≤ T ∧ c9 = .int .i64 i ∧ Hid (wr.ownsRow wA.heap.size 60 1 c8 i (ivs .u64 (L.take i)) ∧ Below wA.heap.size wA wr)) (fun _ c9 _ => T - (intOf c9).toNat)
  case atStart => exact ⟨8, Nat.le_refl _, hT8, rfl, HI.out⟩
  case round =>
    obtain ⟨i, hi8, hiT, rfl, HJ⟩ := hrel
    have HBW := Lib.hid HJ.out.2
    have hq7 := blk_bl HQ7.out HBW.out
    have c7 := cell_of hq7 7
    have hqr := blk_bl HR.out HBW.out
    have r3 := cell_of hqr 3
    obtain ⟨A8, c8, e8⟩ := own_slice HJ.out.1
    subst e8
    by_cases hlt : i < T
    · have HX := Lib.hid (HL2.out i hi8 hlt)
      by_cases hl0 : len = 0
      · have HRW : Hid (rwd l i = 0) := by show (if l.length = 0 then _ else _) = _; rw [if_pos (by rw [← HLEN.out]; exact hl0)]
        have e0 : ¬ ((len : Int) > 0) := by omega
        have HOW := Lib.hid (fun o => own_kp (W' := wr.alloc o) HJ.out.1 (fun k _ hk => Below.heap_alloc _ _ k hk))
        go_wp2_with (at_builtin; refine wpList_append_own _ rfl (.tmp 55) (.tmp 57) 22 rfl wA.heap.size 60 i0 (.int .u64 0) 1 8 Tryz.underlying22 hinf hz0 hz1 hz2 rfl (by decide) _ i _ rfl (HOW.out _) ⟨wr.heap.size, 0, none⟩ 1 1 [.int .u64 0] rfl rfl (one_at _ _ _) (by intro u hu; simp at hu; subst hu; rfl) (by unfold maxLen; omega) (by omega) (by have h1 := HBW.out.size; simp; omega) ?_; intro v' w7 hown' hgrow _; (have HO7 := Lib.hid hown'); (have HG7 := Lib.hid hgrow); clear hown' hgrow)
        go_roundw
        case rel => exact ⟨i + 1, by omega, hlt, by go_num, by rw [take_next HX.out, HRW.out, ivs_append]; exact HO7.out, bl_grown (bl_alloc HBW.out _) HG7.out (own_lo HJ.out.1)⟩
        case measure => simp [intOf]; omega
      · have hk9 : i % len < len := Nat.mod_lt _ (by omega)
        obtain ⟨x, hx⟩ := some_at (l := l) (i := i % len) (by rw [← HLEN.out]; exact hk9)
        have HRW : Hid (rwd l i = x) := by show (if l.length = 0 then _ else _) = _; rw [if_neg (by rw [← HLEN.out]; exact hl0), ← HLEN.out, List.getD_eq_getElem?_getD, hx]; rfl
        obtain ⟨p, rfl, hp0, hp⟩ := (HA.out.below HBW.out) _ x hx
        have e0 : (len : Int) > 0 := by omega
        obtain ⟨k, hk⟩ : ∃ k, k = i % len := ⟨_, rfl⟩
        have em : (i : Int) % len = (k : Int) := by omega
        have et : (i : Int).tmod len = (k : Int) := by rw [Int.tmod_eq_emod_of_nonneg (by omega)]; exact em
        rw [← hk] at hp hk9
        clear hk hx
        go_wp2_with fail
        go_quiet (fail)
        have hown : (wr.drewN nq).ownsRow wA.heap.size 60 1 (.slice A8 i c8) i (ivs .u64 (L.take i)) := own_kp HJ.out.1 (fun _ _ _ => rfl)
        have hbq := bl_drewN HBW.out nq
        generalize wr.drewN nq = wq at *
        have HBQ := Lib.hid hbq
        have HOQ := Lib.hid hown
        have HOW := Lib.hid (fun o => own_kp (W' := wq.alloc o) hown (fun k _ hk => Below.heap_alloc _ _ k hk))
        clear hown hbq hp hqr hq7
        go_wp2_with (at_builtin; refine wpList_append_own _ rfl (.tmp 55) (.tmp 57) 22 rfl wA.heap.size 60 i0 (.int .u64 0) 1 8 Tryz.underlying22 hinf hz0 hz1 hz2 rfl (by decide) _ i _ rfl (HOW.out _) ⟨wq.heap.size, 0, none⟩ 1 1 [.int .u64 x] rfl rfl (one_at _ _ _) (by intro u hu; simp at hu; subst hu; rfl) (by unfold maxLen; omega) (by omega) (by have h1 := HBQ.out.size; simp; omega) ?_; intro v' w7 hown' hgrow _; (have HO7 := Lib.hid hown'); (have HG7 := Lib.hid hgrow); clear hown' hgrow)
        go_roundw
        case rel => exact ⟨i + 1, by omega, hlt, by go_num, by rw [take_next HX.out, HRW.out, ivs_append]; exact HO7.out, bl_grown (bl_alloc HBQ.out _) HG7.out (own_lo HOQ.out)⟩
        case measure => simp [intOf]; omega
    · obtain rfl : i = T := by omega
      have hown := HJ.out.1
      rw [List.take_of_length_le (by rw [HLT.out]; exact Nat.le_refl _)] at hown
      obtain ⟨y8, hy8⟩ := some_at (l := L) (i := 0) (by rw [HLT.out]; omega)
      obtain ⟨q8, rfl, -, -⟩ := own_at hown hy8
      have hq8 : wA.heap.size ≤ q8 := own_lo hown q8 rfl
      have hsz := HBW.out.size
      have f78 := free_of hq7 8
      have c78 := cell_of hq7 8
      have hW1 := set_same hq7 8 (.slice (some ⟨q8, 0, none⟩) i c8)
      have hown2 := own_low hown (q := w3.heap.size) (by rw [HSA.out]; omega) 8 (.slice (some ⟨q8, 0, none⟩) i c8)
      have hzz := set_other (a := ⟨w3.heap.size, 8, none⟩) (blk_bl HZ.out HBW.out) (by show _ ≠ w3.heap.size; have := HSA.out; have := HS3.out; omega) (.slice (some ⟨q8, 0, none⟩) i c8)
      have hbz : Below w.heap.size w (wr.setCell ⟨w3.heap.size, 8, none⟩ (.slice (some ⟨q8, 0, none⟩) i c8)) := bl_set (bl_then HWA1.out HBW.out) (by have := HSA.out; have := HS3.out; omega) _
      have hrk := (own_rk hown2).1
      have HPO : Hid (∀ W, Rk .u64 W (some ⟨q8, 0, none⟩) L → Calls Tryz.prog 90 #[.slice (some ⟨q8, 0, none⟩) i c8] W fun e w' => ∃ v, e = .returned v ∧ Pm.DevNew W w' v (Pm.devOf L)) := by
        intro W hW
        have h9 := Pm.of_any (a := ⟨q8, 0, none⟩) hW c8 (by rw [HLT.out]; exact (own_rk hown).2.2) (by rw [HLT.out]; omega)
        rw [HLT.out] at h9
        exact h9
      have HALL := Lib.hid (And.intro hW1 (And.intro hown2 (And.intro hzz (And.intro hbz hrk))))
      clear hown hy8 hq7 hqr hW1 hown2 hzz hbz hrk hlt HJ
      go_wp2_with fail
      generalize wr.setCell ⟨w3.heap.size, 8, none⟩ (.slice (some ⟨q8, 0, none⟩) i c8) = wX at *
      have hx7 : wX.heap[w3.heap.size]? = some (.cells #[.int .i64 n, .int .i64 m, .int .i64 s, .int .i64 16, .int .i64 p2, .int .i64 p3, .int .i64 p4, .int .i64 i, .slice (some ⟨q8, 0, none⟩) i c8] 33 (0, 0)) := HALL.out.1
      have hxz := HALL.out.2.2.1
      have HX7 := Lib.hid hx7
      have HXZ := Lib.hid hxz
      clear c7 c78 f78 r3
      have m0 := cell_of hx7 0
      have m1 := cell_of hx7 1
      have m2 := cell_of hx7 2
      have m3 := cell_of hx7 3
      have m4 := cell_of hx7 4
      have m5 := cell_of hx7 5
      have m6 := cell_of hx7 6
      have m7 := cell_of hx7 7
      have m8 := cell_of hx7 8
      have z0 := cell_of hxz 0
      have z1 := cell_of hxz 1
      have z2 := cell_of hxz 2
      have z3 := cell_of hxz 3
      have z4 := cell_of hxz 4
      have z5 := cell_of hxz 5
      have z6 := cell_of hxz 6
      have z7 := cell_of hxz 7
      have z8 := cell_of hxz 8
      have f0 := free_of hxz 0
      have f1 := free_of hxz 1
      have f2 := free_of hxz 2
      have f3 := free_of hxz 3
      have f4 := free_of hxz 4
      have f5 := free_of hxz 5
      have f6 := free_of hxz 6
      have f7 := free_of hxz 7
      have f8 := free_of hxz 8
      clear hx7 hxz
      go_region_with (go_at_call 90; refine (HPO.out _ ?hX).mono ?_; (case hX => exact HALL.out.2.2.2.2); rintro e w5 ⟨_, rfl, bd, gd, rfl, hd5, hf5, hb5⟩; (have hx5 := blk_bl (W := wX.drew) HX7.out hb5); (have hz5 := blk_bl (W := wX.drew) HXZ.out hb5); (have mm0 := cell_of hx5 0); (have mm1 := cell_of hx5 1); (have mm2 := cell_of hx5 2); (have mm3 := cell_of hx5 3); (have mm4 := cell_of hx5 4); (have mm5 := cell_of hx5 5); (have mm6 := cell_of hx5 6); (have mm7 := cell_of hx5 7); (have mm8 := cell_of hx5 8); (have zz0 := cell_of hz5 0); (have zz1 := cell_of hz5 1); (have zz2 := cell_of hz5 2); (have zz3 := cell_of hz5 3); (have zz4 := cell_of hz5 4); (have zz5 := cell_of hz5 5); (have zz6 := cell_of hz5 6); (have zz7 := cell_of hz5 7); (have zz8 := cell_of hz5 8); (have ff0 := free_of hz5 0); (have ff1 := free_of hz5 1); (have ff2 := free_of hz5 2); (have ff3 := free_of hz5 3); (have ff4 := free_of hz5 4); (have ff5 := free_of hz5 5); (have ff6 := free_of hz5 6); (have ff7 := free_of hz5 7); (have ff8 := free_of hz5 8); (have HZ5 := Lib.hid hz5); (have HN5 := Lib.hid (And.intro hd5 (And.intro hf5 hb5))); clear hd5 hf5 hb5 hx5 hz5)
      all_goals
        go_wp2
        have hp9 := put9 HZ5.out (.int .i64 n) (.int .i64 m) (.int .i64 s) (.int .i64 16) (.int .i64 p2) (.int .i64 p3) (.int .i64 p4) (.int .i64 i) (.slice (some ⟨q8, 0, none⟩) i c8)
        have hs3 := HS3.out
        have hszx := HALL.out.2.1
        obtain ⟨xx, hxx⟩ := some_at (l := L) (i := 0) (by rw [HLT.out]; omega)
        have hqlt : q8 < wX.heap.size := by
          obtain ⟨a9, e9, h9, -⟩ := HALL.out.2.2.2.2 0 xx hxx
          cases e9
          exact h9
        have hwx : wA.heap.size ≤ wX.heap.size := Nat.le_trans hq8 (Nat.le_of_lt hqlt)
        have ho5 : w5.ownsRow wA.heap.size 60 1 (.slice (some ⟨q8, 0, none⟩) i c8) i (ivs .u64 L) := own_bl (W := wX) HALL.out.2.1 ⟨HN5.out.2.2.os, HN5.out.2.2.tape, HN5.out.2.2.output, HN5.out.2.2.size, HN5.out.2.2.block⟩
        have ho9 := own_low9 ho5 (q := w.heap.size + 1) (by omega) (.int .i64 n) (.int .i64 m) (.int .i64 s) (.int .i64 16) (.int .i64 p2) (.int .i64 p3) (.int .i64 p4) (.int .i64 i) (.slice (some ⟨q8, 0, none⟩) i c8)
        have hbx5 : Below w.heap.size w w5 := bl_then (bl_drew HALL.out.2.2.2.1) HN5.out.2.2
        have hb9 := bl_put9 hbx5 (Nat.le_succ _) (.int .i64 n) (.int .i64 m) (.int .i64 s) (.int .i64 16) (.int .i64 p2) (.int .i64 p3) (.int .i64 p4) (.int .i64 i) (.slice (some ⟨q8, 0, none⟩) i c8)
        rw [HLL.out]
        refine bodyPost_ret (res_tc (u := 2) rfl _ _ (w.heap.size + 1) 33 _ (0, 0) _ rfl hp9 hu rfl ?_) rfl ⟨bd, gd, .slice (some ⟨q8, 0, none⟩) i c8, by rw [HV.out]; rfl, ?_, ?_, own_base ho9 (by omega), ?_, hb9⟩
        · kernel_rfl
        · refine HN5.out.1.keep fun k hk => put9_other ?_
          have h9 := HN5.out.2.1 k hk
          have h8 : wX.heap.size ≤ k := h9
          omega
        · intro k hk
          have h9 : wX.heap.size ≤ k := HN5.out.2.1 k hk
          omega
        · intro k hk hm
          simp only [Value.ownBlock, Option.some.injEq] at hk
          have h9 : wX.heap.size ≤ k := HN5.out.2.1 k hm
          omega

end Go.Proofs.YtichcdoijieddaaGreat.Ra
end

/- super.Encode. -/
section
set_option linter.unusedVariables false
set_option linter.unusedSimpArgs false
set_option maxHeartbeats 2000000
set_option maxRecDepth 100000
namespace Go.Proofs.YtichcdoijieddaaGreat.Su
open Go Go.RowKit
open Go.Proofs.YtichcdoijieddaaGreat.Ob Go.Proofs.YtichcdoijieddaaGreat.Ba Go.Proofs.YtichcdoijieddaaGreat.Ko Go.Proofs.YtichcdoijieddaaGreat.Ge Go.Proofs.YtichcdoijieddaaGreat.Cr Go.Proofs.YtichcdoijieddaaGreat.Cc Go.Proofs.YtichcdoijieddaaGreat.Oc Go.Proofs.YtichcdoijieddaaGreat.Pk

theorem encode_no (n m s : Int) (h : geoOk n m s = false) (w : World) :
    Calls Tryz.prog 91 #[.agg #[.int .i64 n, .int .i64 m, .int .i64 s]] w fun e w' => e = .returned (.tuple #[.slice none 0 0, .int .i64 1]) ∧ Below w.heap.size w w' := by
  have hu := Tryz.underlying83
  have hm := may_ n m s
  rw [h] at hm
  have HM := Lib.hid hm
  clear h hm
  go_enter Tryz.func91, Tryz.ntmps91
  go_wp2_with (go_at_call 106; refine (HM.out _).mono ?_; rintro e w1 ⟨rfl, hb⟩; (have HB := Lib.hid hb); clear hb)
  go_ret2
  exact ⟨rfl, bl_then (bl_alloc (Below.refl _ _) _) HB.out⟩

theorem encode_yes (n m s : Nat) (h : geoOk n m s = true) (hn : n < 65536) (hm : m < 65536) (hs : s < 65536) (w : World) :
    Calls Tryz.prog 91 #[.agg #[.int .i64 n, .int .i64 m, .int .i64 s]] w fun e w' => ∃ v, e = .returned (.tuple #[v, .int .i64 0]) ∧ w'.ownsRow w.heap.size 60 1 v 8 (ivs .u64 (ints (enc n m s))) ∧ Below w.heap.size w w' := by
  have hu := Tryz.underlying83
  have hmay := may_ n m s
  rw [h] at hmay
  have HM := Lib.hid hmay
  have q1 : IntKind.u64.wrap (n : Int) = n := wu64 _ (by omega) (by omega)
  have q2 : IntKind.u64.wrap (m : Int) = m := wu64 _ (by omega) (by omega)
  have q3 : IntKind.u64.wrap (s : Int) = s := wu64 _ (by omega) (by omega)
  have HF := Lib.hid (And.intro (f16 hn) (And.intro (f16 hm) (f16 hs)))
  have hw1 : word1 n m s < 18446744073709551616 := by unfold word1; omega
  have hpv : pv [(16, n), (16, m), (16, s)] = word1 n m s := by simp [pv, word1]; omega
  have HPV := Lib.hid hpv
  have kc := fun (w : World) (C : Array Value) (n c : Nat) => Lib.run_convert_bytes_const (P := Tryz.prog) w 95 5 C n c Tryz.underlying95 Tryz.underlying5
  clear h hmay hpv
  go_enter Tryz.func91, Tryz.ntmps91
  go_wp2_with (go_at_call 106; refine (HM.out _).mono ?_; rintro e w1 ⟨rfl, hb⟩; (obtain ⟨hc, hf⟩ := bcell hb); (have HB := Lib.hid hb); clear hb hf)
  have hfs : FsAt (w1.alloc (.cells #[.int .i64 16, .int .u64 n, .int .i64 16, .int .u64 m, .int .i64 16, .int .u64 s] 163)) (some ⟨w1.heap.size, 0, none⟩) [(16, n), (16, m), (16, s)] := by
    refine fields_at (T := 163) (fr := (0, 0)) (alloc_new _ _) ?_
    intro p hp
    simp only [List.mem_cons, List.not_mem_nil, or_false] at hp
    rcases hp with rfl | rfl | rfl
    · exact HF.out.1
    · exact HF.out.2.1
    · exact HF.out.2.2
  have hpk := pack_ hfs 3 (by simp [wid]) (by simp)
  rw [HPV.out] at hpk
  have HPK := Lib.hid hpk
  clear hfs hpk hc
  generalize hzw : word1 n m s = z at *
  have HZW := Lib.hid hzw
  clear hzw
  go_wp2_with fail
  refine HPK.out.mono ?_
  rintro e w2 ⟨rfl, hb⟩
  have HB2 := Lib.hid hb
  have hz2 := hb.size
  simp only [World.size_alloc] at hz2
  clear hb
  have kc2 := kc (w2.alloc (.cells (Array.replicate 8 (.int .u64 0)) 60 (0, 0))) #[.int .u8 67, .int .u8 65, .int .u8 78, .int .u8 84, .int .u8 76, .int .u8 69, .int .u8 48, .int .u8 49] 8 8
  rw [World.size_alloc] at kc2
  clear kc
  go_wp2_with (at_make; refine Go.Proofs.YtichcdoijieddaaGreat.Wl.wpl_make rfl _ 22 60 rfl (.int .u64 0) 8 Tryz.underlying22 info_u64 rfl 8 .i64 _ rfl rfl (by decide) (by decide) ?_)
  clear kc2
  have hblk := alloc_new (w2.alloc (.cells (Array.replicate 8 (.int .u64 0)) 60 (0, 0))) (.cells #[.int .u8 67, .int .u8 65, .int .u8 78, .int .u8 84, .int .u8 76, .int .u8 69, .int .u8 48, .int .u8 49] 5 (8, 9))
  rw [World.size_alloc] at hblk
  have hrk : Rk .u8 ((w2.alloc (.cells (Array.replicate 8 (.int .u64 0)) 60 (0, 0))).alloc (.cells #[.int .u8 67, .int .u8 65, .int .u8 78, .int .u8 84, .int .u8 76, .int .u8 69, .int .u8 48, .int .u8 49] 5 (8, 9))) (some ⟨w2.heap.size + 1, 0, none⟩) (ints [67, 65, 78, 84, 76, 69, 48, 49]) := by
    refine blk_rk hblk fun i x hx => ?_
    match i with
    | 0 => simpa [ints] using hx
    | 1 => simpa [ints] using hx
    | 2 => simpa [ints] using hx
    | 3 => simpa [ints] using hx
    | 4 => simpa [ints] using hx
    | 5 => simpa [ints] using hx
    | 6 => simpa [ints] using hx
    | 7 => simpa [ints] using hx
    | i + 8 => simp [ints] at hx
  refine (words_ hrk (by decide) 8 (by decide)).mono ?_
  rintro e w3 ⟨v3, rfl, hown, hb3⟩
  rw [magic_wds, show [magic].length = 1 from rfl] at hown
  obtain ⟨y, hy⟩ : ∃ y, y = magic := ⟨_, rfl⟩
  rw [← hy] at hown
  have hy9 : y < 18446744073709551616 := by rw [hy]; decide
  have HY := Lib.hid hy
  clear hy
  obtain ⟨A3, c3, rfl⟩ := own_slice hown
  obtain ⟨g3, rfl, hcell3, _⟩ := own_at (i := 0) (x := (y : Nat)) hown rfl
  have hz4 := hb3.size
  simp only [World.size_alloc] at hz4
  have hL3 : w3.heap[w2.heap.size]? = some (.cells (Array.replicate 8 (.int .u64 0)) 60 (0, 0)) := by
    rw [hb3.block _ (by simp; omega)]
    exact alloc_old (alloc_new _ _) _
  have l0 := cell_of hL3 0
  have l1 := cell_of hL3 1
  have f0 := free_of hL3 0
  have f1 := free_of hL3 1
  simp only [Array.getElem?_replicate] at l0 l1
  have hL4 := set_same (set_same hL3 0 (.int .u64 y)) 1 (.int .u64 z)
  have hu4 : Upd [w2.heap.size] w3 ((w3.setCell ⟨w2.heap.size, 0, none⟩ (.int .u64 y)).setCell ⟨w2.heap.size, 1, none⟩ (.int .u64 z)) := ((Upd.refl _ _).setCell (by simp) _).setCell (by simp) _
  have hr4 := fill_line hL4
  have HB3 := Lib.hid hb3
  have HL4 := Lib.hid hL4
  have HU4 := Lib.hid hu4
  have hr5 := words32_ hr4 (head7_lt (a := y) (b := z) hy9 hw1) 8 (by simp [head7])
  rw [show (head7 y z).length = 7 from rfl] at hr5
  have HR4 := Lib.hid hr5
  clear hown hb3 hL3 hL4 hu4 hr4 hr5 hz4 hblk hrk
  go_wp2_with fail
  generalize (w3.setCell ⟨w2.heap.size, 0, none⟩ (.int .u64 y)).setCell ⟨w2.heap.size, 1, none⟩ (.int .u64 z) = w4 at *
  refine HR4.out.mono ?_
  rw [sum7_int]
  rintro e w5 ⟨rfl, hb5⟩
  have hL5 := (hb5.block _ (lt_of HL4.out)).trans HL4.out
  have l7 : w5.cell? ⟨w2.heap.size, 7, none⟩ = some (.int .u64 0) := cell_of hL5 7
  have f7 := free_of hL5 7
  have hs7 := sum7_lt y z
  have HL5 := Lib.hid hL5
  have HB5 := Lib.hid hb5
  clear hL5 hb5 l0 l1 f0 f1
  go_wp2_with fail
  go_ret2
  have hfin := set_same HL5.out 7 (.int .u64 (sum7 y z : Nat))
  refine ⟨_, rfl, ?_, ?_⟩
  · have he : enc n m s = line y z := by unfold enc; rw [HZW.out, HY.out]
    rw [he]
    exact own_new (q := w2.heap.size) hfin (by have h1 := HB.out.size; simp at h1; omega) rfl (by unfold maxLen; omega)
  · have u1 : Below w.heap.size w w2 := bl_then (bl_alloc (bl_then (bl_alloc (Below.refl _ _) _) HB.out) _) HB2.out
    have u2 : Upd [] w w3 := (((Upd.of_below u1).alloc _).alloc _).trans (Upd.of_below (F := []) HB3.out) (by simp)
    have u3 := u2.trans HU4.out (by intro k hk; simp at hk; subst hk; right; exact u1.size)
    have u4 := u3.trans (Upd.of_below (F := []) HB5.out) (by simp)
    exact (u4.setCell (a := ⟨w2.heap.size, 7, none⟩) (.inr u1.size) _).below (by simp)

end Go.Proofs.YtichcdoijieddaaGreat.Su
end
