/- Parts of the proof, one behind the other: Hl, Eh, En, Eo, Ep, Er, Et. -/
import Derived.Test.YtgnagbbdnlmgeaaGreatL18
import Derived.Test.YtgnagbbdnlmgeaaGreatL15
import Derived.Test.YtgnagbbdnlmgeaaGreatL13
import Derived.Test.YtgnagbbdnlmgeaaGreatL16
import Derived.Test.YtgnagbbdnlmgeaaGreatL12
import Derived.Deep.RegionHeld3
set_option linter.unusedVariables false
set_option linter.unusedSimpArgs false
set_option linter.unusedSectionVars false
section
set_option maxHeartbeats 4000000
set_option maxRecDepth 100000
namespace Go.Proofs.YtgnagbbdnlmgeaaGreat.Tr
open Go Go.RowKit
open Ob Ba Ko Ge Oc Pk Su Rf Dv Vo Ra Jh Ho
theorem two_rr {w : World} {q T : Nat} {a b c d : Int} {fr : Nat × Nat} (h : w.heap[q]? = some (.cells #[.int .i64 a, .int .i64 b, .int .i64 c, .int .i64 d] T fr)) : Rr.RR w (some ⟨q, 0, none⟩) [(a, b), (c, d)] := by
  intro i p hi
  have hlt := lt_of h
  match i with
  | 0 => simp at hi; subst hi; exact ⟨q, 0, rfl, hlt, cell_of h 0, cell_of h 1⟩
  | 1 => simp at hi; subst hi; exact ⟨q, 0, rfl, hlt, cell_of h 2, cell_of h 3⟩
  | i + 2 => simp at hi
theorem three_rk {w : World} {q T : Nat} {a b c : Int} {fr : Nat × Nat} (h : w.heap[q]? = some (.cells #[.int .i64 a, .int .i64 b, .int .i64 c] T fr)) : Rk .i64 w (some ⟨q, 0, none⟩) [a, b, c] := by
  intro i x hi
  have hlt := lt_of h
  match i with
  | 0 => simp at hi; subst hi; exact ⟨⟨q, 0, none⟩, rfl, hlt, cell_of h 0⟩
  | 1 => simp at hi; subst hi; exact ⟨⟨q, 0, none⟩, rfl, hlt, cell_of h 1⟩
  | 2 => simp at hi; subst hi; exact ⟨⟨q, 0, none⟩, rfl, hlt, cell_of h 2⟩
  | i + 3 => simp at hi
theorem lives16 (w : World) : Calls Tryz.prog 32 #[] w fun e w' => e = .returned (.bool true) ∧ Below w.heap.size w w' := by
  have hu := Tryz.underlying30
  have hu2 := Tryz.underlying82
  obtain ⟨n, m, s, T, p3, p4, p5, ws, hi⟩ := im_ 9 1 0 [] (by simp)
  have hn : n = 10 := hi.n_is
  subst hn
  have HO : Hid (∀ {W : World}, _) := fun {W} => open16N (by decide) (by decide) (by decide) hi (A := none) 0 (by decide) (w := W) (Rk.nil _ _ _)
  have HI := Lib.hid hi
  clear hi
  go_enter Tryz.func32, Tryz.ntmps32
  go_wp2_with fail
  refine HO.out.mono ?_
  rintro e w2 ⟨v, b, g, a8, c8, rfl, hop⟩
  unfold volA
  have HV2 := Lib.hid (hop.vol.below (bl_alloc (Below.refl _ _) (.cells #[.int .i64 (10 : Nat), .int .i64 m, .int .i64 s, .int .i64 16, .int .i64 (16 + 8 * (m : Int)), .int .i64 p3, .int .i64 p4, .int .i64 p5, .slice (some a8) T c8] 30)))
  have HB2 : Hid (Below w.heap.size w (w2.alloc (.cells #[.int .i64 (10 : Nat), .int .i64 m, .int .i64 s, .int .i64 16, .int .i64 (16 + 8 * (m : Int)), .int .i64 p3, .int .i64 p4, .int .i64 p5, .slice (some a8) T c8] 30))) := bl_alloc hop.below _
  have HFT : Hid (∀ k ∈ g.foot b, w.heap.size ≤ k ∧ k < w2.heap.size) := fun k hk => ⟨hop.foot k hk, hop.vol.dev.lt k hk⟩
  clear hop
  go_wp2_with fail
  refine (Rr.lives11 _).mono ?_
  rintro e w3 ⟨rfl, hb3⟩
  have HV3 := Lib.hid (HV2.out.below hb3)
  have HB3 := Lib.hid (bl_then HB2.out hb3)
  have HZ3 : Hid (w2.heap.size < w3.heap.size) := by show _ < _; have := hb3.size; rw [World.size_alloc] at this; omega
  clear hb3
  go_wp2_with fail
  refine (Li.lives15 _).mono ?_
  rintro e w4 ⟨rfl, hb4⟩
  have HV4 := Lib.hid (HV3.out.below hb4)
  have HB4 := Lib.hid (bl_then HB3.out hb4)
  have HZ4 : Hid (w2.heap.size < w4.heap.size) := Nat.lt_of_lt_of_le HZ3.out hb4.size
  clear hb4
  have HWR : Hid (Calls Tryz.prog 36 #[.pointer (some ⟨v, 0, none⟩), .slice (some ⟨w4.heap.size, 0, none⟩) 2 2, .slice (some ⟨w4.heap.size + 1, 0, none⟩) 2 2] ((w4.alloc (.cells #[.int .i64 2, .int .i64 0] 3)).alloc (.cells #[.int .i64 5, .int .i64 2, .int .i64 1, .int .i64 1] 93)) fun e w' => e = .returned (.int .i64 0) ∧ Below w.heap.size w w' ∧ ∃ d' g' ws', VolIs w' v b 10 m s d' g' ∧ Pm.wordsOf d' = ints ws' ∧ (∀ x ∈ ws', x < 18446744073709551616) ∧ 16 + 8 * m + 10 ≤ ws'.length ∧ chainF 10 (slF ws' 10 m) 10 2 = some [(2, (5, 2, 0)), (0, (1, 1, -1))]) := by
    have hbb := bl_alloc (bl_alloc (Below.refl w4.heap.size w4) (.cells #[.int .i64 2, .int .i64 0] 3)) (.cells #[.int .i64 5, .int .i64 2, .int .i64 1, .int .i64 1] 93)
    have hfit : 16 + 8 * m + 10 ≤ ws.length := by rw [HI.out.len]; exact HI.out.fit
    have hr : rightB 10 [2, 0] [(5, 2), (1, 1)] = true := by decide
    have h9 := write_yes (HV4.out.below hbb) (by decide) (Vs.words_devOf _) hfit rfl (show (0 : Nat) ≤ 900000000 by decide) (Li.two_rk (alloc_old (alloc_new w4 _) _)) 2 (two_rr (Je.two_new w4 _ _)) 2 hr
      (fun a ha hm => by cases ha; have h8 := (HFT.out _ hm).2; have := HZ4.out; simp only at h8; omega) (fun a ha hm => by cases ha; have h8 := (HFT.out _ hm).2; have := HZ4.out; simp only at h8; omega)
    refine (show Calls _ _ #[_, .slice _ 2 2, .slice _ 2 2] _ _ from h9).mono ?_
    rintro e w' ⟨rfl, d', g', hw⟩
    have hgz : GoodS 10 (List.zip [2, 0] [((5 : Int), (2 : Int)), (1, 1)]) := (rightB_out hr).2.1
    refine ⟨rfl, (bl_alloc (bl_alloc HB4.out _) _).trans (hw.upd.belowB (bl_alloc (bl_alloc HB4.out _) _).size (fun k hk => (HFT.out k hk).1)), d', g', _, hw.vol, hw.words, wrW_lt (by decide) HI.out.lt hgz, by rw [wrW_len]; exact hfit, ?_⟩
    exact wrW_chain (by decide) hfit hgz (rightB_out hr).2.2.1
  go_wp2_with (go_at_call 36; refine HWR.out.mono ?_; rintro e w5 ⟨rfl, hb5, d5, g5, ws5, hv5, hw5, hlt5, hf5, hc5⟩; (have HV5 := Lib.hid (And.intro hv5 (And.intro hw5 (And.intro hlt5 (And.intro hf5 hc5))))); (have HB5 := Lib.hid hb5); clear hb5 hv5 hw5 hlt5 hf5 hc5)
  have HRD := Lib.hid (read_ HV5.out.1 HV5.out.2.1 HV5.out.2.2.1 HV5.out.2.2.2.1 (by decide) 2)
  refine HRD.out.mono ?_
  rintro e w6 ⟨hso, -, hb6⟩
  obtain ⟨A6, c6, B6, d6, he6, hi6, ht6⟩ := hso _ HV5.out.2.2.2.2
  have he6 : e = .returned (.tuple #[.agg #[.slice A6 2 c6, .slice B6 2 d6], .int .i64 0]) := he6
  subst he6
  have HB6 := Lib.hid (bl_then HB5.out hb6)
  have HT6 : Hid (TR w6 B6 [(5, 2, 0), (1, 1, -1)]) := (own_tr (l := [(5, 2, 0), (1, 1, -1)]) ht6).1
  have HBK : Hid (Calls Tryz.prog 47 #[.agg #[.slice A6 2 c6, .slice B6 2 d6]] (w6.alloc (.cells #[.slice A6 2 c6, .slice B6 2 d6] 82)) fun e w' => ∃ A c, e = .returned (.slice A 3 c) ∧ Rk .i64 w' A [5, 6, 1] ∧ Below (w6.alloc (.cells #[.slice A6 2 c6, .slice B6 2 d6] 82)).heap.size (w6.alloc (.cells #[.slice A6 2 c6, .slice B6 2 d6] 82)) w') := by
    have h9 := blocks_ (A := A6) (HT6.out.below (bl_alloc (Below.refl _ _) (.cells #[.slice A6 2 c6, .slice B6 2 d6] 82))) 2 c6 d6 (by decide) (by decide)
    refine (show Calls _ _ #[.agg #[_, .slice _ 2 _]] _ _ from h9).mono ?_
    rintro e w' ⟨v', rfl, ho, hb⟩
    have e9 : blocksOf [((5 : Int), (2 : Int), (0 : Int)), (1, 1, -1)] = [5, 6, 1] := by decide
    rw [e9] at ho
    obtain ⟨A, c, rfl⟩ := own_slice ho
    exact ⟨A, c, rfl, (own_rk (k := .i64) ho).1, hb⟩
  have HSM : Hid (∀ {W : World} {A : Option Addr} (c : Nat), Rk .i64 W A [5, 6, 1] → Calls Tryz.prog 35 #[.slice A 3 c, .slice (some ⟨W.heap.size, 0, none⟩) 3 3] (W.alloc (.cells #[.int .i64 5, .int .i64 6, .int .i64 1] 3)) fun e w' => e = .returned (.bool true) ∧ Below W.heap.size W w') := fun {W} {A} c hr => by
    have h9 := rsame_ (hr.below (bl_alloc (Below.refl _ _) (.cells #[.int .i64 5, .int .i64 6, .int .i64 1] 3))) (three_rk (alloc_new W (.cells #[.int .i64 5, .int .i64 6, .int .i64 1] 3))) c 3 (by decide) (by decide)
    refine (show Calls _ _ #[.slice _ 3 _, .slice _ 3 3] _ _ from h9).mono ?_
    rintro e w' ⟨rfl, q, rfl⟩
    exact ⟨rfl, bl_drewN (bl_alloc (Below.refl _ _) _) _⟩
  clear hso hi6 ht6 hb6
  go_wp2_with (first | (go_at_call 47; refine HBK.out.mono ?_; rintro e w7 ⟨A7, c7, rfl, hr7, hb7⟩; (have HR7 := Lib.hid hr7); (have HB7 := Lib.hid (bl_then (bl_alloc HB6.out _) hb7)); clear hr7 hb7) |
    (go_at_call 35; refine (HSM.out _ HR7.out).mono ?_; rintro e w8 ⟨rfl, hb8⟩; (have HB8 := Lib.hid (bl_then HB7.out hb8)); clear hb8))
  go_ret
  exact ⟨rfl, HB8.out⟩
end Go.Proofs.YtgnagbbdnlmgeaaGreat.Tr
end
section
set_option maxHeartbeats 4000000
set_option maxRecDepth 100000
namespace Go.Proofs.YtgnagbbdnlmgeaaGreat.Cm
open Go Go.RowKit
open Rr Ob Ba Ko Ge Oc Pk Su Rf Dv Vo Ra Jh Tr Iq Bm In Je Lo Ho Jd
theorem zero_im {n m s T p3 p4 p5 : Nat} {ws : List Nat} (hi : Im 4 2 0 [] n m s T p3 p4 p5 ws) : n = 5 ∧ m = 3 ∧ s = 64 ∧ T = 96 ∧ Zs ws (0, -1, 0) (0, -1, 0) none none := by
  have h1 : n = 5 := hi.n_is
  have h2 : m = 3 := hi.m_is
  have h3 : s = 64 := hi.s_is
  have h4 : T = 96 := by
    have h9 := hi.T_is
    rw [h1, h2, h3] at h9
    have h8 : tot 5 3 64 = 96 := by decide
    have h9' : (T : Int) = tot 5 3 64 := h9
    omega
  have hz : ∀ i : Nat, 8 ≤ i → i < 96 → ws[i]? = some 0 := fun i h8 hT => zero_at hi h8 (by rw [h4]; exact hT)
  have hln : ∀ i : Nat, i < 3 → inF ws 3 i = some (0, -1, 0) := fun i hi3 => by
    have h9 := inF_at hi3 (inL_ext (ws := ws) (l := List.replicate 8 0) (i := i) (by simp) (fun j hj => by rw [hz _ (by omega) (by omega), List.getElem?_replicate, if_pos hj])) (by decide)
    rw [h9]
    decide
  have hsl : ∀ i : Nat, i < 5 → slF ws 5 3 i = none := fun i hi5 => by
    unfold slF
    have e : ws.getD (16 + 8 * 3 + ((i : Nat) : Int).toNat) 0 = 0 := by
      rw [List.getD_eq_getElem?_getD, hz _ (by omega) (by omega)]
      rfl
    have h0 : ok7 0 = false := by decide
    rw [e, h0]
    simp
  exact ⟨h1, h2, h3, h4, by rw [hi.len, h4], hi.lt, hln 0 (by omega), hln 1 (by omega), hln 2 (by omega), hsl 0 (by omega), hsl 1 (by omega)⟩
theorem take_free (n s : Nat) (sl : Int → Option Tri) (l1 l2 : List Nat) : takeF n s sl l1 l2 (-1) 0 = some (l1, l2, []) := by
  unfold takeF
  rw [chainF_stop]
  simp [runsOf, sumR, needF, turnL, blocksOf]
theorem scan_zero {ws : List Nat} {u0 u1 : Option Tri} (h : Zs ws (0, -1, 0) (0, -1, 0) u0 u1) : scanF 5 3 64 ws = some ([0], [0], [((0, -1, 0), []), ((0, -1, 0), []), ((0, -1, 0), [])]) := by
  have h0 : inF ws 3 ((0 : Nat) : Int) = some (0, -1, 0) := h.i0
  have h1 : inF ws 3 ((0 + 1 : Nat) : Int) = some (0, -1, 0) := h.i1
  have h2 : inF ws 3 ((0 + 1 + 1 : Nat) : Int) = some (0, -1, 0) := h.i2
  unfold scanF
  show scanG 5 64 (slF ws 5 3) (inF ws 3) 3 0 ([0], [0], []) = _
  unfold scanG stepG
  rw [h0]
  simp only [take_free]
  unfold scanG stepG
  rw [h1]
  simp only [take_free]
  unfold scanG stepG
  rw [h2]
  simp only [take_free]
  rfl
theorem lives17 (w : World) : Calls Tryz.prog 48 #[] w fun e w' => e = .returned (.bool true) ∧ Below w.heap.size w w' := by
  have hu := Tryz.underlying30
  obtain ⟨n, m, s, T, p3, p4, p5, ws, hi⟩ := im_ 4 2 0 [] (by simp)
  obtain ⟨rfl, rfl, rfl, rfl, hzs⟩ := zero_im hi
  have HO : Hid (∀ {W : World}, _) := fun {W} => open17N (by decide) (by decide) (by decide) hi (A := none) 0 (by decide) (w := W) (Rk.nil _ _ _)
  have HZ := Lib.hid hzs
  clear hi hzs
  go_enter Tryz.func48, Tryz.ntmps48
  go_wp2_with fail
  refine (zero_ _).mono ?_
  rintro e w1 ⟨rfl, hb1⟩
  have HB1 := Lib.hid hb1
  clear hb1
  go_wp2_with fail
  refine HO.out.mono ?_
  rintro e w2 ⟨v, b, g, a8, c8, rfl, hop⟩
  unfold volA
  have HV2 := Lib.hid (hop.vol.below (bl_alloc (Below.refl _ _) (.cells #[.int .i64 (5 : Nat), .int .i64 (3 : Nat), .int .i64 (64 : Nat), .int .i64 16, .int .i64 (16 + 8 * ((3 : Nat) : Int)), .int .i64 p3, .int .i64 p4, .int .i64 p5, .slice (some a8) (96 : Nat) c8] 30)))
  have HB2 : Hid (Below w.heap.size w (w2.alloc (.cells #[.int .i64 (5 : Nat), .int .i64 (3 : Nat), .int .i64 (64 : Nat), .int .i64 16, .int .i64 (16 + 8 * ((3 : Nat) : Int)), .int .i64 p3, .int .i64 p4, .int .i64 p5, .slice (some a8) (96 : Nat) c8] 30))) := bl_alloc (bl_then HB1.out hop.below) _
  clear hop
  go_wp2_with fail
  refine (lives16 _).mono ?_
  rintro e w3 ⟨rfl, hb3⟩
  have HV3 := Lib.hid (HV2.out.below hb3)
  have HB3 := Lib.hid (bl_then HB2.out hb3)
  clear hb3
  go_wp2_with fail
  refine (scan_ HV3.out (Vs.words_devOf _) HZ.out.lt (by rw [HZ.out.len]; omega) (by decide) (by decide) (by decide)).mono ?_
  rintro e w4 ⟨hso, -, hb4⟩
  obtain ⟨q, b1, b2, g1, g2, c1, c2, es, LA, lc, rfl, hcl, hes⟩ := hso _ (scan_zero HZ.out)
  have HC4 := Lib.hid (And.intro hcl hes)
  have HB4 := Lib.hid (bl_then HB3.out hb4)
  have hlen : es.length = 3 := by have := congrArg List.length hes; simpa using this
  have HNX := Lib.hid (nexti_ hcl (by rw [hlen]; decide))
  rw [hes] at HNX
  have HL := Lib.hid hlen
  clear hso hb4 hcl hes hlen
  go_wp2_with (first | (go_at_call 107; refine HNX.out.mono ?_; rintro e w5 ⟨rfl, hb5⟩; (have HC5 := Lib.hid (HC4.out.1.keep hb5)); (have HB5 := Lib.hid (bl_then HB4.out hb5)); clear hb5) |
    (go_at_call 54; refine (cblocks_ HC5.out).mono ?_; rintro e w6 ⟨b', A', c', rfl, hm6, hb6⟩; (have HM6 := Lib.hid hm6); (have HC6 := Lib.hid (HC5.out.keep hb6)); (have HB6 := Lib.hid (bl_then HB5.out hb6)); clear hm6 hb6) |
    (go_at_call 55; refine (count_ HM6.out (by decide) (by decide)).mono ?_; rintro e w7 ⟨rfl, hw7⟩; (have hw7' := hw7.symm); subst hw7') |
    (go_at_call 62; refine (cslots_ HC6.out).mono ?_; rintro e w8 ⟨b'', A'', c'', rfl, hm8, hb8⟩; (have HM8 := Lib.hid hm8); (have HB8 := Lib.hid (bl_then HB6.out hb8)); clear hm8 hb8) |
    (go_at_call 97; refine (free_ HM8.out (by decide) (by decide)).mono ?_; rintro e w9 ⟨rfl, hb9⟩; (have HB9 := Lib.hid (bl_then HB8.out hb9)); clear hb9))
  go_ret
  exact ⟨rfl, HB9.out⟩
end Go.Proofs.YtgnagbbdnlmgeaaGreat.Cm
end
section
set_option maxHeartbeats 4000000
set_option maxRecDepth 100000
namespace Go.Proofs.YtgnagbbdnlmgeaaGreat.Cm
open Go Go.RowKit
open Rr Ob Ba Ko Ge Oc Pk Su Rf Dv Vo Ra Jh Tr Iq Bm In Je Lo Ho
theorem own_cells {w : World} {B T s n c : Nat} {a : Addr} {xs : List Value} (h : w.ownsRow B T s (.slice (some a) n c) n xs) : a.block < w.heap.size ∧ ∀ (j : Nat) u, xs[j]? = some u → w.cell? (a.add j) = some u := by
  obtain ⟨h1, ⟨h2, h3⟩ | ⟨g, cap, cur, hv, hg, hb, hn, hm, hs, ht⟩⟩ := h
  · simp at h2
  · simp only [Value.slice.injEq, Option.some.injEq] at hv
    obtain ⟨rfl, -, -⟩ := hv
    refine ⟨lt_of hb, fun j u hj => ?_⟩
    rw [Addr.add_lit, cell_of hb, Nat.zero_add]
    rw [← ht, List.getElem?_take] at hj
    split at hj
    · simpa using hj
    · cases hj
theorem own_none {w : World} {B T s n c : Nat} {xs : List Value} (h : w.ownsRow B T s (.slice none n c) n xs) : n = 0 ∧ c = 0 := by
  obtain ⟨h1, ⟨h2, h3⟩ | ⟨g, cap, cur, hv, r⟩⟩ := h
  · simp at h2
    exact h2
  · simp at hv
theorem owns_nilS (w : World) (B s : Nat) (T : TypeId) (g : Nat) (hg : B ≤ g) (hb : w.heap[g]? = some (.cells #[] T (0, 0))) : w.ownsRow B T s (.slice (some ⟨g, 0, none⟩) 0 0) 0 [] := by
  exact ⟨by simp, .inr ⟨g, 0, #[], rfl, hg, hb, Nat.le_refl _, by unfold maxLen; omega, by simp, by simp⟩⟩
theorem clone_int {w : World} {B n c : Nat} {A : Option Addr} {xs : List Int} (h : w.ownsRow B 3 1 (.slice A n c) n (ivs .i64 xs)) (hn : n ≤ 65534) :
    Calls Tryz.prog 114 #[.slice A n c] w fun e w' => ∃ v, e = .returned v ∧ w'.ownsRow w.heap.size 3 1 v n (ivs .i64 xs) ∧ Below w.heap.size w w' := by
  obtain ⟨i0, hinf, hz0, hz1, hz2⟩ := info_parts info_int
  cases A with
  | none =>
    obtain ⟨rfl, rfl⟩ := own_none h
    have hx : ivs .i64 xs = [] := by have := h.1; simpa using this
    rw [hx]
    have he : ∀ w : World, (binOp .eql 79 (.slice none 0 0) (.slice none 0 0)).run Tryz.prog w = .ok (.bool true) w := fun _ => rfl
    clear h
    go_enter Tryz.func114, Tryz.ntmps114
    go_wp2_with fail
    go_ret
    exact ⟨_, rfl, own_nil0 _ _ _ _, Below.refl _ _⟩
  | some a =>
    obtain ⟨h1, h2⟩ := own_cells h
    have HL : Hid ((ivs .i64 xs).length = n) := by have := h.1; show _ = _; omega
    have HC : Hid (∀ (j : Nat) u, (ivs .i64 xs)[j]? = some u → (w.alloc (.cells #[] 3)).cell? (a.add j) = some u) := fun j u hj => by
      rw [World.cell?_of_block (w := w) (a := a.add j) (Below.heap_alloc _ _ _ (by rw [add_block]; exact h1))]
      exact h2 j u hj
    have HO : Hid ((w.alloc (.cells #[] 3)).ownsRow w.heap.size 3 1 (.slice (some ⟨w.heap.size, 0, none⟩) 0 0) 0 []) := owns_nilS _ _ _ _ _ (Nat.le_refl _) (alloc_new _ _)
    have he : ∀ w : World, (binOp .eql 79 (.slice (some a) n c) (.slice none 0 0)).run Tryz.prog w = .ok (.bool false) w := fun _ => rfl
    have HN : Hid (∀ u ∈ ivs .i64 xs, u.oneCell' = true) := ivs_oneCell _ _
    generalize ivs .i64 xs = ys at *
    clear h h1 h2
    go_enter Tryz.func114, Tryz.ntmps114
    go_wp2_with (at_builtin; refine wpList_append_own _ rfl (.tmp 5) (.tmp 6) 79 rfl w.heap.size 3 i0 (.int .i64 0) 1 8 Tryz.underlying79 hinf hz0 hz1 hz2 rfl (by decide) _ 0 [] rfl HO.out a n c ys rfl (by rw [HL.out]; omega) HC.out HN.out (by unfold maxLen; omega) (by omega) (by simp) ?_; intro v' w2 hown hg _; (have HV := Lib.hid hown); (have HG := Lib.hid hg); clear hown hg)
    go_ret
    have hv := HV.out
    rw [Nat.zero_add, List.nil_append] at hv
    exact ⟨_, rfl, hv, ((Below.refl _ _).alloc (Nat.le_refl _) _).grown HG.out (by simp) (fun k hk => own_lo HO.out k hk)⟩
theorem tvs_one (l : List Tri) : ∀ u ∈ tvs l, u.oneCell' = true := by
  intro u hu
  simp only [tvs, List.mem_flatMap] at hu
  obtain ⟨p, -, hp⟩ := hu
  simp at hp
  rcases hp with rfl | rfl | rfl <;> rfl
theorem clone_slot {w : World} {B n c : Nat} {A : Option Addr} {xs : List Tri} (h : w.ownsRow B 51 3 (.slice A n c) n (tvs xs)) (hn : n ≤ 65534) :
    Calls Tryz.prog 115 #[.slice A n c] w fun e w' => ∃ v, e = .returned v ∧ w'.ownsRow w.heap.size 51 3 v n (tvs xs) ∧ Below w.heap.size w w' := by
  obtain ⟨i0, hinf, hz0, hz1, hz2⟩ := info_parts (show (Tryz.prog.info? 51).map (fun i => (i.zero, i.size, i.bytes)) = some (some (.agg #[.int .i64 0, .int .i64 0, .int .i64 0]), 3, 24) by kernel_rfl)
  cases A with
  | none =>
    obtain ⟨rfl, rfl⟩ := own_none h
    have hx : tvs xs = [] := by have := h.1; simpa using this
    rw [hx]
    have he : ∀ w : World, (binOp .eql 80 (.slice none 0 0) (.slice none 0 0)).run Tryz.prog w = .ok (.bool true) w := fun _ => rfl
    clear h
    go_enter Tryz.func115, Tryz.ntmps115
    go_wp2_with fail
    go_ret
    exact ⟨_, rfl, own_nil0 _ _ _ _, Below.refl _ _⟩
  | some a =>
    obtain ⟨h1, h2⟩ := own_cells h
    have HL : Hid ((tvs xs).length = n * 3) := h.1
    have HC : Hid (∀ (j : Nat) u, (tvs xs)[j]? = some u → (w.alloc (.cells #[] 51)).cell? (a.add j) = some u) := fun j u hj => by
      rw [World.cell?_of_block (w := w) (a := a.add j) (Below.heap_alloc _ _ _ (by rw [add_block]; exact h1))]
      exact h2 j u hj
    have HO : Hid ((w.alloc (.cells #[] 51)).ownsRow w.heap.size 51 3 (.slice (some ⟨w.heap.size, 0, none⟩) 0 0) 0 []) := owns_nilS _ _ _ _ _ (Nat.le_refl _) (alloc_new _ _)
    have he : ∀ w : World, (binOp .eql 80 (.slice (some a) n c) (.slice none 0 0)).run Tryz.prog w = .ok (.bool false) w := fun _ => rfl
    have HN : Hid (∀ u ∈ tvs xs, u.oneCell' = true) := tvs_one _
    generalize tvs xs = ys at *
    clear h h1 h2
    go_enter Tryz.func115, Tryz.ntmps115
    go_wp2_with (at_builtin; refine wpList_append_own _ rfl (.tmp 5) (.tmp 6) 80 rfl w.heap.size 51 i0 (.agg #[.int .i64 0, .int .i64 0, .int .i64 0]) 3 24 Tryz.underlying80 hinf hz0 hz1 hz2 rfl (by decide) _ 0 [] rfl HO.out a n c ys rfl HL.out HC.out HN.out (by unfold maxLen; omega) (by omega) (by simp) ?_; intro v' w2 hown hg _; (have HV := Lib.hid hown); (have HG := Lib.hid hg); clear hown hg)
    go_ret
    have hv := HV.out
    rw [Nat.zero_add, List.nil_append] at hv
    exact ⟨_, rfl, hv, ((Below.refl _ _).alloc (Nat.le_refl _) _).grown HG.out (by simp) (fun k hk => own_lo HO.out k hk)⟩
end Go.Proofs.YtgnagbbdnlmgeaaGreat.Cm
end
section
set_option maxHeartbeats 4000000
set_option maxRecDepth 100000
namespace Go.Proofs.YtgnagbbdnlmgeaaGreat.Cm
open Go Go.RowKit
open Rr Ob Ba Ko Ge Oc Pk Su Rf Dv Vo Ra Jh Tr Iq Bm In Je Lo Ho
def ofV (es : List Own) (i : Int) : Own := if 0 ≤ i then es.getD i.toNat ⟨0, -1, 0, none, 0, none, 0, []⟩ else ⟨0, -1, 0, none, 0, none, 0, []⟩
def Own.ag (e : Own) : Value := .agg #[.int .i64 e.k, .int .i64 e.h, .int .i64 e.z, .slice e.sa e.L.length e.sc, .slice e.pa e.L.length e.pc]
theorem put5 {w : World} {q T : Nat} {a0 a1 a2 a3 a4 : Value} (h : w.heap[q]? = some (.cells #[a0, a1, a2, a3, a4] T (0, 0))) (v0 v1 v2 v3 v4 : Value) :
    (((((w.setCell ⟨q, 0, none⟩ v0).setCell ⟨q, 1, none⟩ v1).setCell ⟨q, 2, none⟩ v2).setCell ⟨q, 3, none⟩ v3).setCell ⟨q, 4, none⟩ v4).heap[q]? = some (.cells #[v0, v1, v2, v3, v4] T (0, 0)) := by
  have h0 := set_same h 0 v0
  have h1 := set_same h0 1 v1
  have h2 := set_same h1 2 v2
  have h3 := set_same h2 3 v3
  exact set_same h3 4 v4
theorem of_ {W : World} {B q b1 b2 n : Nat} {l1 l2 : List Nat} {g1 g2 c1 c2 : Nat} {es : List Own} {LA : Option Addr} {lc : Nat} (h : Cl W B q b1 b2 n l1 l2 g1 g2 c1 c2 es LA lc) (hl : es.length ≤ 65534) (i : Int) :
    Calls Tryz.prog 113 #[.pointer (some ⟨q, 0, none⟩), .int .i64 i] W fun e w' => e = .returned (ofV es i).ag ∧ Below W.heap.size W w' := by
  have hu := Tryz.underlying179
  have hu2 := Tryz.underlying185
  have hu3 := Tryz.underlying42
  have H := Lib.hid (own_or h.row)
  have k1 := cell_of h.blk 0
  have hlt := lt_of h.blk
  by_cases h0 : i < 0
  · have hv : ofV es i = ⟨0, -1, 0, none, 0, none, 0, []⟩ := by unfold ofV; rw [if_neg (by omega)]
    rw [hv]
    clear h hv
    show Calls _ _ _ _ fun e w' => e = .returned (.agg #[.int .i64 0, .int .i64 (-1), .int .i64 0, .slice none 0 0, .slice none 0 0]) ∧ _
    go_enter Tryz.func113, Tryz.ntmps113
    go_wp2_with fail
    refine (In.none_ _).mono ?_
    rintro e w1 ⟨rfl, hb1⟩
    have hq := blk_bl (alloc_new W (.cells #[.int .i64 0, .int .i64 0, .int .i64 0, .slice none 0 0, .slice none 0 0] 185)) hb1
    have HQ := Lib.hid hq
    have HB := Lib.hid (bl_then (bl_alloc (Below.refl _ _) _) hb1)
    have r0 := cell_of hq 0
    have f0 := free_of hq 0
    have r1 := cell_of hq 1
    have f1 := free_of hq 1
    have r2 := cell_of hq 2
    have f2 := free_of hq 2
    have r3 := cell_of hq 3
    have f3 := free_of hq 3
    have r4 := cell_of hq 4
    have f4 := free_of hq 4
    clear hb1 hq
    go_wp2_with fail
    exact bodyPost_ret (res_c rfl _ _ W.heap.size 185 #[.int .i64 0, .int .i64 (-1), .int .i64 0, .slice none 0 0, .slice none 0 0] (0, 0) _ rfl (put5 HQ.out _ _ _ _ _) hu2 rfl (by kernel_rfl)) rfl ⟨rfl, bl_set (bl_set (bl_set (bl_set (bl_set HB.out (Nat.le_refl _) _) (Nat.le_refl _) _) (Nat.le_refl _) _) (Nat.le_refl _) _) (Nat.le_refl _) _⟩
  · by_cases h1 : (es.length : Int) ≤ i
    · have hv : ofV es i = ⟨0, -1, 0, none, 0, none, 0, []⟩ := by
        unfold ofV
        rw [if_pos (by omega), List.getD_eq_getElem?_getD, List.getElem?_eq_none (by omega)]
        rfl
      rw [hv]
      generalize es.length = m at *
      clear h hv
      show Calls _ _ _ _ fun e w' => e = .returned (.agg #[.int .i64 0, .int .i64 (-1), .int .i64 0, .slice none 0 0, .slice none 0 0]) ∧ _
      go_enter Tryz.func113, Tryz.ntmps113
      go_wp2_with fail
      refine (In.none_ _).mono ?_
      rintro e w1 ⟨rfl, hb1⟩
      have hq := blk_bl (alloc_new W (.cells #[.int .i64 0, .int .i64 0, .int .i64 0, .slice none 0 0, .slice none 0 0] 185)) hb1
      have HQ := Lib.hid hq
      have HB := Lib.hid (bl_then (bl_alloc (Below.refl _ _) _) hb1)
      have r0 := cell_of hq 0
      have f0 := free_of hq 0
      have r1 := cell_of hq 1
      have f1 := free_of hq 1
      have r2 := cell_of hq 2
      have f2 := free_of hq 2
      have r3 := cell_of hq 3
      have f3 := free_of hq 3
      have r4 := cell_of hq 4
      have f4 := free_of hq 4
      clear hb1 hq
      go_wp2_with fail
      exact bodyPost_ret (res_c rfl _ _ W.heap.size 185 #[.int .i64 0, .int .i64 (-1), .int .i64 0, .slice none 0 0, .slice none 0 0] (0, 0) _ rfl (put5 HQ.out _ _ _ _ _) hu2 rfl (by kernel_rfl)) rfl ⟨rfl, bl_set (bl_set (bl_set (bl_set (bl_set HB.out (Nat.le_refl _) _) (Nat.le_refl _) _) (Nat.le_refl _) _) (Nat.le_refl _) _) (Nat.le_refl _) _⟩
    · obtain ⟨k, rfl⟩ : ∃ k : Nat, i = k := ⟨i.toNat, by omega⟩
      obtain ⟨p, hp⟩ := some_at (l := es) (i := k) (by omega)
      have hv : ofV es k = p := by
        unfold ofV
        rw [if_pos (by omega), List.getD_eq_getElem?_getD, Int.toNat_natCast, hp]
        rfl
      rw [hv]
      have hkm : k < es.length := by omega
      obtain ⟨g, off, rfl, hgl, a1, a2, a3, a4, a5⟩ := H.out k p hp
      obtain ⟨x, y, z, sa, sc, pa, pc, L⟩ := p
      simp only at a1 a2 a3 a4 a5
      show Calls _ _ _ _ fun e w' => e = .returned (.agg #[.int .i64 x, .int .i64 y, .int .i64 z, .slice sa L.length sc, .slice pa L.length pc]) ∧ _
      generalize L.length = ll at *
      generalize es.length = m at *
      clear h hv hp
      go_enter Tryz.func113, Tryz.ntmps113
      go_wp2_with fail
      exact bodyPost_ret (res_c rfl _ _ W.heap.size 185 #[.int .i64 x, .int .i64 y, .int .i64 z, .slice sa ll sc, .slice pa ll pc] (0, 0) _ rfl (alloc_new W _) hu2 rfl (by kernel_rfl)) rfl ⟨rfl, bl_alloc (Below.refl _ _) _⟩
theorem field_n (x y z a b : Value) (w : World) : (Instr.field 185 (.agg #[x, y, z, a, b]) 0).run Tryz.prog w = .ok (.agg #[x, y, z]) w := rfl
theorem field_c (x y z a b : Value) (w : World) : (Instr.field 185 (.agg #[x, y, z, a, b]) 1).run Tryz.prog w = .ok (.agg #[a, b]) w := rfl
theorem cinode_ {W : World} {B q b1 b2 n : Nat} {l1 l2 : List Nat} {g1 g2 c1 c2 : Nat} {es : List Own} {LA : Option Addr} {lc : Nat} (h : Cl W B q b1 b2 n l1 l2 g1 g2 c1 c2 es LA lc) (hl : es.length ≤ 65534) (i : Int) :
    Calls Tryz.prog 66 #[.pointer (some ⟨q, 0, none⟩), .int .i64 i] W fun e w' => e = .returned (.agg #[.int .i64 (ofV es i).k, .int .i64 (ofV es i).h, .int .i64 (ofV es i).z]) ∧ Below W.heap.size W w' := by
  have hu := Tryz.underlying42
  have HO : Hid (∀ {W' : World}, Below W.heap.size W W' → Calls Tryz.prog 113 #[.pointer (some ⟨q, 0, none⟩), .int .i64 i] W' fun e w' => e = .returned (.agg #[.int .i64 (ofV es i).k, .int .i64 (ofV es i).h, .int .i64 (ofV es i).z, .slice (ofV es i).sa (ofV es i).L.length (ofV es i).sc, .slice (ofV es i).pa (ofV es i).L.length (ofV es i).pc]) ∧ Below W'.heap.size W' w') := fun {W'} hb => of_ (h.keep hb) hl i
  generalize (ofV es i).k = k at *
  generalize (ofV es i).h = hd at *
  generalize (ofV es i).z = z at *
  generalize (ofV es i).sa = sa at *
  generalize (ofV es i).sc = sc at *
  generalize (ofV es i).pa = pa at *
  generalize (ofV es i).pc = pc at *
  generalize (ofV es i).L.length = ll at *
  clear h
  have hf := field_n (.int .i64 k) (.int .i64 hd) (.int .i64 z) (.slice sa ll sc) (.slice pa ll pc)
  go_enter Tryz.func66, Tryz.ntmps66
  go_wp2_with fail
  refine (HO.out (bl_alloc (Below.refl _ _) _)).mono ?_
  rintro e w1 ⟨rfl, hb1⟩
  have hq := blk_bl (alloc_new W (.cells #[.int .i64 0, .int .i64 0, .int .i64 0] 42)) hb1
  have HQ := Lib.hid hq
  have HB := Lib.hid (bl_then (bl_alloc (Below.refl _ _) _) hb1)
  have r0 := cell_of hq 0
  have f0 := free_of hq 0
  have r1 := cell_of hq 1
  have f1 := free_of hq 1
  have r2 := cell_of hq 2
  have f2 := free_of hq 2
  clear hb1 hq
  go_wp2_with fail
  exact bodyPost_ret (res_c rfl _ _ W.heap.size 42 #[.int .i64 k, .int .i64 hd, .int .i64 z] (0, 0) _ rfl (Ba.put3 HQ.out _ _ _) hu rfl (by kernel_rfl)) rfl ⟨rfl, bl_put3 HB.out (Nat.le_refl _) _ _ _⟩
end Go.Proofs.YtgnagbbdnlmgeaaGreat.Cm
end
section
set_option maxHeartbeats 4000000
set_option maxRecDepth 100000
namespace Go.Proofs.YtgnagbbdnlmgeaaGreat.Cm
open Go Go.RowKit
open Rr Ob Ba Ko Ge Oc Pk Su Rf Dv Vo Ra Jh Tr Iq Bm In Je Lo Ho
theorem ofV_ch {W : World} {B q b1 b2 n : Nat} {l1 l2 : List Nat} {g1 g2 c1 c2 : Nat} {es : List Own} {LA : Option Addr} {lc : Nat} (h : Cl W B q b1 b2 n l1 l2 g1 g2 c1 c2 es LA lc) (i : Int) : Ch W B (ofV es i) := by
  have h0 : Ch W B ⟨0, -1, 0, none, 0, none, 0, []⟩ := ⟨own_nil0 _ _ _ _, own_nil0 _ _ _ _⟩
  unfold ofV
  split
  · rw [List.getD_eq_getElem?_getD]
    cases hx : es[i.toNat]? with
    | none => exact h0
    | some e => exact h.chs e (List.mem_of_getElem? hx)
  · exact h0
theorem far2 {w : World} {q k : Nat} {x y : Value} (hne : k ≠ q) (h : w.cell? ⟨q, 0, none⟩ = some x ∧ w.cell? ⟨q, 1, none⟩ = some y) (v0 v1 : Value) :
    ((w.setCell ⟨k, 0, none⟩ v0).setCell ⟨k, 1, none⟩ v1).cell? ⟨q, 0, none⟩ = some x ∧ ((w.setCell ⟨k, 0, none⟩ v0).setCell ⟨k, 1, none⟩ v1).cell? ⟨q, 1, none⟩ = some y := by
  have hb : ((w.setCell ⟨k, 0, none⟩ v0).setCell ⟨k, 1, none⟩ v1).heap[q]? = w.heap[q]? := (Below.heap_setCell _ _ _ q (fun e => hne e.symm)).trans (Below.heap_setCell w _ _ q (fun e => hne e.symm))
  exact ⟨(cell_blk hb 0).trans h.1, (cell_blk hb 1).trans h.2⟩
theorem cchain_ {W : World} {B q b1 b2 n : Nat} {l1 l2 : List Nat} {g1 g2 c1 c2 : Nat} {es : List Own} {LA : Option Addr} {lc : Nat} (h : Cl W B q b1 b2 n l1 l2 g1 g2 c1 c2 es LA lc) (hl : es.length ≤ 65534) (i : Int) (hL : (ofV es i).L.length ≤ 65534) :
    Calls Tryz.prog 58 #[.pointer (some ⟨q, 0, none⟩), .int .i64 i] W fun e w' => ∃ A c D d, e = .returned (.agg #[.slice A (ofV es i).L.length c, .slice D (ofV es i).L.length d]) ∧ w'.ownsRow W.heap.size 3 1 (.slice A (ofV es i).L.length c) (ofV es i).L.length (ivs .i64 ((ofV es i).L.map Prod.fst)) ∧
      w'.ownsRow W.heap.size 51 3 (.slice D (ofV es i).L.length d) (ofV es i).L.length (tvs ((ofV es i).L.map Prod.snd)) ∧ Below W.heap.size W w' := by
  have hu := Tryz.underlying82
  have HO : Hid (∀ {W' : World}, Below W.heap.size W W' → Calls Tryz.prog 113 #[.pointer (some ⟨q, 0, none⟩), .int .i64 i] W' fun e w' => e = .returned (.agg #[.int .i64 (ofV es i).k, .int .i64 (ofV es i).h, .int .i64 (ofV es i).z, .slice (ofV es i).sa (ofV es i).L.length (ofV es i).sc, .slice (ofV es i).pa (ofV es i).L.length (ofV es i).pc]) ∧ Below W'.heap.size W' w') := fun {W'} hb => of_ (h.keep hb) hl i
  have HCH := Lib.hid (ofV_ch h i)
  generalize ofV es i = p at *
  obtain ⟨k, hd, z, sa, sc, pa, pc, L⟩ := p
  simp only at HO hL
  have HC1 : Hid (∀ {W' : World}, Below W.heap.size W W' → _) := fun {W'} hb => clone_int (own_bl HCH.out.slots hb) hL
  have HC2 : Hid (∀ {W' : World}, Below W.heap.size W W' → _) := fun {W'} hb => clone_slot (own_bl HCH.out.parts hb) hL
  simp only at HC1 HC2
  show Calls _ _ _ _ fun e w' => ∃ A c D d, e = .returned (.agg #[.slice A L.length c, .slice D L.length d]) ∧ w'.ownsRow W.heap.size 3 1 (.slice A L.length c) L.length (ivs .i64 (L.map Prod.fst)) ∧ w'.ownsRow W.heap.size 51 3 (.slice D L.length d) L.length (tvs (L.map Prod.snd)) ∧ Below W.heap.size W w'
  generalize ivs .i64 (L.map Prod.fst) = ys at *
  generalize tvs (L.map Prod.snd) = ts at *
  clear HCH
  generalize L.length = ll at *
  clear h hL
  have hf := field_c (.int .i64 k) (.int .i64 hd) (.int .i64 z) (.slice sa ll sc) (.slice pa ll pc)
  go_enter Tryz.func58, Tryz.ntmps58
  go_wp2_with fail
  refine (HO.out (bl_alloc (Below.refl _ _) _)).mono ?_
  rintro e w1 ⟨rfl, hb1⟩
  obtain ⟨W5, hW5⟩ : ∃ W5, W5 = w1.alloc (.cells #[.slice sa ll sc, .slice pa ll pc] 82) := ⟨_, rfl⟩
  have hbw : Below w1.heap.size w1 W5 := by rw [hW5]; exact bl_alloc (Below.refl _ _) _
  have HQ4 : Hid (W5.heap[W.heap.size]? = some (.cells #[.slice none 0 0, .slice none 0 0] 82 (0, 0))) := blk_bl (blk_bl (alloc_new W (.cells #[.slice none 0 0, .slice none 0 0] 82)) hb1) hbw
  have HQ5 : Hid (W5.heap[w1.heap.size]? = some (.cells #[.slice sa ll sc, .slice pa ll pc] 82 (0, 0))) := by rw [hW5]; exact alloc_new _ _
  have HB5 : Hid (Below W.heap.size W W5) := bl_then (bl_then (bl_alloc (Below.refl _ _) _) hb1) hbw
  have HNE : Hid (W.heap.size ≠ w1.heap.size) := by have := hb1.size; rw [World.size_alloc] at this; show _ ≠ _; omega
  have HS5 : Hid (W5.drew.cell? ⟨w1.heap.size, 0, none⟩ = some (.slice sa ll sc) ∧ W5.drew.cell? ⟨w1.heap.size, 1, none⟩ = some (.slice pa ll pc)) := ⟨cell_of HQ5.out 0, cell_of HQ5.out 1⟩
  have HB0 : Hid (Below W5.heap.size W5 W5.drew) := bl_drew (Below.refl _ _)
  clear hb1 hbw
  go_wp2_with fail
  rw [← hW5]
  clear hW5 hf
  generalize w1.heap.size = q5 at *
  go_region_held3 (fun W' => W'.cell? ⟨q5, 0, none⟩ = some (.slice sa ll sc) ∧ W'.cell? ⟨q5, 1, none⟩ = some (.slice pa ll pc))
    (first | exact HS5.out | exact HS6.out | exact HS7.out | exact far2 HNE.out HS7.out _ _)
    (first | (go_at_call 114; refine (HC1.out (bl_then HB5.out HB0.out)).mono ?_; rintro e w6 ⟨v6, rfl, ho6, hb6⟩; (obtain ⟨A6, c6, rfl⟩ := own_slice ho6); (have HO6 := Lib.hid ho6); (have HB6 := Lib.hid (bl_then HB0.out hb6)); (have HS6 : Hid (w6.cell? ⟨q5, 0, none⟩ = some (.slice sa ll sc) ∧ w6.cell? ⟨q5, 1, none⟩ = some (.slice pa ll pc)) := ⟨cell_of (blk_bl HQ5.out HB6.out) 0, cell_of (blk_bl HQ5.out HB6.out) 1⟩); clear ho6 hb6) |
      (go_at_call 115; refine (HC2.out (bl_then HB5.out HB6.out)).mono ?_; rintro e w7 ⟨v7, rfl, ho7, hb7⟩; (obtain ⟨A7, c7, rfl⟩ := own_slice ho7); (have HO7 := Lib.hid ho7); (have HO67 := Lib.hid (own_bl HO6.out hb7)); (have HB7 := Lib.hid (bl_then HB6.out hb7)); (have HS7 : Hid (w7.cell? ⟨q5, 0, none⟩ = some (.slice sa ll sc) ∧ w7.cell? ⟨q5, 1, none⟩ = some (.slice pa ll pc)) := ⟨cell_of (blk_bl HQ5.out HB7.out) 0, cell_of (blk_bl HQ5.out HB7.out) 1⟩); (have n0 := cell_of (blk_bl HQ4.out HB7.out) 0); (have n1 := cell_of (blk_bl HQ4.out HB7.out) 1); (have m0 := free_of (blk_bl HQ4.out HB7.out) 0); (have m1 := free_of (blk_bl HQ4.out HB7.out) 1); clear ho7 hb7))
  go_wp2_with fail
  have hlt4 := lt_of HQ4.out
  have hsz6 := HB6.out.size
  refine bodyPost_ret (res_c rfl _ _ W.heap.size 82 #[.slice A6 ll c6, .slice A7 ll c7] (0, 0) _ rfl (Rr.put2 (blk_bl HQ4.out HB7.out) _ _) hu rfl (by kernel_rfl)) rfl ⟨A6, c6, A7, c7, rfl, ?_, ?_, ?_⟩
  · exact own_base (own_sets HO67.out (by show _ < W5.heap.size; exact hlt4) _ _) (by show _ ≤ W5.heap.size; omega)
  · exact own_base (own_sets HO7.out (by omega) _ _) (by omega)
  · exact bl_set (bl_set (bl_then HB5.out HB7.out) (Nat.le_refl _) _) (Nat.le_refl _) _
end Go.Proofs.YtgnagbbdnlmgeaaGreat.Cm
end
section
set_option maxRecDepth 100000
namespace Go.Proofs.YtgnagbbdnlmgeaaGreat.Cm
open Go Go.RowKit
open Rr Ob Ba Ko Ge Oc Pk Su Rf Dv Vo Ra Jh Tr Iq Bm In Je Lo Ho Jd
theorem cnt_set : ∀ (l : List Bool) (j : Nat), l[j]? = some false → cnt (l.set j true) = cnt l + 1
  | [], j, h => by simp at h
  | b :: r, 0, h => by
    simp at h
    subst h
    simp [cnt]; omega
  | b :: r, j + 1, h => by
    have := cnt_set r j (by simpa using h)
    simp only [List.set_cons_succ, cnt, this]
    omega
theorem bget_one {x j : Nat} (hj : j < 64) : bget [x] j = x.testBit j := by
  unfold bget
  rw [show j / 64 = 0 by omega, show j % 64 = j by omega]
  rfl
theorem turn_one {n x : Nat} (hn : n ≤ 24) (hx : x < 2 ^ n) (k : Nat) (i : Int) : ∃ y c, turnF n false ([x], k) i = ([y], k + c) ∧ y < 2 ^ n ∧ cnt (bitsOf y n) = cnt (bitsOf x n) + c := by
  unfold turnF
  by_cases h : 0 ≤ i ∧ i < (n : Int) ∧ bget [x] i.toNat = false
  · rw [if_pos h]
    obtain ⟨h1, h2, h3⟩ := h
    have hj : i.toNat < n := by omega
    rw [bget_one (by omega)] at h3
    refine ⟨x ^^^ 2 ^ i.toNat, 1, ?_, Nat.xor_lt_two_pow hx (Nat.pow_lt_pow_right (by decide) hj), ?_⟩
    · unfold bturn
      rw [show i.toNat / 64 = 0 by omega, show i.toNat % 64 = i.toNat by omega]
      rfl
    · have e : bitsOf (x ^^^ 2 ^ i.toNat) n = (bitsOf x n).set i.toNat true := by
        apply List.ext_getElem?
        intro a
        rw [List.getElem?_set]
        by_cases ha : a < n
        · rw [bitsOf_get _ _ _ ha, bitsOf_get _ _ _ ha, bitsOf_length, Nat.testBit_xor, Nat.testBit_two_pow]
          by_cases hia : i.toNat = a
          · subst hia
            simp [h3, hj]
          · simp [hia]
        · rw [List.getElem?_eq_none (by rw [bitsOf_length]; omega), List.getElem?_eq_none (by rw [bitsOf_length]; omega)]
          split
          · omega
          · rfl
      rw [e]
      exact cnt_set _ _ (by rw [bitsOf_get _ _ _ hj, h3])
  · rw [if_neg h]
    exact ⟨x, 0, rfl, hx, rfl⟩
theorem turn_fold {n : Nat} (hn : n ≤ 24) : ∀ (xs : List Int) (x k : Nat), x < 2 ^ n → ∃ y c, xs.foldl (turnF n false) ([x], k) = ([y], k + c) ∧ y < 2 ^ n ∧ cnt (bitsOf y n) = cnt (bitsOf x n) + c
  | [], x, k, hx => ⟨x, 0, rfl, hx, rfl⟩
  | u :: r, x, k, hx => by
    obtain ⟨y, c, e1, hy, e2⟩ := turn_one hn hx k u
    obtain ⟨z, d, e3, hz, e4⟩ := turn_fold hn r y (k + c) hy
    exact ⟨z, c + d, by rw [List.foldl_cons, e1, e3, Nat.add_assoc], hz, by rw [e4, e2, Nat.add_assoc]⟩
theorem turn_all {n x : Nat} (hn : n ≤ 24) (hx : x < 2 ^ n) (xs : List Int) : ∃ y, (turnL n false [x] xs).1 = [y] ∧ y < 2 ^ n ∧ cnt (bitsOf y n) = cnt (bitsOf x n) + (turnL n false [x] xs).2 := by
  obtain ⟨y, c, e1, hy, e2⟩ := turn_fold hn xs x 0 hx
  have e : turnL n false [x] xs = ([y], c) := by unfold turnL; rw [e1, Nat.zero_add]
  rw [e]
  exact ⟨y, rfl, hy, e2⟩
def sumB : List Dat → Int
  | [] => 0
  | d :: r => sumR (runsOf (d.2.map Prod.snd)) + sumB r
end Go.Proofs.YtgnagbbdnlmgeaaGreat.Cm
end
section
set_option maxHeartbeats 4000000
set_option maxRecDepth 100000
namespace Go.Proofs.YtgnagbbdnlmgeaaGreat.Cm
open Go Go.RowKit
open Rr Ob Ba Ko Ge Oc Pk Su Rf Dv Vo Ra Jh Tr Iq Bm In Je Lo
def ixI : List Int → Int → Nat → Int
  | [], _, _ => -1
  | y :: r, x, i => if x = y then (i : Int) else ixI r x (i + 1)
theorem index_ {w : World} {A : Option Addr} {l : List Int} (h : Rk .i64 w A l) (c : Nat) (hl : l.length ≤ 1000000000) (x : Int) :
    Calls Tryz.prog 159 #[.slice A l.length c, .int .i64 x] w fun e w' => e = .returned (.int .i64 (ixI l x 0)) ∧ Below w.heap.size w w' := by
  have H := Lib.hid h
  obtain ⟨m, hm⟩ : ∃ m, m = l.length := ⟨_, rfl⟩
  rw [← hm] at hl
  rw [← hm]
  have HN := Lib.hid hm
  obtain ⟨R, hR⟩ : ∃ R, R = ixI l x 0 := ⟨_, rfl⟩
  rw [← hR]
  have HR0 : Hid (R = ixI (l.drop 0) x 0) := hR
  clear h hm hR
  go_enter Tryz.func159, Tryz.ntmps159
  go_wp2_with fail
  go_loopw [8] (fun c8 wr => ∃ i : Nat, i ≤ m ∧ c8 = .int .i64 i ∧ Hid (R = ixI (l.drop i) x i ∧ Below w.heap.size w wr)) (fun c8 _ => m - (intOf c8).toNat)
  case atStart => exact ⟨0, Nat.zero_le _, rfl, HR0.out, Below.refl _ _⟩
  case round =>
    obtain ⟨i, hi, rfl, HR⟩ := hrel
    by_cases hlt : i < m
    · obtain ⟨p, hp⟩ := some_at (l := l) (i := i) (by rw [← HN.out]; exact hlt)
      obtain ⟨a, rfl, -, ha⟩ := (H.out.below HR.out.2) i p hp
      have hdr : l.drop i = p :: l.drop (i + 1) := by
        obtain ⟨h1, h2⟩ := List.getElem?_eq_some_iff.1 hp
        rw [List.drop_eq_getElem_cons h1, h2]
      have HD : Hid (R = if x = p then (i : Int) else ixI (l.drop (i + 1)) x (i + 1)) := by
        show _ = _
        rw [HR.out.1, hdr]
        rfl
      clear hp hdr
      by_cases hk : x = p
      · have e1 : (x == p) = true := beq_iff_eq.2 hk
        rw [if_pos hk] at HD
        clear hk
        go_wp2_with fail
        go_ret
        exact ⟨by rw [HD.out]; rfl, HR.out.2⟩
      · have e1 : (x == p) = false := beq_eq_false_iff_ne.2 hk
        rw [if_neg hk] at HD
        clear hk
        go_wp2_with fail
        go_roundw
        case rel => exact ⟨i + 1, by omega, by go_num, HD.out, HR.out.2⟩
        case measure => simp [intOf]; omega
    · obtain rfl : i = m := by omega
      have HD : Hid (R = -1) := by
        show _ = _
        rw [HR.out.1, List.drop_of_length_le (by rw [← HN.out]; exact Nat.le_refl _)]
        rfl
      go_wp2_with fail
      go_ret
      exact ⟨by rw [HD.out]; rfl, HR.out.2⟩
theorem rhas_ {w : World} {A : Option Addr} {l : List Int} (h : Rk .i64 w A l) (c : Nat) (hl : l.length ≤ 1000000000) (x : Int) :
    Calls Tryz.prog 118 #[.slice A l.length c, .int .i64 x] w fun e w' => e = .returned (.bool (decide (x ∈ l))) ∧ w' = w := by
  have H := Lib.hid h
  obtain ⟨n, hn⟩ : ∃ n, n = l.length := ⟨_, rfl⟩
  rw [← hn] at hl
  rw [← hn]
  have HN := Lib.hid hn
  have fin : ∀ b : Bool, (b = true ↔ x ∈ l) → (Ending.returned (.bool b) = .returned (.bool (decide (x ∈ l)))) := fun b hb => by
    congr 2
    cases b with
    | true => exact (decide_eq_true (hb.1 rfl)).symm
    | false => exact (decide_eq_false (fun h => by cases hb.2 h)).symm
  have FIN := Lib.hid fin
  clear h hn fin
  go_enter Tryz.func118, Tryz.ntmps118
  go_wp2_with fail
  go_loop [9] (fun c9 => ∃ i : Nat, i ≤ n ∧ c9 = .int .i64 i ∧ Hid (x ∉ l.take i)) (fun c9 => n - (intOf c9).toNat)
  case atStart => exact ⟨0, Nat.zero_le _, rfl, by show _ ∉ _; simp⟩
  case round =>
    obtain ⟨i, hi, rfl, HR⟩ := hrel
    by_cases hlt : i < n
    · obtain ⟨y, hy⟩ := some_at (l := l) (i := i) (by rw [← HN.out]; exact hlt)
      obtain ⟨a, rfl, -, ha⟩ := H.out i y hy
      have HY := Lib.hid hy
      clear hy
      by_cases hxy : x = y
      · have e1 : (x == y) = true := beq_iff_eq.2 hxy
        have HM : Hid (x ∈ l) := by show _ ∈ _; rw [hxy]; exact List.mem_of_getElem? HY.out
        clear hxy
        go_wp2_with fail
        go_ret
        exact ⟨FIN.out true ⟨fun _ => HM.out, fun _ => rfl⟩, rfl⟩
      · have e1 : (x == y) = false := beq_eq_false_iff_ne.2 hxy
        have HM : Hid (x ∉ l.take (i + 1)) := by
          show _ ∉ _
          rw [take_next HY.out]
          simp only [List.mem_append, List.mem_singleton, not_or]
          exact ⟨HR.out, hxy⟩
        clear hxy
        go_wp2_with fail
        go_round
        case rel => exact ⟨i + 1, by omega, by go_num, HM⟩
        case measure => simp [intOf]; omega
    · obtain rfl : i = n := by omega
      have HM : Hid (x ∉ l) := by
        have := HR.out
        rw [List.take_of_length_le (by rw [← HN.out]; exact Nat.le_refl _)] at this
        exact this
      go_wp2_with fail
      go_ret
      exact ⟨FIN.out false ⟨fun h => (by cases h), fun h => absurd h HM.out⟩, rfl⟩
theorem rneed_ (s : Nat) (hs : s = 64 ∨ s = 128) (z : Int) (hz : z ≤ (s : Int) * 65534) (w : World) :
    Calls Tryz.prog 117 #[.int .i64 s, .int .i64 z] w fun e w' => e = .returned (.int .i64 (needF s z)) ∧ w' = w := by
  obtain ⟨R, hR⟩ : ∃ R : Nat, (R : Int) = needF s z := ⟨(needF s z).toNat, by unfold needF; split <;> rcases hs with rfl | rfl <;> omega⟩
  have HX : Hid (∀ i : Nat, i ≤ R → (0 ≤ (i : Int) * (s : Int) ∧ (i : Int) * (s : Int) ≤ 100000000) ∧ (i < R → (i : Int) * (s : Int) < z) ∧ (i = R → ¬ (i : Int) * (s : Int) < z)) := fun i hi => by
    unfold needF at hR
    split at hR <;> rcases hs with rfl | rfl <;> omega
  have hR9 : R ≤ 65534 := by
    unfold needF at hR
    split at hR <;> rcases hs with rfl | rfl <;> omega
  rw [← hR]
  clear hR hz hs
  go_enter Tryz.func117, Tryz.ntmps117
  go_wp2_with fail
  go_loop [5] (fun c5 => ∃ i : Nat, i ≤ R ∧ c5 = .int .i64 i) (fun c5 => R - (intOf c5).toNat)
  case atStart => exact ⟨0, Nat.zero_le _, rfl⟩
  case round =>
    obtain ⟨i, hi, rfl⟩ := hrel
    obtain ⟨⟨x0, x1⟩, x2, x3⟩ := HX.out i hi
    by_cases hlt : i < R
    · have x4 := x2 hlt
      clear x2 x3
      go_wp2_with fail
      go_round
      case rel => exact ⟨i + 1, by omega, by go_num⟩
      case measure => simp [intOf]; omega
    · obtain rfl : i = R := by omega
      have x4 := x3 rfl
      clear x2 x3
      go_wp2_with fail
      go_ret
      exact ⟨rfl, rfl⟩
def owD : List Dat → Int → Nat → Int × Int
  | [], _, _ => (-1, -1)
  | d :: r, b, i => if 0 ≤ ixI (blocksOf (d.2.map Prod.snd)) b 0 then ((i : Int), ixI (blocksOf (d.2.map Prod.snd)) b 0) else owD r b (i + 1)
theorem cowner_ {W : World} {B q b1 b2 n : Nat} {l1 l2 : List Nat} {g1 g2 c1 c2 : Nat} {es : List Own} {LA : Option Addr} {lc : Nat} (h : Cl W B q b1 b2 n l1 l2 g1 g2 c1 c2 es LA lc) (hl : es.length ≤ 65534)
    (hall : ∀ e ∈ es, e.L.length ≤ 65534 ∧ ∀ t ∈ e.L.map Prod.snd, 0 ≤ t.1 ∧ t.1 ≤ 65534 ∧ 0 ≤ t.2.1 ∧ t.2.1 ≤ 65534) (hbl : ∀ e ∈ es, (blocksOf (e.L.map Prod.snd)).length ≤ 1000000000) (b : Int) :
    Calls Tryz.prog 120 #[.pointer (some ⟨q, 0, none⟩), .int .i64 b] W fun e w' => e = .returned (.tuple #[.int .i64 (if bhas n l1 b then owD (es.map Own.dat) b 0 else (-1, -1)).1, .int .i64 (if bhas n l1 b then owD (es.map Own.dat) b 0 else (-1, -1)).2]) ∧ Below W.heap.size W w' := by
  have hu := Tryz.underlying179
  have hu2 := Tryz.underlying185
  have hu3 := Tryz.underlying82
  have HH := Lib.hid (has_ h.bm1 b)
  have H := Lib.hid (own_or h.row)
  have k0 := cell_of h.blk 0
  have k1 := cell_of h.blk 1
  have HBK : Hid (∀ {W' : World} (p : Own), p ∈ es → Below W.heap.size W W' → Calls Tryz.prog 47 #[.agg #[.slice p.sa p.L.length p.sc, .slice p.pa p.L.length p.pc]] W' fun e w' => ∃ A c, e = .returned (.slice A (blocksOf (p.L.map Prod.snd)).length c) ∧ Rk .i64 w' A (blocksOf (p.L.map Prod.snd)) ∧ Below W'.heap.size W' w') := fun {W'} p hp hb => by
    have h9 := blocks_ (A := p.sa) ((own_tr (h.chs p hp).parts).1.below hb) p.L.length p.sc p.pc (by rw [List.length_map]; exact (hall p hp).1) (hall p hp).2
    rw [List.length_map] at h9
    refine h9.mono ?_
    rintro e w' ⟨v', rfl, ho, hb'⟩
    obtain ⟨A, c, rfl⟩ := own_slice ho
    exact ⟨A, c, rfl, (own_rk (k := .i64) ho).1, hb'⟩
  have HBL := Lib.hid hbl
  obtain ⟨m, hm⟩ : ∃ m, m = es.length := ⟨_, rfl⟩
  rw [← hm] at hl k0
  have HN := Lib.hid hm
  obtain ⟨R, hR⟩ : ∃ R, R = owD (es.map Own.dat) b 0 := ⟨_, rfl⟩
  rw [← hR]
  have HR0 : Hid (R = owD ((es.drop 0).map Own.dat) b 0) := hR
  generalize bhas n l1 b = hs at *
  clear h hm hR hall hbl
  cases hs with
  | false =>
    show Calls _ _ _ _ fun e w' => e = .returned (.tuple #[.int .i64 (-1), .int .i64 (-1)]) ∧ _
    go_enter Tryz.func120, Tryz.ntmps120
    go_wp2_with fail
    refine HH.out.mono ?_
    rintro e w1 ⟨rfl, hw1⟩
    obtain rfl : W = w1 := hw1.symm
    go_wp2_with fail
    go_ret2
    exact ⟨rfl, Below.refl _ _⟩
  | true =>
    show Calls _ _ _ _ fun e w' => e = .returned (.tuple #[.int .i64 R.1, .int .i64 R.2]) ∧ _
    go_enter Tryz.func120, Tryz.ntmps120
    go_wp2_with fail
    refine HH.out.mono ?_
    rintro e w1 ⟨rfl, hw1⟩
    obtain rfl : W = w1 := hw1.symm
    go_wp2_with fail
    clear k0 k1
    go_loopw [21] (fun c21 wr => ∃ i : Nat, i ≤ m ∧ c21 = .int .i64 i ∧ Hid (R = owD ((es.drop i).map Own.dat) b i ∧ Below W.heap.size W wr)) (fun c21 _ => m - (intOf c21).toNat)
    case atStart => exact ⟨0, Nat.zero_le _, rfl, HR0.out, Below.refl _ _⟩
    case round =>
      obtain ⟨i, hi, rfl, HR⟩ := hrel
      by_cases hlt : i < m
      · obtain ⟨p, hp⟩ := some_at (l := es) (i := i) (by rw [← HN.out]; exact hlt)
        obtain ⟨g, off, rfl, -, a1, a2, a3, a4, a5⟩ := (H.out.below HR.out.2) i p hp
        have hdr : es.drop i = p :: es.drop (i + 1) := by
          obtain ⟨h1, h2⟩ := List.getElem?_eq_some_iff.1 hp
          rw [List.drop_eq_getElem_cons h1, h2]
        obtain ⟨x, hx⟩ : ∃ x, x = ixI (blocksOf (p.L.map Prod.snd)) b 0 := ⟨_, rfl⟩
        have HD : Hid (R = if 0 ≤ x then ((i : Int), x) else owD ((es.drop (i + 1)).map Own.dat) b (i + 1)) := by
          show _ = _
          rw [HR.out.1, hdr, hx]
          rfl
        have HC := Lib.hid (HBK.out (W' := wr.alloc (.cells #[.int .i64 p.k, .int .i64 p.h, .int .i64 p.z, .slice p.sa p.L.length p.sc, .slice p.pa p.L.length p.pc] 185)) p (List.mem_of_getElem? hp) (bl_alloc HR.out.2 _))
        have HL := Lib.hid (HBL.out p (List.mem_of_getElem? hp))
        have HIX : Hid (∀ {w : World} {A : Option Addr} (c : Nat), Rk .i64 w A (blocksOf (p.L.map Prod.snd)) → Calls Tryz.prog 159 #[.slice A (blocksOf (p.L.map Prod.snd)).length c, .int .i64 b] w fun e w' => e = .returned (.int .i64 x) ∧ Below w.heap.size w w') := fun {w} {A} c h => by
          have := index_ h c HL.out b
          rw [hx]
          exact this
        obtain ⟨k, h, z, sa, sc, pa, pc, L⟩ := p
        simp only at a1 a2 a3 a4 a5 HC HD HIX
        clear hp hdr hx HL
        generalize blocksOf (L.map Prod.snd) = bl at *
        generalize L.length = ll at *
        go_wp2_with fail
        refine HC.out.mono ?_
        rintro e w2 ⟨A2, c2', rfl, hr2, hb2⟩
        have HB2 := Lib.hid (bl_then (bl_alloc HR.out.2 _) hb2)
        have HR2 := Lib.hid hr2
        clear hb2 hr2
        go_wp2_with fail
        refine (HIX.out _ HR2.out).mono ?_
        rintro e w3 ⟨rfl, hb3⟩
        have HB3 := Lib.hid (bl_then HB2.out hb3)
        clear hb3
        by_cases hk : 0 ≤ x
        · rw [if_pos hk] at HD
          go_wp2_with fail
          go_ret2
          exact ⟨by rw [HD.out]; rfl, HB3.out⟩
        · rw [if_neg hk] at HD
          go_wp2_with fail
          go_roundw
          case rel => exact ⟨i + 1, by omega, by go_num, HD.out, HB3.out⟩
          case measure => simp [intOf]; omega
      · obtain rfl : i = m := by omega
        have HD : Hid (R = (-1, -1)) := by
          show _ = _
          rw [HR.out.1, List.drop_of_length_le (by rw [← HN.out]; exact Nat.le_refl _)]
          rfl
        go_wp2_with fail
        go_ret2
        exact ⟨by rw [HD.out]; rfl, HR.out.2⟩
end Go.Proofs.YtgnagbbdnlmgeaaGreat.Cm
end
