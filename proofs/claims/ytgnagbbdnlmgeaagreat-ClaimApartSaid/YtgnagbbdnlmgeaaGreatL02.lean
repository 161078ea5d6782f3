/- Parts of the proof, one behind the other: We, Bm, Mp, Dv, PmA, PmB, PmC. -/
import Derived.Test.YtgnagbbdnlmgeaaGreatL01
import Derived.BigRegion
import Derived.Deep.QuietTactic
import Derived.BigQuiet
import Derived.Carry
import Derived.ChangeMaps5
import Derived.Maps.RangeRun
import Derived.Maps.OwnOps
import Derived.Maps.RangeWalk
import Derived.Maps.OwnSet
import Derived.Test.YtgnagbbdnlmgeaaGreatProg
import Derived.WalkKit
import Derived.WalkSpells
import Derived.KernelRfl
import Derived.Outline
import Derived.OwnWalk
import Derived.Lib.Hide
set_option linter.unusedVariables false
set_option linter.unusedSimpArgs false
set_option linter.unusedSectionVars false
section
set_option maxHeartbeats 2000000
set_option maxRecDepth 100000
namespace Go.Proofs.YtgnagbbdnlmgeaaGreat.Pk
open Go Go.RowKit
open Ob Ba Oc
theorem info_u64 : (Tryz.prog.info? 94).map (fun i => (i.zero, i.size, i.bytes)) = some (some (.int .u64 0), 1, 8) := by kernel_rfl
theorem own_at {k : IntKind} {W : World} {B T n c : Nat} {A : Option Addr} {l : List Int} (h : W.ownsRow B T 1 (.slice A n c) n (ivs k l)) {i : Nat} {x : Int} (hx : l[i]? = some x) :
    ∃ q, A = some ⟨q, 0, none⟩ ∧ W.cell? ⟨q, i, none⟩ = some (.int k x) ∧ W.frozen? ⟨q, i, none⟩ = false := by
  obtain ⟨h1, ⟨h2, h3⟩ | ⟨g, cap, cur, hv, hg, hb, hn, hm, hs, ht⟩⟩ := h
  · have := (List.getElem?_eq_some_iff.1 hx).1
    rw [ivs_length] at h1
    omega
  · simp only [Value.slice.injEq, true_and] at hv
    obtain ⟨rfl, rfl⟩ := hv
    refine ⟨g, rfl, ?_, free_of hb i⟩
    rw [cell_of hb]
    have := ivs_get (k := k) hx
    rw [← ht, List.getElem?_take] at this
    split at this
    · simpa using this
    · cases this
theorem words_ {w : World} {A : Option Addr} {b : List Nat} (h : Rk .u8 w A (ints b)) (hl : ∀ x ∈ b, x < 256) (c : Nat) (hn : b.length ≤ 1000000000) :
    Calls Tryz.prog 162 #[.slice A b.length c] w fun e w' => ∃ v, e = .returned v ∧ w'.ownsRow w.heap.size 94 1 v (wds b).length (ivs .u64 (ints (wds b))) ∧ Below w.heap.size w w' := by
  have H := Lib.hid h
  have HL := Lib.hid hl
  obtain ⟨n, hnn⟩ : ∃ n, n = b.length := ⟨_, rfl⟩
  rw [← hnn]
  rw [← hnn] at hn
  have HN := Lib.hid hnn
  clear h hl hnn
  obtain ⟨i0, hinf, hz0, hz1, hz2⟩ := info_parts info_u64
  go_enter Tryz.func162, Tryz.ntmps162
  go_wp2_with fail
  go_loopw [8, 3] (fun c8 c3 wr => ∃ i : Nat, i ≤ n ∧ c8 = .int .i64 i ∧ Hid (Below w.heap.size w wr ∧ wr.ownsRow w.heap.size 94 1 c3 ((i + 7) / 8) (ivs .u64 (ints (wds (b.take i)))))) (fun c8 _ _ => n - (intOf c8).toNat)
  case atStart => exact ⟨0, Nat.zero_le _, rfl, Below.refl _ _, by have := own_nil0 w w.heap.size 94 1; simpa [wds, ints, ivs] using this⟩
  case round =>
    obtain ⟨i, hi, rfl, HR⟩ := hrel
    by_cases hlt : i < n
    · obtain ⟨x, hx⟩ := some_at (l := b) (i := i) (by rw [← HN.out]; exact hlt)
      obtain ⟨a, rfl, -, ha⟩ := (H.out.below HR.out.1) i x (ints_get hx)
      have hx8 := HL.out x (List.mem_of_getElem? hx)
      obtain ⟨q, r, hqr, hr⟩ : ∃ q r, i = 8 * q + r ∧ r < 8 := ⟨i / 8, i % 8, by omega, by omega⟩
      have HX := Lib.hid (And.intro hx hqr)
      have hshl : IntKind.u64.wrap ((x : Int) * 2 ^ (8 * r)) = ((2 ^ (8 * r) * x : Nat) : Int) := by
        have e : (x : Int) * 2 ^ (8 * r) = ((2 ^ (8 * r) * x : Nat) : Int) := by rw [Nat.mul_comm (2 ^ (8 * r)) x]; norm_cast
        rw [e]
        refine wu64 _ (by omega) ?_
        have h1 : 2 ^ (8 * r) * x < 2 ^ (8 * r) * 2 ^ 8 := Nat.mul_lt_mul_of_pos_left (by omega) (Nat.two_pow_pos _)
        rw [← Nat.pow_add] at h1
        have h2 : 2 ^ (8 * r + 8) ≤ 2 ^ 64 := Nat.pow_le_pow_right (by omega) (by omega)
        have h3 : (2 : Nat) ^ 64 = 18446744073709551616 := rfl
        omega
      have HSH := Lib.hid hshl
      clear hx hqr hshl
      by_cases hr0 : r = 0
      · subst hr0
        have hq : i = 8 * q := by have := HX.out.2; omega
        have e0 : ((i : Int) % 8 == 0) = true := beq_iff_eq.2 (by omega)
        have HQ := Lib.hid hq
        have hown0 := HR.out.2
        rw [show (i + 7) / 8 = q from by omega] at hown0
        have HOW := Lib.hid (fun o => own_kp (W' := wr.alloc o) hown0 (fun k _ hk => Below.heap_alloc _ _ k hk))
        have hqb : q ≤ 1000000000 := by omega
        clear hq hown0
        go_wp2_with (at_builtin; refine wpList_append_own _ rfl (.tmp 16) (.tmp 17) 22 rfl w.heap.size 94 i0 (.int .u64 0) 1 8 Tryz.underlying22 hinf hz0 hz1 hz2 rfl (by decide) _ q _ rfl (HOW.out _) ⟨wr.heap.size, 0, none⟩ 1 1 [.int .u64 0] rfl rfl (one_at _ _ _) (by intro u hu; simp at hu; subst hu; rfl) (by unfold maxLen; omega) (by omega) (by have h1 := HR.out.1.size; simp; omega) ?_; intro v' w7 hown' hgrow _; (obtain ⟨A7, c7, rfl⟩ := own_slice hown'); (have HO := Lib.hid hown'); (have HG := Lib.hid hgrow); clear hown' hgrow)
        have hz : ints (wds (b.take i)) ++ [0] = ints (wds (b.take i)) ++ [0] := rfl
        have hlen : (wds (b.take i)).length = q := by rw [wds_len, List.length_take, ← HN.out]; have := HQ.out; omega
        obtain ⟨g, rfl, hc, hf⟩ := own_at (l := ints (wds (b.take i)) ++ [0]) (i := q) (x := 0) (by rw [ivs_append]; exact HO.out) (by rw [List.getElem?_append_right (by rw [ints_length]; omega), ints_length, hlen]; simp)
        have hsh : Hid (Go.bits .or .u64 0 (IntKind.u64.wrap ((x : Int) * 2 ^ (8 * (i % 8)))) = (x : Int)) := by
          show _ = _
          rw [show i % 8 = 0 from by have := HQ.out; omega]
          have h1 := HSH.out
          rw [h1]
          have := or_add 0 x 0 (by decide) (by simp; omega)
          simpa using this
        have HZ : Hid (w7.ownsRow w.heap.size 94 1 (.slice (some ⟨g, 0, none⟩) (q + 1) c7) (q + 1) (ivs .u64 (ints (wds (b.take i)) ++ [0])) ∧ (ivs .u64 (ints (wds (b.take i)) ++ [0])).set q (.int .u64 x) = ivs .u64 (ints (wds (b.take (i + 1)))) ∧ w.heap.size ≤ g ∧ (i + 1 + 7) / 8 = q + 1) := by
          refine ⟨by rw [ivs_append]; exact HO.out, ?_, own_lo HO.out g rfl, by have := HQ.out; omega⟩
          have h1 := HX.out.1
          rw [HQ.out] at h1
          rw [HQ.out, wds_first HL.out q x h1, ints_append, ivs_append, ivs_append]
          rw [HQ.out] at hlen
          rw [List.set_append, if_neg (by rw [ivs_length, ints_length, hlen]; omega), ivs_length, ints_length, hlen]
          simp [ivs, ints]
        go_region
        go_wp2
        rw [hsh.out]
        go_roundw
        case rel =>
          refine ⟨i + 1, by omega, by go_num, bl_drew (bl_set (bl_grown (bl_alloc HR.out.1 _) HG.out (own_lo HR.out.2)) HZ.out.2.2.1 _), ?_⟩
          have := own_set HZ.out.1 (i := q) (by omega) (.int .u64 x)
          rw [HZ.out.2.1] at this
          rw [HZ.out.2.2.2]
          exact this
        case measure => simp [intOf]; omega
      · have hk : (i + 7) / 8 = q + 1 := by have := HX.out.2; omega
        have e0 : ((i : Int) % 8 == 0) = false := beq_eq_false_iff_ne.2 (by have := HX.out.2; omega)
        have hown0 := HR.out.2
        rw [hk] at hown0
        obtain ⟨A7, c7, rfl⟩ := own_slice hown0
        have hqb : q ≤ 1000000000 := by have := HX.out.2; omega
        have h1 := HX.out.1
        rw [HX.out.2] at h1
        obtain ⟨n1, n2⟩ := wd8_new HL.out q r x hr h1
        rw [← HX.out.2] at n1 n2
        have hlen : (wds (b.take i)).length = q + 1 := by rw [wds_len, List.length_take, ← HN.out, ← hk]; omega
        have hget : (wds (b.take i))[q]? = some (wd8 (b.take i) q) := by rw [wds_get, if_pos (by rw [wds_len] at hlen; omega)]
        obtain ⟨g, rfl, hc, hf⟩ := own_at (l := ints (wds (b.take i))) (i := q) (x := ((wd8 (b.take i) q : Nat) : Int)) hown0 (ints_get hget)
        have hsh : Hid (Go.bits .or .u64 ((wd8 (b.take i) q : Nat) : Int) (IntKind.u64.wrap ((x : Int) * 2 ^ (8 * (i % 8)))) = ((wd8 (b.take i) q + 2 ^ (8 * r) * x : Nat) : Int)) := by
          show _ = _
          rw [show i % 8 = r from by have := HX.out.2; omega, HSH.out]
          exact or_add _ x (8 * r) n2 (by rw [← n1]; exact wd8_lt (fun y hy => HL.out y (List.mem_of_mem_take hy)) q)
        have HZ : Hid (wr.ownsRow w.heap.size 94 1 (.slice (some ⟨g, 0, none⟩) (q + 1) c7) (q + 1) (ivs .u64 (ints (wds (b.take i)))) ∧ (ivs .u64 (ints (wds (b.take i)))).set q (.int .u64 ((wd8 (b.take i) q + 2 ^ (8 * r) * x : Nat) : Int)) = ivs .u64 (ints (wds (b.take (i + 1)))) ∧ w.heap.size ≤ g ∧ (i + 1 + 7) / 8 = q + 1) := by
          refine ⟨hown0, ?_, own_lo hown0 g rfl, by have := HX.out.2; omega⟩
          have hw := wds_next HL.out q r x hr (by omega) h1
          rw [← HX.out.2] at hw
          rw [hw]
          simp [ivs, ints, List.map_set]
        generalize wd8 (b.take i) q = y at *
        clear hown0 n1 n2 hget h1 hk hlen
        go_wp2_with fail
        go_region
        go_wp2
        rw [hsh.out]
        go_roundw
        case rel =>
          refine ⟨i + 1, by omega, by go_num, bl_drew (bl_set HR.out.1 HZ.out.2.2.1 _), ?_⟩
          have := own_set HZ.out.1 (i := q) (by omega) (.int .u64 ((y + 2 ^ (8 * r) * x : Nat) : Int))
          rw [HZ.out.2.1] at this
          rw [HZ.out.2.2.2]
          exact this
        case measure => simp [intOf]; omega
    · obtain rfl : i = n := by omega
      go_wp2_with fail
      go_ret
      have h2 := HR.out.2
      rw [List.take_of_length_le (by rw [← HN.out]; omega)] at h2
      refine ⟨_, rfl, ?_, HR.out.1⟩
      rw [wds_len, ← HN.out]
      exact h2
end Go.Proofs.YtgnagbbdnlmgeaaGreat.Pk
end
section
set_option maxHeartbeats 2000000
set_option maxRecDepth 100000
namespace Go.Proofs.YtgnagbbdnlmgeaaGreat.Bm
open Go Go.RowKit
open Ob Ba Oc Pk
structure Bm (W : World) (B b n : Nat) (l : List Nat) (A : Option Addr) (c : Nat) : Prop where
  box : W.heap[b]? = some (.cells #[.int .i64 n, .slice A l.length c] 182 (0, 0))
  row : W.ownsRow B 94 1 (.slice A l.length c) l.length (ivs .u64 (ints l))
  lo : B ≤ b
  apart : ∀ a, A = some a → a.block ≠ b
  len : l.length = (n + 63) / 64
  lt : ∀ x ∈ l, x < 18446744073709551616
  le : n ≤ 65534
theorem Bm.keep {W W' : World} {B b n : Nat} {l : List Nat} {A : Option Addr} {c : Nat} (h : Bm W B b n l A c) (hb : Below W.heap.size W W') : Bm W' B b n l A c :=
  ⟨blk_bl h.box hb, own_bl h.row hb, h.lo, h.apart, h.len, h.lt, h.le⟩
def bget (l : List Nat) (i : Nat) : Bool := (l.getD (i / 64) 0).testBit (i % 64)
def bhas (n : Nat) (l : List Nat) (i : Int) : Bool := decide (0 ≤ i) && decide (i < n) && bget l i.toNat
theorem bit_and (x r : Nat) (hx : x < 18446744073709551616) : (Go.bits .and .u64 ((x : Int) / 2 ^ r) 1 == 1) = x.testBit r := by
  have e : (x : Int) / 2 ^ r = ((x / 2 ^ r : Nat) : Int) := by norm_cast
  have hlt : x / 2 ^ r < 18446744073709551616 := Nat.lt_of_le_of_lt (Nat.div_le_self _ _) hx
  have hk : IntKind.u64.bits = 64 := rfl
  have h1 : Go.bits .and .u64 ((x / 2 ^ r : Nat) : Int) 1 = ((x / 2 ^ r % 2 : Nat) : Int) := by
    rw [show (1 : Int) = ((1 : Nat) : Int) from rfl]
    simp only [Go.bits, hk, BitVec.ofInt_natCast, BitVec.toNat_and, BitVec.toNat_ofNat]
    rw [show (2 : Nat) ^ 64 = 18446744073709551616 from rfl, Nat.mod_eq_of_lt hlt, Nat.mod_eq_of_lt (by decide : 1 < 18446744073709551616), Nat.and_one_is_mod]
    exact wu64 _ (by omega) (by omega)
  rw [e, h1, Nat.testBit_eq_decide_div_mod_eq]
  by_cases h : x / 2 ^ r % 2 = 1
  · rw [h]; rfl
  · rw [decide_eq_false h]
    exact beq_eq_false_iff_ne.2 (by omega)
theorem has_ {W : World} {B b n : Nat} {l : List Nat} {A : Option Addr} {c : Nat} (h : Bm W B b n l A c) (i : Int) :
    Calls Tryz.prog 94 #[.pointer (some ⟨b, 0, none⟩), .int .i64 i] W fun e w' => e = .returned (.bool (bhas n l i)) ∧ w' = W := by
  have hu := Tryz.underlying182
  have k0 := cell_of h.box 0
  have k1 := cell_of h.box 1
  by_cases h1 : 0 ≤ i
  · by_cases h2 : i < n
    · obtain ⟨j, rfl⟩ : ∃ j : Nat, i = j := ⟨i.toNat, by omega⟩
      have hlen := h.len
      have hj : j < 65534 := by have := h.le; omega
      obtain ⟨x, hx⟩ := some_at (l := l) (i := j / 64) (by omega)
      obtain ⟨g, hA, hc, hf⟩ := own_at h.row (ints_get hx)
      have hx9 := h.lt x (List.mem_of_getElem? hx)
      have hv : bhas n l j = x.testBit (j % 64) := by
        unfold bhas bget
        rw [show (j : Int).toNat = j from rfl, List.getD_eq_getElem?_getD, hx]
        simp [h2]
      have hb := bit_and x (j % 64) hx9
      rw [hv]
      subst hA
      have hjl : (j : Int) / 64 < l.length := by omega
      clear hlen hv hx
      go_enter Tryz.func94, Tryz.ntmps94
      go_wp2_with fail
      go_ret
      exact ⟨rfl, rfl⟩
    · have hv : bhas n l i = false := by unfold bhas; rw [decide_eq_false h2]; simp
      rw [hv]
      go_enter Tryz.func94, Tryz.ntmps94
      go_wp2_with fail
      go_ret
      exact ⟨rfl, rfl⟩
  · have hv : bhas n l i = false := by unfold bhas; rw [decide_eq_false h1]; simp
    rw [hv]
    go_enter Tryz.func94, Tryz.ntmps94
    go_wp2_with fail
    go_ret
    exact ⟨rfl, rfl⟩
def bturn (l : List Nat) (j : Nat) : List Nat := l.set (j / 64) (l.getD (j / 64) 0 ^^^ 2 ^ (j % 64))
def turnF (n : Nat) (was : Bool) (st : List Nat × Nat) (i : Int) : List Nat × Nat := if 0 ≤ i ∧ i < n ∧ bget st.1 i.toNat = was then (bturn st.1 i.toNat, st.2 + 1) else st
def turnL (n : Nat) (was : Bool) (l : List Nat) (xs : List Int) : List Nat × Nat := xs.foldl (turnF n was) (l, 0)
theorem turnL_snoc (n : Nat) (was : Bool) (l : List Nat) (xs : List Int) (x : Int) : turnL n was l (xs ++ [x]) = turnF n was (turnL n was l xs) x := by simp [turnL]
theorem bit_xor (x r : Nat) (hx : x < 18446744073709551616) (hr : r < 64) : Go.bits .xor .u64 (x : Int) (IntKind.u64.wrap (2 ^ r)) = ((x ^^^ 2 ^ r : Nat) : Int) ∧ x ^^^ 2 ^ r < 18446744073709551616 := by
  have hk : IntKind.u64.bits = 64 := rfl
  have h2 : (2 : Nat) ^ r < 18446744073709551616 := Nat.pow_lt_pow_right (by decide) hr
  have e : IntKind.u64.wrap (2 ^ r) = ((2 ^ r : Nat) : Int) := by
    have e2 : (2 ^ r : Int) = ((2 ^ r : Nat) : Int) := by norm_cast
    rw [e2]
    exact wu64 _ (Int.natCast_nonneg _) (Int.lt_of_lt_of_le (Int.ofNat_lt.2 h2) (by decide))
  have hxx : x ^^^ 2 ^ r < 2 ^ 64 := Nat.xor_lt_two_pow hx h2
  refine ⟨?_, hxx⟩
  rw [e]
  simp only [Go.bits, hk, BitVec.ofInt_natCast, BitVec.toNat_xor, BitVec.toNat_ofNat]
  rw [show (2 : Nat) ^ 64 = 18446744073709551616 from rfl, Nat.mod_eq_of_lt hx, Nat.mod_eq_of_lt h2]
  exact wu64 _ (by omega) (by omega)
theorem Bm.turn {W : World} {B b n : Nat} {l : List Nat} {g c : Nat} (h : Bm W B b n l (some ⟨g, 0, none⟩) c) {j x : Nat} (hx : l[j / 64]? = some x) (y : Nat) (hy : y < 18446744073709551616) : Bm (W.setCell ⟨g, j / 64, none⟩ (.int .u64 y)) B b n (l.set (j / 64) y) (some ⟨g, 0, none⟩) c := by
  have hlt := (List.getElem?_eq_some_iff.1 hx).1
  have hne : g ≠ b := h.apart _ rfl
  have e : (ivs .u64 (ints l)).set (j / 64) (.int .u64 y) = ivs .u64 (ints (l.set (j / 64) y)) := by simp [ivs, ints, List.map_set]
  refine ⟨?_, ?_, h.lo, h.apart, by rw [List.length_set]; exact h.len, ?_, h.le⟩
  · rw [List.length_set]
    exact (Below.heap_setCell W _ _ b (fun e => hne e.symm)).trans h.box
  · rw [List.length_set, ← e]
    exact own_set h.row hlt _
  · intro z hz
    rcases List.mem_or_eq_of_mem_set hz with h1 | rfl
    · exact h.lt z h1
    · exact hy
structure Only (A : Option Addr) (w w' : World) : Prop where
  os : w'.os = w.os
  tape : w'.tape = w.tape
  output : w'.output = w.output
  size : w'.heap.size = w.heap.size
  block : ∀ k, (∀ a, A = some a → a.block ≠ k) → w'.heap[k]? = w.heap[k]?
theorem Only.refl (A : Option Addr) (w : World) : Only A w w := ⟨rfl, rfl, rfl, rfl, fun _ _ => rfl⟩
theorem Only.set {w w' : World} {g : Nat} (h : Only (some ⟨g, 0, none⟩) w w') (o : Nat) (v : Value) : Only (some ⟨g, 0, none⟩) w (w'.setCell ⟨g, o, none⟩ v) := by
  have hb : Below 0 w' (w'.setCell ⟨g, o, none⟩ v) := (Below.refl 0 w').setCell (Nat.zero_le _) v
  refine ⟨hb.os.trans h.os, hb.tape.trans h.tape, hb.output.trans h.output, ?_, fun k hk => ?_⟩
  · simpa using h.size
  · exact (Below.heap_setCell w' (⟨g, o, none⟩ : Addr) v k (fun e => hk _ rfl e.symm)).trans (h.block k hk)
theorem Only.drew {A : Option Addr} {w w' : World} (h : Only A w w') : Only A w w'.drew := ⟨h.os, h.tape, h.output, h.size, h.block⟩
theorem Only.below {A : Option Addr} {w w' : World} {B : Nat} (h : Only A w w') (hA : ∀ a, A = some a → B ≤ a.block) : Below B w w' :=
  ⟨h.os, h.tape, h.output, Nat.le_of_eq h.size.symm, fun k hk => h.block k (fun a ha e => by have := hA a ha; omega)⟩
theorem Only.rk {k : IntKind} {A D : Option Addr} {w w' : World} {xs : List Int} (h : Only A w w') (hx : Rk k w D xs) (hD : ∀ a a', D = some a → A = some a' → a'.block ≠ a.block) : Rk k w' D xs :=
  hx.keep (fun a ha => h.block _ (fun a' ha' => hD a a' ha ha')) (Nat.le_of_eq h.size.symm)
theorem Bm.drew {W : World} {B b n : Nat} {l : List Nat} {A : Option Addr} {c : Nat} (h : Bm W B b n l A c) : Bm W.drew B b n l A c := ⟨h.box, h.row, h.lo, h.apart, h.len, h.lt, h.le⟩
theorem turn_ {W : World} {B b n : Nat} {l : List Nat} {A : Option Addr} {c : Nat} (h : Bm W B b n l A c) (was : Bool) {D : Option Addr} {xs : List Int} (hxs : Rk .i64 W D xs) (hD : ∀ a a', D = some a → A = some a' → a'.block ≠ a.block) (cd : Nat) (hn : xs.length ≤ 1000000000) :
    Calls Tryz.prog 119 #[.pointer (some ⟨b, 0, none⟩), .bool was, .slice D xs.length cd] W fun e w' => e = .returned (.int .i64 (turnL n was l xs).2) ∧ Bm w' B b n (turnL n was l xs).1 A c ∧ Only A W w' := by
  have hu := Tryz.underlying182
  have H := Lib.hid h
  have HX := Lib.hid hxs
  have HD := Lib.hid hD
  obtain ⟨m, hm⟩ : ∃ m, m = xs.length := ⟨_, rfl⟩
  rw [← hm]
  rw [← hm] at hn
  have HN := Lib.hid hm
  clear h hxs hD hm
  go_enter Tryz.func119, Tryz.ntmps119
  go_wp2_with fail
  go_loopw [12, 7] (fun c12 c7 wr => ∃ i k : Nat, ∃ l' : List Nat, i ≤ m ∧ c12 = .int .i64 i ∧ c7 = .int .i64 k ∧ k ≤ i ∧ Hid (Bm wr B b n l' A c ∧ Only A W wr ∧ turnL n was l (xs.take i) = (l', k))) (fun c12 _ _ => m - (intOf c12).toNat)
  case atStart => exact ⟨0, 0, l, Nat.zero_le _, rfl, rfl, Nat.le_refl _, H.out, Only.refl _ _, rfl⟩
  case round =>
    obtain ⟨i, k, l', hi, rfl, rfl, hk, HR⟩ := hrel
    by_cases hlt : i < m
    · obtain ⟨x, hx⟩ := some_at (l := xs) (i := i) (by rw [← HN.out]; exact hlt)
      obtain ⟨a, rfl, -, ha⟩ := (HR.out.2.1.rk HX.out HD.out) i x hx
      have k0 := cell_of HR.out.1.box 0
      have HXI := Lib.hid hx
      have HT : Hid (turnL n was l (xs.take (i + 1)) = turnF n was (l', k) x) := by
        show _ = _
        rw [take_next hx, turnL_snoc, HR.out.2.2]
      clear hx
      by_cases h1 : 0 ≤ x
      · by_cases h2 : x < n
        · have HHX := Lib.hid (has_ HR.out.1 x)
          obtain ⟨j, rfl⟩ : ∃ j : Nat, x = j := ⟨x.toNat, by omega⟩
          have hj : j < 65534 := by have := HR.out.1.le; omega
          have hlen := HR.out.1.len
          obtain ⟨y, hy⟩ := some_at (l := l') (i := j / 64) (by omega)
          obtain ⟨g, hA, hc, hf⟩ := own_at HR.out.1.row (ints_get hy)
          subst hA
          have hy9 := HR.out.1.lt y (List.mem_of_getElem? hy)
          obtain ⟨hx1, hx2⟩ := bit_xor y (j % 64) hy9 (by omega)
          have hbg : bhas n l' j = bget l' j := by unfold bhas; simp [h2]
          have k1 := cell_of HR.out.1.box 1
          have hjl : (j : Int) / 64 < l'.length := by omega
          have HTN := Lib.hid (HR.out.1.turn hy (y ^^^ 2 ^ (j % 64)) hx2)
          have HY := Lib.hid hy
          rw [hbg] at HHX
          by_cases h3 : bget l' j = was
          · have HF : Hid (turnF n was (l', k) j = (bturn l' j, k + 1) ∧ bturn l' j = l'.set (j / 64) (y ^^^ 2 ^ (j % 64))) := by
              refine ⟨?_, ?_⟩
              · unfold turnF; rw [if_pos ⟨h1, h2, by rw [show (j : Int).toNat = j from rfl]; exact h3⟩]; rfl
              · unfold bturn; rw [List.getD_eq_getElem?_getD, HY.out]; rfl
            rw [h3] at HHX
            clear h3 hbg hlen hy hx2
            go_wp2_with fail
            refine HHX.out.mono ?_
            rintro e w5 ⟨rfl, rfl⟩
            go_wp2_with fail
            go_region
            go_wp2_with fail
            go_roundw
            case rel =>
              refine ⟨i + 1, k + 1, bturn l' j, by omega, by go_num, by go_num, by omega, ?_, ?_, ?_⟩
              · rw [HF.out.2]; exact HTN.out.drew
              · exact (HR.out.2.1.set _ _).drew
              · rw [HT.out, HF.out.1]
            case measure => simp [intOf]; omega
          · have HF : Hid (turnF n was (l', k) j = (l', k)) := by
              show _ = _
              unfold turnF; rw [if_neg (fun h => h3 (by have := h.2.2; rwa [show (j : Int).toNat = j from rfl] at this))]
            have e3 : (bget l' j == was) = false := beq_eq_false_iff_ne.2 h3
            generalize bget l' j = r at *
            clear h3 hbg hlen hy hx2
            go_wp2_with fail
            refine HHX.out.mono ?_
            rintro e w5 ⟨rfl, rfl⟩
            go_wp2_with fail
            go_roundw
            case rel => exact ⟨i + 1, k, l', by omega, by go_num, rfl, by omega, HR.out.1, HR.out.2.1, by rw [HT.out, HF.out]⟩
            case measure => simp [intOf]; omega
        · have HF : Hid (turnF n was (l', k) x = (l', k)) := by
            show _ = _
            unfold turnF; rw [if_neg (fun h => h2 h.2.1)]
          go_wp2_with fail
          go_roundw
          case rel => exact ⟨i + 1, k, l', by omega, by go_num, rfl, by omega, HR.out.1, HR.out.2.1, by rw [HT.out, HF.out]⟩
          case measure => simp [intOf]; omega
      · have HF : Hid (turnF n was (l', k) x = (l', k)) := by
          show _ = _
          unfold turnF; rw [if_neg (fun h => h1 h.1)]
        go_wp2_with fail
        go_roundw
        case rel => exact ⟨i + 1, k, l', by omega, by go_num, rfl, by omega, HR.out.1, HR.out.2.1, by rw [HT.out, HF.out]⟩
        case measure => simp [intOf]; omega
    · obtain rfl : i = m := by omega
      go_wp2_with fail
      go_ret
      have h2 := HR.out.2.2
      rw [List.take_of_length_le (by rw [← HN.out]; omega)] at h2
      rw [h2]
      exact ⟨rfl, HR.out.1, HR.out.2.1⟩
end Go.Proofs.YtgnagbbdnlmgeaaGreat.Bm
end
section
namespace Go.Proofs.YtgnagbbdnlmgeaaGreat.Mp
open Go
open Go.ChangeMaps (setBlock)
structure Kk (α : Type) [DecidableEq α] where mk0 ::
  mk : α → Value
  kd : TypeDesc
  same : ∀ a b, Instr.sameNow kd (mk a) (mk b) = some (decide (a = b))
  bits : ∀ a, Instr.sameBits 10000 (mk a) (mk a) = true
  chk : ∀ (P : Program) (t : TypeId) (em : Bool) (a : α) (w : World), P.underlying t = some kd → (Instr.checkKey em 10000 t (mk a)).run P w = .ok () w
theorem run_underlying {P : Program} {t : TypeId} {d : TypeDesc} (h : P.underlying t = some d) (w : World) : (underlying t).run P w = .ok d w := by
  unfold underlying
  simp [Sem.run_bind, Sem.run, h, program, Result.andThen]
theorem run_pure {α : Type} {P : Program} (a : α) (w : World) : (pure a : Sem α).run P w = .ok a w := rfl
def kInt (k : IntKind) : Kk Int where
  mk a := .int k a
  kd := .int k
  same a b := by
    simp only [Instr.sameNow, if_true]
    exact congrArg some (by by_cases h : a = b <;> simp [h])
  bits a := by simp [Instr.sameBits]
  chk P t em a w h := by
    unfold Instr.checkKey
    simp only [Sem.run_bind, run_underlying h, Result.andThen]
    rfl
section
variable {α : Type} [DecidableEq α]
abbrev En (α : Type) := α × Value × Nat
def ent (K : Kk α) (x : En α) : MapEntry := ⟨K.mk x.1, x.2.1, x.2.2⟩
def obj (K : Kk α) (es : List (En α)) (clock : Nat) : Obj := .map (es.map (ent K)).toArray clock
theorem find_none (K : Kk α) (k : α) : ∀ (es : List (En α)) (i : Nat), (∀ x ∈ es, x.1 ≠ k) → Instr.findNow K.kd (K.mk k) (es.map (ent K)) i = some none
  | [], _, _ => rfl
  | x :: es, i, h => by
    have hx : ¬ k = x.1 := fun e => h x (by simp) e.symm
    simp only [List.map_cons, Instr.findNow, ent, K.same, hx, decide_false]
    exact find_none K k es (i + 1) (fun y hy => h y (by simp [hy]))
theorem find_some (K : Kk α) (k : α) (v : Value) (b : Nat) (post : List (En α)) : ∀ (pre : List (En α)) (i : Nat), (∀ x ∈ pre, x.1 ≠ k) →
    Instr.findNow K.kd (K.mk k) ((pre ++ (k, v, b) :: post).map (ent K)) i = some (some (i + pre.length, v))
  | [], i, _ => by simp [Instr.findNow, ent, K.same]
  | x :: pre, i, h => by
    have hx : ¬ k = x.1 := fun e => h x (by simp) e.symm
    simp only [List.cons_append, List.map_cons, Instr.findNow, ent, K.same, hx, decide_false]
    have := find_some K k v b post pre (i + 1) (fun y hy => h y (by simp [hy]))
    rw [this]
    simp only [List.length_cons]
    congr 3
    omega
theorem run_find {P : Program} {K : Kk α} {t : TypeId} {k : α} {es : List (En α)} {r : Option (Nat × Value)} (ht : P.underlying t = some K.kd) (h : Instr.findNow K.kd (K.mk k) (es.map (ent K)) 0 = some r) (w : World) :
    (Instr.findKey t (K.mk k) (es.map (ent K))).run P w = .ok r w := by
  unfold Instr.findKey
  simp only [Sem.run_bind, run_underlying ht, Result.andThen, h]
  rfl
variable {P : Program} {t kt et : TypeId} {K : Kk α} {w : World} {M clock : Nat} {es pre post : List (En α)} {k : α} {v v' : Value} {b : Nat}
theorem run_lookup_none (hm : P.underlying t = some (.map kt et)) (hk : P.underlying kt = some K.kd) (hb : w.heap[M]? = some (obj K es clock)) (hn : ∀ x ∈ es, x.1 ≠ k) {z : Value} (hz : (zeroValue et).run P w = .ok z w) :
    (Instr.lookup t (.map (some M)) (K.mk k) false).run P w = .ok z w := by
  unfold Instr.lookup
  simp only [Sem.run_bind, run_underlying hm, Result.andThen, getObj, Sem.run, run_pure, hb, obj, K.chk _ _ _ _ _ hk, run_find hk (find_none K k es 0 hn), hz]
  rfl
theorem run_lookup_some (hm : P.underlying t = some (.map kt et)) (hk : P.underlying kt = some K.kd) (hb : w.heap[M]? = some (obj K (pre ++ (k, v, b) :: post) clock)) (hn : ∀ x ∈ pre, x.1 ≠ k) :
    (Instr.lookup t (.map (some M)) (K.mk k) false).run P w = .ok v w := by
  unfold Instr.lookup
  simp only [Sem.run_bind, run_underlying hm, Result.andThen, getObj, Sem.run, run_pure, hb, obj, K.chk _ _ _ _ _ hk, run_find hk (find_some K k v b post pre 0 hn)]
  rfl
theorem run_setObj {o : Obj} (hb : w.heap[M]? = some (obj K es clock)) : (setObj M o).run P w = .ok () (setBlock w M o) := by
  simp [setObj, Sem.run, hb, setBlock, obj]
theorem run_update_new (hm : P.underlying t = some (.map kt et)) (hk : P.underlying kt = some K.kd) (hb : w.heap[M]? = some (obj K es clock)) (hn : ∀ x ∈ es, x.1 ≠ k) :
    (Instr.mapUpdate t (.map (some M)) (K.mk k) v).run P w = .ok () (setBlock w M (obj K (es ++ [(k, v, clock)]) (clock + 1))) := by
  have hb' := hb
  unfold obj at hb'
  unfold Instr.mapUpdate
  simp only [Sem.run_bind, run_underlying hm, Result.andThen, getObj, Sem.run, run_pure, hb', K.chk _ _ _ _ _ hk, run_find hk (find_none K k es 0 hn), run_setObj hb]
  congr 2
  simp [obj, ent]
theorem run_delete_some {ts : Array TypeId} {ty : TypeId} (hts : ts = #[t, kt]) (hm : P.underlying t = some (.map kt et)) (hk : P.underlying kt = some K.kd) (hb : w.heap[M]? = some (obj K (pre ++ (k, v, b) :: post) clock)) (hn : ∀ x ∈ pre, x.1 ≠ k) :
    (Builtin.delete_ ts ty #[.map (some M), K.mk k]).run P w = .ok (.tuple #[]) (setBlock w M (obj K (pre ++ post) clock)) := by
  subst hts
  have hb' := hb
  unfold obj at hb'
  unfold Builtin.delete_
  simp only [List.getElem?_toArray, List.getElem?_cons_zero, List.getElem?_cons_succ, Sem.run_bind, run_underlying hm, Result.andThen, getObj, Sem.run, run_pure, hb', K.chk _ _ _ _ _ hk, run_find hk (find_some K k v b post pre 0 hn), run_setObj hb]
  have e : ((pre ++ (k, v, b) :: post).map (ent K)).toArray.eraseIdxIfInBounds (0 + pre.length) = ((pre ++ post).map (ent K)).toArray := by
    apply Array.ext'
    simp [Array.eraseIdxIfInBounds]
    rw [List.eraseIdx_append_of_length_le (by simp)]
    simp
  rw [e]
  rfl
theorem run_range (hm : P.underlying t = some (.map kt et)) (hb : w.heap[M]? = some (obj K es clock)) :
    (Instr.range t (.map (some M))).run P w = .ok (.pointer (some ⟨w.heap.size, 0, none⟩)) (w.alloc (.mapIter (some M) clock #[] clock)) := by
  unfold obj at hb
  unfold Instr.range
  simp only [Sem.run_bind, run_underlying hm, Result.andThen, getObj, Sem.run, run_pure, hb, newObj]
  rfl
theorem run_next {r : Nat} {seen : Array Nat} (ty : TypeId) (hr : w.heap[r]? = some (.mapIter (some M) clock seen clock)) (hb : w.heap[M]? = some (obj K es clock)) (hold : ∀ x ∈ es, x.2.2 < clock) :
    ((∀ x ∈ es, x.2.2 ∈ seen) ∧ (Instr.next (.pointer (some ⟨r, 0, none⟩)) false ty).run P w = .ok (.tuple #[.bool false]) w) ∨
    ∃ x ∈ es, x.2.2 ∉ seen ∧ ∃ w1 : World, (w1 = w ∨ w1 = w.drew) ∧ (Instr.next (.pointer (some ⟨r, 0, none⟩)) false ty).run P w = .ok (.tuple #[.bool true, K.mk x.1, x.2.1]) (setBlock w1 r (.mapIter (some M) clock (seen.push x.2.2) clock)) := by
  rcases run_next_at (P := P) w ty r M clock clock seen _ clock hr hb (fun x hx => by
      simp only [List.mem_map] at hx
      obtain ⟨y, hy, rfl⟩ := hx
      exact hold y hy) (Nat.le_refl _) with ⟨h0, hrun⟩ | ⟨e, he, w1, hw1, hrun⟩
  · refine .inl ⟨fun x hx => ?_, hrun⟩
    apply Classical.byContradiction
    intro hn
    have : ent K x ∈ (leftOf (es.map (ent K)).toArray seen) := by
      unfold leftOf
      simp [ent]
      exact ⟨⟨x.1, x.2.1, x.2.2, hx, rfl, rfl, rfl⟩, hn⟩
    have hz : leftOf (es.map (ent K)).toArray seen = #[] := Array.eq_empty_of_size_eq_zero h0
    rw [hz] at this
    simp at this
  · refine .inr ?_
    unfold leftOf at he
    simp at he
    obtain ⟨⟨a, c, d, hx, rfl⟩, hn⟩ := he
    exact ⟨(a, c, d), hx, hn, w1, hw1, hrun⟩
theorem run_entry {r : Nat} {seen : Array Nat} {x : En α} (hr : w.heap[r]? = some (.mapIter (some M) clock (seen.push x.2.2) clock)) (hb : w.heap[M]? = some (obj K es clock)) (hx : x ∈ es) (hnd : (es.map (·.2.2)).Nodup) :
    (Instr.entry (.pointer (some ⟨r, 0, none⟩))).run P w = .ok (.tuple #[K.mk x.1, x.2.1]) w :=
  run_entry_at (P := P) w r M clock seen _ clock (ent K x) hr hb (by simp; exact ⟨x.1, x.2.1, x.2.2, hx, rfl⟩) (by simp [Function.comp_def, ent]; exact hnd)
end
end Go.Proofs.YtgnagbbdnlmgeaaGreat.Mp
end
section
namespace Go.Proofs.YtgnagbbdnlmgeaaGreat.Dv
open Go Go.RowKit
open Go.ChangeMaps (setBlock)
open Ob Mp
structure Pen where
  l : List Int
  fl : Nat
deriving DecidableEq
structure Dev where
  steps : Nat
  stores : Nat
  las : List Int
  opn : List (Int × Pen)
  fuse : Option Nat
def u64s (l : List Int) : List Value := l.map (Value.int .u64)
theorem u64s_length (l : List Int) : (u64s l).length = l.length := by simp [u64s]
structure Dev.Wf (d : Dev) : Prop where
  len : d.las.length ≤ 4194304
  keys : (d.opn.map (·.1)).Nodup
  lo : ∀ x ∈ d.opn, 0 ≤ x.1
  hi : ∀ x ∈ d.opn, x.1 < d.las.length
  ne : ∀ x ∈ d.opn, x.2.l ≠ []
  fl : ∀ x ∈ d.opn, x.2.fl ≤ x.2.l.length
  few : ∀ x ∈ d.opn, x.2.l.length ≤ d.stores
  st : d.stores ≤ d.steps
  lim : d.steps ≤ 1099511627776
  fuse : ∀ n, d.fuse = some n → n ≤ 9223372036854775807
structure Ent where
  key : Int
  born : Nat
  p : Nat
  q : Nat
  off : Nat
  cap : Nat
  pen : Pen
def EntAt (w : World) (x : Ent) : Prop :=
  w.heap[x.p]? = some (.cells #[.slice (some ⟨x.q, x.off, none⟩) x.pen.l.length x.cap, .int .i64 x.pen.fl] 149 (0, 0)) ∧
  ∃ cs, w.heap[x.q]? = some (.cells cs 94 (0, 0)) ∧ x.off + x.cap ≤ cs.size ∧ x.pen.l.length ≤ x.cap ∧ ∀ (j : Nat) v, x.pen.l[j]? = some v → cs[x.off + j]? = some (.int .u64 v)
def Ent.en (x : Ent) : En Int := (x.key, .pointer (some ⟨x.p, 0, none⟩), x.born)
structure Lay where
  A : Option Addr
  c : Nat
  Ls : List Nat
  M : Nat
  clock : Nat
  es : List Ent
def Lay.ents (g : Lay) : List Nat := g.es.flatMap fun x => [x.p, x.q]
def Lay.foot (g : Lay) (b : Nat) : List Nat := b :: g.M :: (g.Ls ++ g.ents)
def cellsOf (d : Dev) (g : Lay) : Array Value :=
  #[.int .i64 d.steps, .int .i64 d.stores, .slice g.A d.las.length g.c, .map (some g.M), .bool d.fuse.isSome, .int .i64 (d.fuse.getD 0)]
structure DevIs (w : World) (b : Nat) (d : Dev) (g : Lay) : Prop where
  blk : w.heap[b]? = some (.cells (cellsOf d g) 146 (0, 0))
  las : Sl w 94 g.A g.c (u64s d.las) g.Ls
  map : w.heap[g.M]? = some (obj (kInt .i64) (g.es.map Ent.en) g.clock)
  ents : ∀ x ∈ g.es, EntAt w x
  opn : d.opn = g.es.map fun x => (x.key, x.pen)
  nd : (g.foot b).Nodup
  bnd : (g.es.map (·.born)).Nodup
  old : ∀ x ∈ g.es, x.born < g.clock
  wf : d.Wf
theorem EntAt.keep {w w' : World} {x : Ent} (h : EntAt w x) (hp : w'.heap[x.p]? = w.heap[x.p]?) (hq : w'.heap[x.q]? = w.heap[x.q]?) : EntAt w' x := by
  obtain ⟨h1, cs, h2, r⟩ := h
  exact ⟨hp.trans h1, cs, hq.trans h2, r⟩
theorem mem_ents {g : Lay} {x : Ent} (h : x ∈ g.es) : x.p ∈ g.ents ∧ x.q ∈ g.ents := by
  unfold Lay.ents
  simp only [List.mem_flatMap]
  exact ⟨⟨x, h, by simp⟩, ⟨x, h, by simp⟩⟩
theorem DevIs.lt {w : World} {b : Nat} {d : Dev} {g : Lay} (h : DevIs w b d g) : ∀ k ∈ g.foot b, k < w.heap.size := by
  intro k hk
  simp only [Lay.foot, List.mem_cons, List.mem_append] at hk
  rcases hk with rfl | rfl | hk | hk
  · exact lt_of h.blk
  · exact lt_of h.map
  · obtain ⟨_, ⟨_, hq⟩ | ⟨q, off, cs, _, hq, hb, _⟩⟩ := h.las
    · rw [hq] at hk; simp at hk
    · rw [hq] at hk; simp at hk; subst hk; exact lt_of hb
  · simp only [Lay.ents, List.mem_flatMap] at hk
    obtain ⟨x, hx, hk⟩ := hk
    obtain ⟨h1, cs, h2, _⟩ := h.ents x hx
    simp at hk
    rcases hk with rfl | rfl
    · exact lt_of h1
    · exact lt_of h2
theorem DevIs.keep {w w' : World} {b : Nat} {d : Dev} {g : Lay} (h : DevIs w b d g) (hk : ∀ k ∈ g.foot b, w'.heap[k]? = w.heap[k]?) : DevIs w' b d g :=
  ⟨(hk b (by simp [Lay.foot])).trans h.blk, h.las.keep (fun q hq => hk q (by simp [Lay.foot, hq])), (hk g.M (by simp [Lay.foot])).trans h.map,
   fun x hx => (h.ents x hx).keep (hk _ (by simp [Lay.foot, (mem_ents hx).1])) (hk _ (by simp [Lay.foot, (mem_ents hx).2])), h.opn, h.nd, h.bnd, h.old, h.wf⟩
theorem DevIs.below {w w' : World} {b : Nat} {d : Dev} {g : Lay} (h : DevIs w b d g) (hu : Below w.heap.size w w') : DevIs w' b d g :=
  h.keep (fun k hk => hu.block k (h.lt k hk))
theorem DevIs.drewN {w : World} {b : Nat} {d : Dev} {g : Lay} (h : DevIs w b d g) (n : Nat) : DevIs (w.drewN n) b d g := h.keep (fun _ _ => rfl)
def DevTo (w w' : World) (b : Nat) (g : Lay) (d' : Dev) : Prop :=
  ∃ g', DevIs w' b d' g' ∧ (∀ k ∈ g'.foot b, k ∈ g.foot b ∨ w.heap.size ≤ k) ∧ Upd (g.foot b) w w'
def Dev.find (d : Dev) (k : Int) : Option Pen := (d.opn.find? fun x => decide (x.1 = k)).map (·.2)
def Dev.inn (d : Dev) (k : Int) : Bool := decide (0 ≤ k) && decide (k < d.las.length)
def Dev.lasting (d : Dev) (k : Int) : Int := if d.inn k then d.las.getD k.toNat 0 else 0
def Dev.load (d : Dev) (k : Int) : Int := match d.find k with
  | some p => p.l.getD (p.l.length - 1) 0
  | none => d.lasting k
def Dev.down (d : Dev) : Bool := decide (d.fuse = some 0)
def Dev.stepped (d : Dev) (store : Bool) : Dev := { d with steps := d.steps + 1, stores := d.stores + (if store then 1 else 0), fuse := d.fuse.map (· - 1) }
def putPen (k x : Int) (l : List (Int × Pen)) : List (Int × Pen) := l.map fun y => if y.1 = k then (y.1, ⟨y.2.l ++ [x], y.2.fl⟩) else y
def Dev.storeOk (d : Dev) (k : Int) : Bool := d.inn k && !d.down
def Dev.stored (d : Dev) (k x : Int) : Dev :=
  if d.storeOk k then { d.stepped true with opn := if (d.find k).isSome then putPen k x d.opn else d.opn ++ [(k, ⟨[x], 0⟩)] } else d
def Dev.flushOk (d : Dev) (line : Int) : Bool := decide (0 ≤ line) && decide (8 * line < d.las.length) && !d.down
def flushPen (line : Int) (y : Int × Pen) : Int × Pen := if y.1 / 8 = line then (y.1, ⟨y.2.l, y.2.l.length⟩) else y
def Dev.flushed (d : Dev) (line : Int) : Dev := if d.flushOk line then { d.stepped false with opn := d.opn.map (flushPen line) } else d
def fencePen (y : Int × Pen) : Option (Int × Pen) :=
  if y.2.fl = 0 then some y else if y.2.l.length ≤ y.2.fl then none else some (y.1, ⟨y.2.l.drop y.2.fl, 0⟩)
def fenceWord (l : List (Int × Pen)) (i : Nat) (v : Int) : Int := match l.find? (fun x => decide (x.1 = (i : Int))) with
  | some y => if y.2.fl = 0 then v else y.2.l.getD (y.2.fl - 1) 0
  | none => v
def Dev.fenced (d : Dev) : Dev := if d.down then d else { d.stepped false with opn := d.opn.filterMap fencePen, las := d.las.mapIdx (fenceWord d.opn) }
def Dev.may (d : Dev) (k : Int) : List Int := if d.inn k then d.las.getD k.toNat 0 :: ((d.find k).map (·.l)).getD [] else []
end Go.Proofs.YtgnagbbdnlmgeaaGreat.Dv
end
section
set_option maxHeartbeats 400000
namespace Go.Proofs.YtgnagbbdnlmgeaaGreat.Pm
open Go Go.RowKit
open Go.ChangeMaps (setBlock)
open Ob Mp Dv
theorem dev_cells {w : World} {b : Nat} {d : Dev} {g : Lay} (h : DevIs w b d g) :
    w.cell? ⟨b, 0, none⟩ = some (.int .i64 d.steps) ∧ w.cell? ⟨b, 1, none⟩ = some (.int .i64 d.stores) ∧ w.cell? ⟨b, 2, none⟩ = some (.slice g.A d.las.length g.c) ∧
    w.cell? ⟨b, 3, none⟩ = some (.map (some g.M)) ∧ w.cell? ⟨b, 4, none⟩ = some (.bool d.fuse.isSome) ∧ w.cell? ⟨b, 5, none⟩ = some (.int .i64 (d.fuse.getD 0)) := by
  refine ⟨?_, ?_, ?_, ?_, ?_, ?_⟩ <;> (rw [cell_of h.blk]; rfl)
theorem dev_free {w : World} {b : Nat} {d : Dev} {g : Lay} (h : DevIs w b d g) (i : Nat) : w.frozen? ⟨b, i, none⟩ = false := free_of h.blk i
theorem len_any {w : World} {b : Nat} {d : Dev} {g : Lay} (h : DevIs w b d g) :
    Calls Tryz.prog 170 #[.pointer (some ⟨b, 0, none⟩)] w fun e w' => e = .returned (.int .i64 d.las.length) ∧ w = w' := by
  obtain ⟨c0, c1, c2, c3, c4, c5⟩ := dev_cells h
  go_enter Tryz.func170, Tryz.ntmps170
  go_wp2
  go_ret
  exact ⟨rfl, rfl⟩
theorem in_any {w : World} {b : Nat} {d : Dev} {g : Lay} (h : DevIs w b d g) (k : Int) :
    Calls Tryz.prog 173 #[.pointer (some ⟨b, 0, none⟩), .int .i64 k] w fun e w' => e = .returned (.bool (d.inn k)) ∧ w = w' := by
  obtain ⟨c0, c1, c2, c3, c4, c5⟩ := dev_cells h
  by_cases h0 : 0 ≤ k
  · by_cases h1 : k < d.las.length
    · have e : d.inn k = true := by simp [Dev.inn, h0, h1]
      rw [e]
      clear e
      go_enter Tryz.func173, Tryz.ntmps173
      go_wp2
      go_ret
      exact ⟨rfl, rfl⟩
    · have e : d.inn k = false := by simp [Dev.inn, h1]
      rw [e]
      clear e
      go_enter Tryz.func173, Tryz.ntmps173
      go_wp2
      go_ret
      exact ⟨rfl, rfl⟩
  · have e : d.inn k = false := by simp [Dev.inn, h0]
    rw [e]
    clear e
    go_enter Tryz.func173, Tryz.ntmps173
    go_wp2
    go_ret
    exact ⟨rfl, rfl⟩
theorem down_any {w : World} {b : Nat} {d : Dev} {g : Lay} (h : DevIs w b d g) :
    Calls Tryz.prog 192 #[.pointer (some ⟨b, 0, none⟩)] w fun e w' => e = .returned (.bool d.down) ∧ w = w' := by
  obtain ⟨c0, c1, c2, c3, c4, c5⟩ := dev_cells h
  unfold Dev.down
  cases hf : d.fuse with
  | none =>
    simp only [hf, Option.isSome_none, Option.getD_none] at c4 c5
    clear c0 c1 c2 c3
    go_enter Tryz.func192, Tryz.ntmps192
    go_wp2
    go_ret
    exact ⟨rfl, rfl⟩
  | some n =>
    simp only [hf, Option.isSome_some, Option.getD_some] at c4 c5
    clear c0 c1 c2 c3 hf
    cases n with
    | zero =>
      go_enter Tryz.func192, Tryz.ntmps192
      go_wp2
      go_ret
      exact ⟨rfl, rfl⟩
    | succ n =>
      have e : ((n + 1 : Nat) : Int) ≠ 0 := by omega
      have e0 : decide (some (n + 1) = some 0) = false := by simp
      rw [e0]
      have e1 : (((n + 1 : Nat) : Int) == 0) = false := by simp; omega
      go_enter Tryz.func192, Tryz.ntmps192
      go_wp2
      go_ret
      exact ⟨rfl, rfl⟩
theorem steps_any {w : World} {b : Nat} {d : Dev} {g : Lay} (h : DevIs w b d g) :
    Calls Tryz.prog 38 #[.pointer (some ⟨b, 0, none⟩)] w fun e w' => e = .returned (.int .i64 d.steps) ∧ w = w' := by
  obtain ⟨c0, c1, c2, c3, c4, c5⟩ := dev_cells h
  go_enter Tryz.func38, Tryz.ntmps38
  go_wp2
  go_ret
  exact ⟨rfl, rfl⟩
end Go.Proofs.YtgnagbbdnlmgeaaGreat.Pm
end
section
set_option maxHeartbeats 400000
namespace Go.Proofs.YtgnagbbdnlmgeaaGreat.Pm
open Go Go.RowKit
open Go.ChangeMaps (setBlock)
open Ob Mp Dv
theorem inn_true {d : Dev} {k : Int} (h : d.inn k = true) : ∃ n : Nat, k = n ∧ n < d.las.length := by
  simp [Dev.inn] at h
  exact ⟨k.toNat, by omega, by omega⟩
theorem lasting_any {w : World} {b : Nat} {d : Dev} {g : Lay} (h : DevIs w b d g) (k : Int) :
    Calls Tryz.prog 137 #[.pointer (some ⟨b, 0, none⟩), .int .i64 k] w fun e w' => e = .returned (.int .u64 (d.lasting k)) ∧ w = w' := by
  obtain ⟨c0, c1, c2, c3, c4, c5⟩ := dev_cells h
  clear c0 c1 c3 c4 c5
  have hc := in_any h k
  cases hi : d.inn k with
  | true =>
    obtain ⟨n, rfl, hn⟩ := inn_true hi
    have hv : (u64s d.las)[n]? = some (.int .u64 (d.las.getD n 0)) := by simp [u64s, hn]
    obtain ⟨q, off, cs, hA, -, hb, -, hcell, -⟩ := h.las.at_ hv
    have e : d.lasting n = d.las.getD n 0 := by simp [Dev.lasting, hi]
    rw [hA] at c2
    rw [e]
    rw [hi] at hc
    clear hi e hA hv hb
    generalize d.las.getD n 0 = v at *
    have HC := Lib.hid hc
    clear hc h
    go_enter Tryz.func137, Tryz.ntmps137
    go_wp2_with (go_at_call 173; refine HC.out.mono ?_; rintro e w' ⟨rfl, rfl⟩)
    go_ret
    exact ⟨rfl, rfl⟩
  | false =>
    have e : d.lasting k = 0 := by simp [Dev.lasting, hi]
    rw [e]
    rw [hi] at hc
    clear hi e
    have HC := Lib.hid hc
    clear hc h
    go_enter Tryz.func137, Tryz.ntmps137
    go_wp2_with (go_at_call 173; refine HC.out.mono ?_; rintro e w' ⟨rfl, rfl⟩)
    go_ret
    exact ⟨rfl, rfl⟩
theorem find_split : ∀ (es : List Ent) (k : Int), (∀ x ∈ es, x.key ≠ k) ∨ ∃ pre x post, es = pre ++ x :: post ∧ x.key = k ∧ ∀ y ∈ pre, y.key ≠ k
  | [], _ => .inl (by simp)
  | x :: es, k => by
    by_cases hx : x.key = k
    · exact .inr ⟨[], x, es, rfl, hx, by simp⟩
    · rcases find_split es k with h | ⟨pre, y, post, rfl, hy, hp⟩
      · exact .inl (by simp [hx]; exact h)
      · exact .inr ⟨x :: pre, y, post, rfl, hy, by simp [hx]; exact hp⟩
theorem find_of_none {d : Dev} {g : Lay} (ho : d.opn = g.es.map fun x => (x.key, x.pen)) {k : Int} (hn : ∀ x ∈ g.es, x.key ≠ k) : d.find k = none := by
  unfold Dev.find
  rw [ho]
  simp only [Option.map_eq_none_iff, List.find?_eq_none, List.mem_map]
  rintro _ ⟨x, hx, rfl⟩
  simpa using hn x hx
theorem find_of_some {d : Dev} {g : Lay} (ho : d.opn = g.es.map fun x => (x.key, x.pen)) {pre post : List Ent} {x : Ent} (he : g.es = pre ++ x :: post) (hp : ∀ y ∈ pre, y.key ≠ x.key) : d.find x.key = some x.pen := by
  unfold Dev.find
  rw [ho, he, List.map_append, List.map_cons, List.find?_append]
  have : (List.map (fun x => (x.key, x.pen)) pre).find? (fun y => decide (y.1 = x.key)) = none := by
    simp only [List.find?_eq_none, List.mem_map]
    rintro _ ⟨y, hy, rfl⟩
    simpa using hp y hy
  rw [this]
  simp
theorem zero_ptr (w : World) : (zeroValue 147).run Tryz.prog w = .ok (.pointer none) w := by kernel_rfl
theorem look_none {w : World} {b : Nat} {d : Dev} {g : Lay} (h : DevIs w b d g) {k : Int} (hn : ∀ x ∈ g.es, x.key ≠ k) :
    (Instr.lookup 144 (.map (some g.M)) (.int .i64 k) false).run Tryz.prog w = .ok (.pointer none) w :=
  run_lookup_none (K := kInt .i64) (k := k) Tryz.underlying144 Tryz.underlying3 h.map (by simp only [List.mem_map]; rintro _ ⟨x, hx, rfl⟩; exact hn x hx) (zero_ptr w)
theorem look_some {w : World} {b : Nat} {d : Dev} {g : Lay} (h : DevIs w b d g) {pre post : List Ent} {x : Ent} (he : g.es = pre ++ x :: post) (hp : ∀ y ∈ pre, y.key ≠ x.key) :
    (Instr.lookup 144 (.map (some g.M)) (.int .i64 x.key) false).run Tryz.prog w = .ok (.pointer (some ⟨x.p, 0, none⟩)) w := by
  have hm := h.map
  rw [he, List.map_append, List.map_cons] at hm
  exact run_lookup_some (K := kInt .i64) (k := x.key) (b := x.born) Tryz.underlying144 Tryz.underlying3 hm (by simp only [List.mem_map]; rintro _ ⟨y, hy, rfl⟩; exact hp y hy)
theorem load_any {w : World} {b : Nat} {d : Dev} {g : Lay} (h : DevIs w b d g) (k : Int) :
    Calls Tryz.prog 82 #[.pointer (some ⟨b, 0, none⟩), .int .i64 k] w fun e w' => e = .returned (.int .u64 (d.load k)) ∧ ∃ n, w' = w.drewN n := by
  obtain ⟨c0, c1, c2, c3, c4, c5⟩ := dev_cells h
  clear c0 c1 c2 c4 c5
  have hc := lasting_any h k
  rcases find_split g.es k with hn | ⟨pre, x, post, he, rfl, hp⟩
  · have e : d.load k = d.lasting k := by simp [Dev.load, find_of_none h.opn hn]
    have hl := look_none h hn
    rw [e]
    clear e hn
    have HC := Lib.hid hc
    clear hc h
    go_enter Tryz.func82, Tryz.ntmps82
    go_wp2_with (go_at_call 137; refine HC.out.mono ?_; rintro e w' ⟨rfl, rfl⟩)
    go_ret
    exact ⟨rfl, 0, rfl⟩
  · have hl := look_some h he hp
    have hx : x ∈ g.es := by rw [he]; simp
    obtain ⟨e1, cs, e2, hcap, hlc, hat⟩ := h.ents x hx
    have hne : x.pen.l ≠ [] := h.wf.ne (x.key, x.pen) (by rw [h.opn]; exact List.mem_map.2 ⟨x, hx, rfl⟩)
    have hpos : 0 < x.pen.l.length := List.length_pos_iff.2 hne
    have few : x.pen.l.length ≤ 1099511627776 := Nat.le_trans (h.wf.few (x.key, x.pen) (by rw [h.opn]; exact List.mem_map.2 ⟨x, hx, rfl⟩)) (Nat.le_trans h.wf.st h.wf.lim)
    have e : d.load x.key = x.pen.l.getD (x.pen.l.length - 1) 0 := by simp [Dev.load, find_of_some h.opn he hp]
    have hv := hat (x.pen.l.length - 1) (x.pen.l.getD (x.pen.l.length - 1) 0) (by rw [List.getD_eq_getElem?_getD, List.getElem?_eq_getElem (by omega)]; rfl)
    rw [e]
    have p0 : w.cell? ⟨x.p, 0, none⟩ = some (.slice (some ⟨x.q, x.off, none⟩) x.pen.l.length x.cap) := by rw [cell_of e1]; rfl
    have v0 : w.cell? ⟨x.q, x.off + (x.pen.l.length - 1), none⟩ = some (.int .u64 (x.pen.l.getD (x.pen.l.length - 1) 0)) := by rw [cell_of e2]; exact hv
    clear e hv hat e1 e2 hp he hne hx hc h
    generalize x.pen.l.getD (x.pen.l.length - 1) 0 = v at *
    generalize x.pen.l.length = n at *
    go_enter Tryz.func82, Tryz.ntmps82
    go_wp2
    go_quiet (fail)
    go_wp2
    go_ret
    exact ⟨rfl, _, rfl⟩
end Go.Proofs.YtgnagbbdnlmgeaaGreat.Pm
end
section
set_option maxHeartbeats 400000
namespace Go.Proofs.YtgnagbbdnlmgeaaGreat.Pm
open Go Go.RowKit
open Go.ChangeMaps (setBlock)
open Ob Mp Dv
theorem dev_own {w w' : World} {b : Nat} {d d' : Dev} {g : Lay} (h : DevIs w b d g) (hb : w'.heap[b]? = some (.cells (cellsOf d' g) 146 (0, 0))) (hu : Upd [b] w w')
    (hl : d'.las = d.las) (ho : d'.opn = d.opn) (hw : d'.Wf) : DevIs w' b d' g := by
  have hnd := h.nd
  have hk : ∀ k ∈ g.foot b, k ≠ b → w'.heap[k]? = w.heap[k]? := fun k hk hne => hu.block k (h.lt k hk) (by simpa using hne)
  have hne : ∀ k, k ∈ g.M :: (g.Ls ++ g.ents) → k ≠ b := by
    intro k hk1 e
    subst e
    simp only [Lay.foot] at hnd
    exact (List.nodup_cons.1 hnd).1 hk1
  have hk' : ∀ k ∈ g.M :: (g.Ls ++ g.ents), w'.heap[k]? = w.heap[k]? := fun k hk1 => hk k (by simp only [Lay.foot]; exact List.mem_cons_of_mem _ hk1) (hne k hk1)
  refine ⟨hb, ?_, (hk' _ (by simp)).trans h.map, fun x hx => (h.ents x hx).keep (hk' _ (by simp [(mem_ents hx).1])) (hk' _ (by simp [(mem_ents hx).2])), by rw [ho]; exact h.opn, hnd, h.bnd, h.old, hw⟩
  rw [hl]
  exact h.las.keep (fun q hq => hk' q (by simp [hq]))
theorem stepped_wf {d : Dev} (h : d.Wf) (store : Bool) (hlim : d.steps < 1099511627776) : (d.stepped store).Wf := by
  refine ⟨h.len, h.keys, h.lo, h.hi, h.ne, h.fl, fun x hx => ?_, ?_, ?_, fun n hn => ?_⟩
  · have := h.few x hx
    simp only [Dev.stepped]
    omega
  · have := h.st
    simp only [Dev.stepped]
    cases store <;> simp <;> omega
  · simp only [Dev.stepped]
    omega
  · simp only [Dev.stepped, Option.map_eq_some_iff] at hn
    obtain ⟨m, hm, rfl⟩ := hn
    have := h.fuse m hm
    omega
theorem set_b {w : World} {b : Nat} {t : TypeId} {cs : Array Value} (h : w.heap[b]? = some (.cells cs t (0, 0))) (i : Nat) (u : Value) {cs' : Array Value} (e : cs.setIfInBounds i u = cs') :
    (w.setCell ⟨b, i, none⟩ u).heap[b]? = some (.cells cs' t (0, 0)) := by rw [set_same h, e]
def inc (store : Bool) (y : Int) : Int := if store then y + 1 else y
theorem did_any {w : World} {b : Nat} (x y : Int) (hx0 : 0 ≤ x) (hx : x < 1099511627776) (hy0 : 0 ≤ y) (hy : y < 1099511627776) (c2 c3 c4 c5 : Value)
    (hb : w.heap[b]? = some (.cells #[.int .i64 x, .int .i64 y, c2, c3, c4, c5] 146 (0, 0))) (store : Bool) :
    Calls Tryz.prog 193 #[.pointer (some ⟨b, 0, none⟩), .bool store] w fun e w' => e = .returned (.tuple #[]) ∧ Upd [b] w w' ∧
      w'.heap[b]? = some (.cells #[.int .i64 (x + 1), .int .i64 (inc store y), c2, c3, c4, c5] 146 (0, 0)) := by
  have h0 : w.cell? ⟨b, 0, none⟩ = some (.int .i64 x) := by rw [cell_of hb]; rfl
  have h1 : w.cell? ⟨b, 1, none⟩ = some (.int .i64 y) := by rw [cell_of hb]; rfl
  have f0 := free_of hb 0
  have f1 := free_of hb 1
  have HB := Lib.hid hb
  clear hb
  cases store with
  | true =>
    go_enter Tryz.func193, Tryz.ntmps193
    go_wp2
    go_end0
    exact ⟨rfl, ((Upd.refl _ _).setCell (by simp) _).setCell (by simp) _, set_b (set_b HB.out 0 (.int .i64 (x + 1)) rfl) 1 (.int .i64 (y + 1)) rfl⟩
  | false =>
    go_enter Tryz.func193, Tryz.ntmps193
    go_wp2
    go_end0
    exact ⟨rfl, (Upd.refl _ _).setCell (by simp) _, set_b HB.out 0 (.int .i64 (x + 1)) rfl⟩
theorem step_down {w : World} {b : Nat} {d : Dev} {g : Lay} (h : DevIs w b d g) (hd : d.down = true) (store : Bool) :
    Calls Tryz.prog 184 #[.pointer (some ⟨b, 0, none⟩), .bool store] w fun e w' => e = .returned (.bool false) ∧ w = w' := by
  have hc := down_any h
  rw [hd] at hc
  have HC := Lib.hid hc
  clear hc h hd
  go_enter Tryz.func184, Tryz.ntmps184
  go_wp2_with (go_at_call 192; refine HC.out.mono ?_; rintro e w' ⟨rfl, rfl⟩)
  go_ret
  exact ⟨rfl, rfl⟩
theorem step_go {w : World} {b : Nat} {d : Dev} {g : Lay} (h : DevIs w b d g) (hd : d.down = false) (hlim : d.steps < 1099511627776) (store : Bool) :
    Calls Tryz.prog 184 #[.pointer (some ⟨b, 0, none⟩), .bool store] w fun e w' => e = .returned (.bool true) ∧ Upd [b] w w' ∧ DevIs w' b (d.stepped store) g := by
  have hc := down_any h
  rw [hd] at hc
  have HC := Lib.hid hc
  have hw := stepped_wf h.wf store hlim
  have hst := h.wf.st
  have hfu := h.wf.fuse
  obtain ⟨c0, c1, c2, c3, c4, c5⟩ := dev_cells h
  have f5 := dev_free h 5
  have H := Lib.hid h
  have W := Lib.hid hw
  have hblk := h.blk
  clear hc h c0 c1 c2 c3 hw
  cases hf : d.fuse with
  | none =>
    rw [hf] at c4 c5
    simp only [Option.isSome_none, Option.getD_none] at c4 c5
    have hdid := did_any (d.steps : Int) (d.stores : Int) (by omega) (by omega) (by omega) (by omega) _ _ _ _ hblk store
    have HF := Lib.hid hf
    have HD := Lib.hid hdid
    clear hf hdid hd hblk
    go_enter Tryz.func184, Tryz.ntmps184
    go_wp2_with (first | (go_at_call 192; refine HC.out.mono ?_; rintro e w' ⟨rfl, rfl⟩) | (go_at_call 193; refine HD.out.mono ?_; rintro e w1 ⟨rfl, hu, hb1⟩))
    go_ret
    refine ⟨rfl, hu, dev_own H.out ?_ hu rfl rfl W.out⟩
    rw [hb1]
    simp only [cellsOf, Dev.stepped, HF.out]
    cases store <;> simp [inc]
  | some n =>
    cases n with
    | zero => simp [Dev.down, hf] at hd
    | succ n =>
      rw [hf] at c4 c5
      simp only [Option.isSome_some, Option.getD_some] at c4 c5
      have hm : ∃ m : Int, ((n + 1 : Nat) : Int) = m ∧ 0 < m := ⟨_, rfl, by omega⟩
      obtain ⟨m, hm, hpos⟩ := hm
      have hm9 : m ≤ 9223372036854775807 ∨ 9223372036854775807 < m := by omega
      rw [hm] at c5
      have hblk' : w.heap[b]? = some (.cells #[.int .i64 d.steps, .int .i64 d.stores, .slice g.A d.las.length g.c, .map (some g.M), .bool true, .int .i64 m] 146 (0, 0)) := by
        rw [hblk, ← hm]
        simp [cellsOf, hf]
      have hset : (w.setCell ⟨b, 5, none⟩ (.int .i64 (m - 1))).heap[b]? = some (.cells #[.int .i64 d.steps, .int .i64 d.stores, .slice g.A d.las.length g.c, .map (some g.M), .bool true, .int .i64 (m - 1)] 146 (0, 0)) := set_b hblk' 5 (.int .i64 (m - 1)) rfl
      have hu0 : Upd [b] w (w.setCell ⟨b, 5, none⟩ (.int .i64 (m - 1))) := (Upd.refl _ _).setCell (by simp) _
      have hdid := did_any (d.steps : Int) (d.stores : Int) (by omega) (by omega) (by omega) (by omega) _ _ _ _ hset store
      have hfin : d.fuse.isSome = true ∧ ((d.stepped store).fuse.getD 0 : Int) = m - 1 ∧ (d.stepped store).fuse.isSome = true := by
        refine ⟨by rw [hf]; rfl, ?_, by simp [Dev.stepped, hf]⟩
        have : (d.stepped store).fuse.getD 0 = n := by simp [Dev.stepped, hf]
        rw [this]
        omega
      have HD := Lib.hid hdid
      have HU := Lib.hid hu0
      have HN := Lib.hid hfin
      have hlm : m ≤ 9223372036854775807 := hfu _ hf |> fun h => by omega
      clear hf hdid hd hblk hblk' hset hu0 hm hm9 hfin
      go_enter Tryz.func184, Tryz.ntmps184
      go_wp2_with (first | (go_at_call 192; refine HC.out.mono ?_; rintro e w' ⟨rfl, rfl⟩) | (go_at_call 193; refine HD.out.mono ?_; rintro e w1 ⟨rfl, hu, hb1⟩))
      go_ret
      have hu2 := HU.out.trans hu (fun x hx => .inl hx)
      refine ⟨rfl, hu2, dev_own H.out ?_ hu2 rfl rfl W.out⟩
      rw [hb1]
      obtain ⟨q1, q2, q3⟩ := HN.out
      simp only [cellsOf, q2, q3]
      cases store <;> simp [Dev.stepped, inc]
end Go.Proofs.YtgnagbbdnlmgeaaGreat.Pm
end
