/- Parts of the proof, one behind the other: Bm, Bn, Qe, Lr, Qb, Qs, Qf. -/
import Derived.Test.YtichcdoijieddaaGreatG03
import Derived.Deep.QuietTactic
import Derived.BigQuiet
import Derived.Test.YtichcdoijieddaaGreatG06
import Derived.Test.YtichcdoijieddaaGreatG07
import Derived.Laws.BytesArg
import Derived.Test.YtichcdoijieddaaGreatG02

/- package bitmap: which blocks are used. -/
section
set_option linter.unusedVariables false
set_option linter.unusedSimpArgs false
set_option maxHeartbeats 2000000
set_option maxRecDepth 100000
namespace Go.Proofs.YtichcdoijieddaaGreat.Bm
open Go Go.RowKit
open Go.Proofs.YtichcdoijieddaaGreat.Ob Go.Proofs.YtichcdoijieddaaGreat.Ba Go.Proofs.YtichcdoijieddaaGreat.Oc Go.Proofs.YtichcdoijieddaaGreat.Pk

/-- a map of n blocks in words l -/
structure Bm (W : World) (B b n : Nat) (l : List Nat) (A : Option Addr) (c : Nat) : Prop where
  box : W.heap[b]? = some (.cells #[.int .i64 n, .slice A l.length c] 125 (0, 0))
  row : W.ownsRow B 60 1 (.slice A l.length c) l.length (ivs .u64 (ints l))
  lo : B ≤ b
  apart : ∀ a, A = some a → a.block ≠ b
  len : l.length = (n + 63) / 64
  lt : ∀ x ∈ l, x < 18446744073709551616
  le : n ≤ 65534

theorem Bm.keep {W W' : World} {B b n : Nat} {l : List Nat} {A : Option Addr} {c : Nat} (h : Bm W B b n l A c) (hb : Below W.heap.size W W') : Bm W' B b n l A c :=
  ⟨blk_bl h.box hb, own_bl h.row hb, h.lo, h.apart, h.len, h.lt, h.le⟩

def bget (l : List Nat) (i : Nat) : Bool := (l.getD (i / 64) 0).testBit (i % 64)
def bhas (n : Nat) (l : List Nat) (i : Int) : Bool := decide (0 ≤ i) && decide (i < n) && bget l i.toNat

theorem bit_and (x r : Nat) (hx : x < 18446744073709551616) : (Go.bits .and .u64 ((x : Int) / 2 ^ r) 1 == 1) = x.testBit r := by
  have e : (x : Int) / 2 ^ r = ((x / 2 ^ r : Nat) : Int) := by norm_cast
  have hlt : x / 2 ^ r < 18446744073709551616 := Nat.lt_of_le_of_lt (Nat.div_le_self _ _) hx
  have hk : IntKind.u64.bits = 64 := rfl
  have h1 : Go.bits .and .u64 ((x / 2 ^ r : Nat) : Int) 1 = ((x / 2 ^ r % 2 : Nat) : Int) := by
    rw [show (1 : Int) = ((1 : Nat) : Int) from rfl]
    simp only [Go.bits, hk, BitVec.ofInt_natCast, BitVec.toNat_and, BitVec.toNat_ofNat]
    rw [show (2 : Nat) ^ 64 = 18446744073709551616 from rfl, Nat.mod_eq_of_lt hlt, Nat.mod_eq_of_lt (by decide : 1 < 18446744073709551616), Nat.and_one_is_mod]
    exact wu64 _ (by omega) (by omega)
  rw [e, h1, Nat.testBit_eq_decide_div_mod_eq]
  by_cases h : x / 2 ^ r % 2 = 1
  · rw [h]; rfl
  · rw [decide_eq_false h]
    exact beq_eq_false_iff_ne.2 (by omega)

theorem has_ {W : World} {B b n : Nat} {l : List Nat} {A : Option Addr} {c : Nat} (h : Bm W B b n l A c) (i : Int) :
    Calls Tryz.prog 84 #[.pointer (some ⟨b, 0, none⟩), .int .i64 i] W fun e w' => e = .returned (.bool (bhas n l i)) ∧ w' = W := by
  have hu := Tryz.underlying125
  have k0 := cell_of h.box 0
  have k1 := cell_of h.box 1
  by_cases h1 : 0 ≤ i
  · by_cases h2 : i < n
    · obtain ⟨j, rfl⟩ : ∃ j : Nat, i = j := ⟨i.toNat, by omega⟩
      have hlen := h.len
      have hj : j < 65534 := by have := h.le; omega
      obtain ⟨x, hx⟩ := some_at (l := l) (i := j / 64) (by omega)
      obtain ⟨g, hA, hc, hf⟩ := own_at h.row (ints_get hx)
      have hx9 := h.lt x (List.mem_of_getElem? hx)
      have hv : bhas n l j = x.testBit (j % 64) := by
        unfold bhas bget
        rw [show (j : Int).toNat = j from rfl, List.getD_eq_getElem?_getD, hx]
        simp [h2]
      have hb := bit_and x (j % 64) hx9
      rw [hv]
      subst hA
      have hjl : (j : Int) / 64 < l.length := by omega
      clear hlen hv hx
      go_enter Tryz.func84, Tryz.ntmps84
      go_wp2_with fail
      go_ret
      exact ⟨rfl, rfl⟩
    · have hv : bhas n l i = false := by unfold bhas; rw [decide_eq_false h2]; simp
      rw [hv]
      go_enter Tryz.func84, Tryz.ntmps84
      go_wp2_with fail
      go_ret
      exact ⟨rfl, rfl⟩
  · have hv : bhas n l i = false := by unfold bhas; rw [decide_eq_false h1]; simp
    rw [hv]
    go_enter Tryz.func84, Tryz.ntmps84
    go_wp2_with fail
    go_ret
    exact ⟨rfl, rfl⟩

def bturn (l : List Nat) (j : Nat) : List Nat := l.set (j / 64) (l.getD (j / 64) 0 ^^^ 2 ^ (j % 64))
def turnF (n : Nat) (was : Bool) (st : List Nat × Nat) (i : Int) : List Nat × Nat := if 0 ≤ i ∧ i < n ∧ bget st.1 i.toNat = was then (bturn st.1 i.toNat, st.2 + 1) else st
def turnL (n : Nat) (was : Bool) (l : List Nat) (xs : List Int) : List Nat × Nat := xs.foldl (turnF n was) (l, 0)
theorem turnL_snoc (n : Nat) (was : Bool) (l : List Nat) (xs : List Int) (x : Int) : turnL n was l (xs ++ [x]) = turnF n was (turnL n was l xs) x := by simp [turnL]

theorem bit_xor (x r : Nat) (hx : x < 18446744073709551616) (hr : r < 64) : Go.bits .xor .u64 (x : Int) (IntKind.u64.wrap (2 ^ r)) = ((x ^^^ 2 ^ r : Nat) : Int) ∧ x ^^^ 2 ^ r < 18446744073709551616 := by
  have hk : IntKind.u64.bits = 64 := rfl
  have h2 : (2 : Nat) ^ r < 18446744073709551616 := Nat.pow_lt_pow_right (by decide) hr
  have e : IntKind.u64.wrap (2 ^ r) = ((2 ^ r : Nat) : Int) := by
    have e2 : (2 ^ r : Int) = ((2 ^ r : Nat) : Int) := by norm_cast
    rw [e2]
    exact wu64 _ (Int.natCast_nonneg _) (Int.lt_of_lt_of_le (Int.ofNat_lt.2 h2) (by decide))
  have hxx : x ^^^ 2 ^ r < 2 ^ 64 := Nat.xor_lt_two_pow hx h2
  refine ⟨?_, hxx⟩
  rw [e]
  simp only [Go.bits, hk, BitVec.ofInt_natCast, BitVec.toNat_xor, BitVec.toNat_ofNat]
  rw [show (2 : Nat) ^ 64 = 18446744073709551616 from rfl, Nat.mod_eq_of_lt hx, Nat.mod_eq_of_lt h2]
  exact wu64 _ (by omega) (by omega)

theorem Bm.turn {W : World} {B b n : Nat} {l : List Nat} {g c : Nat} (h : Bm W B b n l (some ⟨g, 0, none⟩) c) {j x : Nat} (hx : l[j / 64]? = some x) (y : Nat) (hy : y < 18446744073709551616) : Bm (W.setCell ⟨g, j / 64, none⟩ (.int .u64 y)) B b n (l.set (j / 64) y) (some ⟨g, 0, none⟩) c := by
  have hlt := (List.getElem?_eq_some_iff.1 hx).1
  have hne : g ≠ b := h.apart _ rfl
  have e : (ivs .u64 (ints l)).set (j / 64) (.int .u64 y) = ivs .u64 (ints (l.set (j / 64) y)) := by simp [ivs, ints, List.map_set]
  refine ⟨?_, ?_, h.lo, h.apart, by rw [List.length_set]; exact h.len, ?_, h.le⟩
  · rw [List.length_set]
    exact (Below.heap_setCell W _ _ b (fun e => hne e.symm)).trans h.box
  · rw [List.length_set, ← e]
    exact own_set h.row hlt _
  · intro z hz
    rcases List.mem_or_eq_of_mem_set hz with h1 | rfl
    · exact h.lt z h1
    · exact hy

/-- nothing but A's block has changed -/
structure Only (A : Option Addr) (w w' : World) : Prop where
  os : w'.os = w.os
  tape : w'.tape = w.tape
  output : w'.output = w.output
  size : w'.heap.size = w.heap.size
  block : ∀ k, (∀ a, A = some a → a.block ≠ k) → w'.heap[k]? = w.heap[k]?
theorem Only.refl (A : Option Addr) (w : World) : Only A w w := ⟨rfl, rfl, rfl, rfl, fun _ _ => rfl⟩
theorem Only.set {w w' : World} {g : Nat} (h : Only (some ⟨g, 0, none⟩) w w') (o : Nat) (v : Value) : Only (some ⟨g, 0, none⟩) w (w'.setCell ⟨g, o, none⟩ v) := by
  have hb : Below 0 w' (w'.setCell ⟨g, o, none⟩ v) := (Below.refl 0 w').setCell (Nat.zero_le _) v
  refine ⟨hb.os.trans h.os, hb.tape.trans h.tape, hb.output.trans h.output, ?_, fun k hk => ?_⟩
  · simpa using h.size
  · exact (Below.heap_setCell w' (⟨g, o, none⟩ : Addr) v k (fun e => hk _ rfl e.symm)).trans (h.block k hk)
theorem Only.drew {A : Option Addr} {w w' : World} (h : Only A w w') : Only A w w'.drew := ⟨h.os, h.tape, h.output, h.size, h.block⟩
theorem Only.below {A : Option Addr} {w w' : World} {B : Nat} (h : Only A w w') (hA : ∀ a, A = some a → B ≤ a.block) : Below B w w' :=
  ⟨h.os, h.tape, h.output, Nat.le_of_eq h.size.symm, fun k hk => h.block k (fun a ha e => by have := hA a ha; omega)⟩
theorem Only.rk {k : IntKind} {A D : Option Addr} {w w' : World} {xs : List Int} (h : Only A w w') (hx : Rk k w D xs) (hD : ∀ a a', D = some a → A = some a' → a'.block ≠ a.block) : Rk k w' D xs :=
  hx.keep (fun a ha => h.block _ (fun a' ha' => hD a a' ha ha')) (Nat.le_of_eq h.size.symm)

theorem Bm.drew {W : World} {B b n : Nat} {l : List Nat} {A : Option Addr} {c : Nat} (h : Bm W B b n l A c) : Bm W.drew B b n l A c := ⟨h.box, h.row, h.lo, h.apart, h.len, h.lt, h.le⟩

theorem turn_ {W : World} {B b n : Nat} {l : List Nat} {A : Option Addr} {c : Nat} (h : Bm W B b n l A c) (was : Bool) {D : Option Addr} {xs : List Int} (hxs : Rk .i64 W D xs) (hD : ∀ a a', D = some a → A = some a' → a'.block ≠ a.block) (cd : Nat) (hn : xs.length ≤ 1000000000) :
    Calls Tryz.prog 63 #[.pointer (some ⟨b, 0, none⟩), .bool was, .slice D xs.length cd] W fun e w' => e = .returned (.int .i64 (turnL n was l xs).2) ∧ Bm w' B b n (turnL n was l xs).1 A c ∧ Only A W w' := by
  have hu := Tryz.underlying125
  have H := Lib.hid h
  have HX := Lib.hid hxs
  have HD := Lib.hid hD
  obtain ⟨m, hm⟩ : ∃ m, m = xs.length := ⟨_, rfl⟩
  rw [← hm]
  rw [← hm] at hn
  have HN := Lib.hid hm
  clear h hxs hD hm
  go_enter Tryz.func63, Tryz.ntmps63
  go_wp2_with fail
  go_loopw [12, 7] (fun c12 c7 wr => ∃ i k : Nat, ∃ l' : List Nat, i ≤ m ∧ c12 = .int .i64 i ∧ c7 = .int .i64 k ∧ k ≤ i ∧ Hid (Bm wr B b n l' A c ∧ Only A W wr ∧ turnL n was l (xs.take i) = (l', k))) (fun c12 _ _ => m - (intOf c12).toNat)
  case atStart => exact ⟨0, 0, l, Nat.zero_le _, rfl, rfl, Nat.le_refl _, H.out, Only.refl _ _, rfl⟩
  case round =>
    obtain ⟨i, k, l', hi, rfl, rfl, hk, HR⟩ := hrel
    by_cases hlt : i < m
    · obtain ⟨x, hx⟩ := some_at (l := xs) (i := i) (by rw [← HN.out]; exact hlt)
      obtain ⟨a, rfl, -, ha⟩ := (HR.out.2.1.rk HX.out HD.out) i x hx
      have k0 := cell_of HR.out.1.box 0
      have HXI := Lib.hid hx
      have HT : Hid (turnL n was l (xs.take (i + 1)) = turnF n was (l', k) x) := by
        show _ = _
        rw [take_next hx, turnL_snoc, HR.out.2.2]
      clear hx
      by_cases h1 : 0 ≤ x
      · by_cases h2 : x < n
        · have HHX := Lib.hid (has_ HR.out.1 x)
          obtain ⟨j, rfl⟩ : ∃ j : Nat, x = j := ⟨x.toNat, by omega⟩
          have hj : j < 65534 := by have := HR.out.1.le; omega
          have hlen := HR.out.1.len
          obtain ⟨y, hy⟩ := some_at (l := l') (i := j / 64) (by omega)
          obtain ⟨g, hA, hc, hf⟩ := own_at HR.out.1.row (ints_get hy)
          subst hA
          have hy9 := HR.out.1.lt y (List.mem_of_getElem? hy)
          obtain ⟨hx1, hx2⟩ := bit_xor y (j % 64) hy9 (by omega)
          have hbg : bhas n l' j = bget l' j := by unfold bhas; simp [h2]
          have k1 := cell_of HR.out.1.box 1
          have hjl : (j : Int) / 64 < l'.length := by omega
          have HTN := Lib.hid (HR.out.1.turn hy (y ^^^ 2 ^ (j % 64)) hx2)
          have HY := Lib.hid hy
          rw [hbg] at HHX
          by_cases h3 : bget l' j = was
          · have HF : Hid (turnF n was (l', k) j = (bturn l' j, k + 1) ∧ bturn l' j = l'.set (j / 64) (y ^^^ 2 ^ (j % 64))) := by
              refine ⟨?_, ?_⟩
              · unfold turnF; rw [if_pos ⟨h1, h2, by rw [show (j : Int).toNat = j from rfl]; exact h3⟩]; rfl
              · unfold bturn; rw [List.getD_eq_getElem?_getD, HY.out]; rfl
            rw [h3] at HHX
            clear h3 hbg hlen hy hx2
            go_wp2_with fail
            refine HHX.out.mono ?_
            rintro e w5 ⟨rfl, rfl⟩
            go_wp2_with fail
            go_region
            go_wp2_with fail
            go_roundw
            case rel =>
              refine ⟨i + 1, k + 1, bturn l' j, by omega, by go_num, by go_num, by omega, ?_, ?_, ?_⟩
              · rw [HF.out.2]; exact HTN.out.drew
              · exact (HR.out.2.1.set _ _).drew
              · rw [HT.out, HF.out.1]
            case measure => simp [intOf]; omega
          · have HF : Hid (turnF n was (l', k) j = (l', k)) := by
              show _ = _
              unfold turnF; rw [if_neg (fun h => h3 (by have := h.2.2; rwa [show (j : Int).toNat = j from rfl] at this))]
            have e3 : (bget l' j == was) = false := beq_eq_false_iff_ne.2 h3
            generalize bget l' j = r at *
            clear h3 hbg hlen hy hx2
            go_wp2_with fail
            refine HHX.out.mono ?_
            rintro e w5 ⟨rfl, rfl⟩
            go_wp2_with fail
            go_roundw
            case rel => exact ⟨i + 1, k, l', by omega, by go_num, rfl, by omega, HR.out.1, HR.out.2.1, by rw [HT.out, HF.out]⟩
            case measure => simp [intOf]; omega
        · have HF : Hid (turnF n was (l', k) x = (l', k)) := by
            show _ = _
            unfold turnF; rw [if_neg (fun h => h2 h.2.1)]
          go_wp2_with fail
          go_roundw
          case rel => exact ⟨i + 1, k, l', by omega, by go_num, rfl, by omega, HR.out.1, HR.out.2.1, by rw [HT.out, HF.out]⟩
          case measure => simp [intOf]; omega
      · have HF : Hid (turnF n was (l', k) x = (l', k)) := by
          show _ = _
          unfold turnF; rw [if_neg (fun h => h1 h.1)]
        go_wp2_with fail
        go_roundw
        case rel => exact ⟨i + 1, k, l', by omega, by go_num, rfl, by omega, HR.out.1, HR.out.2.1, by rw [HT.out, HF.out]⟩
        case measure => simp [intOf]; omega
    · obtain rfl : i = m := by omega
      go_wp2_with fail
      go_ret
      have h2 := HR.out.2.2
      rw [List.take_of_length_le (by rw [← HN.out]; omega)] at h2
      rw [h2]
      exact ⟨rfl, HR.out.1, HR.out.2.1⟩

end Go.Proofs.YtichcdoijieddaaGreat.Bm
end

/- package bitmap: New, Put, Words, Next. -/
section
set_option linter.unusedVariables false
set_option linter.unusedSimpArgs false
set_option maxHeartbeats 2000000
set_option maxRecDepth 100000
namespace Go.Proofs.YtichcdoijieddaaGreat.Bm
open Go Go.RowKit
open Go.Proofs.YtichcdoijieddaaGreat.Ob Go.Proofs.YtichcdoijieddaaGreat.Ba Go.Proofs.YtichcdoijieddaaGreat.Oc Go.Proofs.YtichcdoijieddaaGreat.Pk

theorem words_ (n : Nat) (hn : n ≤ 65534) (w : World) : Calls Tryz.prog 62 #[.int .i64 n] w fun e w' => e = .returned (.int .i64 ((n + 63) / 64 : Nat)) ∧ w' = w := by
  go_enter Tryz.func62, Tryz.ntmps62
  go_wp2_with fail
  go_ret
  refine ⟨?_, rfl⟩
  go_num

theorem new_ (n : Nat) (hn : n ≤ 65534) (w : World) : Calls Tryz.prog 14 #[.int .i64 n] w fun e w' => ∃ b, e = .returned (.pointer (some ⟨b, 0, none⟩)) ∧ Bm w' w.heap.size b n (List.replicate ((n + 63) / 64) 0) (some ⟨w.heap.size, 0, none⟩) ((n + 63) / 64) ∧ Below w.heap.size w w' := by
  have hu := Tryz.underlying125
  have hm : (n + 63) / 64 ≤ 1024 := by omega
  have hz : ivs .u64 (ints (List.replicate ((n + 63) / 64) 0)) = List.replicate ((n + 63) / 64) (.int .u64 0) := by simp [ivs, ints]
  have HFIN : Hid (Bm ((w.alloc (.cells (Array.replicate ((n + 63) / 64) (.int .u64 0)) 60)).alloc (.cells #[.int .i64 n, .slice (some ⟨w.heap.size, 0, none⟩) ((n + 63) / 64) ((n + 63) / 64)] 125)) w.heap.size (w.heap.size + 1) n (List.replicate ((n + 63) / 64) 0) (some ⟨w.heap.size, 0, none⟩) ((n + 63) / 64)) := by
    have h1 := alloc_new w (.cells (Array.replicate ((n + 63) / 64) (.int .u64 0)) 60)
    have h2 := alloc_new (w.alloc (.cells (Array.replicate ((n + 63) / 64) (.int .u64 0)) 60)) (.cells #[.int .i64 n, .slice (some ⟨w.heap.size, 0, none⟩) ((n + 63) / 64) ((n + 63) / 64)] 125)
    rw [World.size_alloc] at h2
    have h3 := alloc_old h1 (.cells #[.int .i64 n, .slice (some ⟨w.heap.size, 0, none⟩) ((n + 63) / 64) ((n + 63) / 64)] 125)
    refine ⟨by rw [List.length_replicate]; exact h2, ?_, by omega, ?_, by simp, ?_, hn⟩
    · rw [List.length_replicate]
      refine own_new (k := .u64) (l := ints (List.replicate ((n + 63) / 64) 0)) ?_ (Nat.le_refl _) (by rw [ints_length, List.length_replicate]) (by unfold maxLen; omega)
      rw [hz, List.toArray_replicate]
      exact h3
    · intro a ha
      cases ha
      simp
    · intro x hx
      rw [(List.mem_replicate.1 hx).2]
      decide
  clear hz
  rcases Nat.eq_zero_or_pos n with rfl | h0
  · have HW := Lib.hid (words_ 0 hn w)
    go_enter Tryz.func14, Tryz.ntmps14
    go_wp2_with fail
    refine HW.out.mono ?_
    rintro e w1 ⟨rfl, rfl⟩
    go_wp2_with (at_make; refine Go.Proofs.YtichcdoijieddaaGreat.Wl.wpl_make rfl _ 22 60 rfl (.int .u64 0) 8 Tryz.underlying22 info_u64 rfl 0 .i64 _ rfl rfl (by omega) (by omega) ?_)
    go_ret
    exact ⟨_, rfl, HFIN.out, bl_alloc (bl_alloc (Below.refl _ _) _) _⟩
  have HW := Lib.hid (words_ n hn w)
  by_cases h9 : n < 65534
  · generalize (n + 63) / 64 = m at *
    go_enter Tryz.func14, Tryz.ntmps14
    go_wp2_with fail
    refine HW.out.mono ?_
    rintro e w1 ⟨rfl, rfl⟩
    go_wp2_with (at_make; refine Go.Proofs.YtichcdoijieddaaGreat.Wl.wpl_make rfl _ 22 60 rfl (.int .u64 0) 8 Tryz.underlying22 info_u64 rfl m .i64 _ rfl rfl (by omega) (by omega) ?_)
    go_ret
    exact ⟨_, rfl, HFIN.out, bl_alloc (bl_alloc (Below.refl _ _) _) _⟩
  · obtain rfl : n = 65534 := by omega
    go_enter Tryz.func14, Tryz.ntmps14
    go_wp2_with fail
    refine HW.out.mono ?_
    rintro e w1 ⟨rfl, rfl⟩
    go_wp2_with (at_make; refine Go.Proofs.YtichcdoijieddaaGreat.Wl.wpl_make rfl _ 22 60 rfl (.int .u64 0) 8 Tryz.underlying22 info_u64 rfl 1024 .i64 _ rfl rfl (by omega) (by omega) ?_)
    go_ret
    exact ⟨_, rfl, HFIN.out, bl_alloc (bl_alloc (Below.refl _ _) _) _⟩

theorem put_ {W : World} {B b n : Nat} {l : List Nat} {A : Option Addr} {c : Nat} (h : Bm W B b n l A c) {D : Option Addr} {xs : List Int} (hxs : Rk .i64 W D xs) (hD : ∀ a a', D = some a → A = some a' → a'.block ≠ a.block) (cd : Nat) (hn : xs.length ≤ 1000000000) :
    Calls Tryz.prog 16 #[.pointer (some ⟨b, 0, none⟩), .slice D xs.length cd] W fun e w' => e = .returned (.int .i64 (turnL n false l xs).2) ∧ Bm w' B b n (turnL n false l xs).1 A c ∧ Only A W w' := by
  have HT := Lib.hid (turn_ h false hxs hD cd hn)
  generalize turnL n false l xs = r at *
  clear h hxs hD
  go_enter Tryz.func16, Tryz.ntmps16
  go_wp2_with fail
  refine HT.out.mono ?_
  rintro e w1 ⟨rfl, h1, h2⟩
  have H := Lib.hid (And.intro h1 h2)
  clear h1 h2
  go_wp2_with fail
  go_ret
  exact ⟨rfl, H.out.1, H.out.2⟩

theorem words_of {W : World} {B b n : Nat} {l : List Nat} {A : Option Addr} {c : Nat} (h : Bm W B b n l A c) :
    Calls Tryz.prog 66 #[.pointer (some ⟨b, 0, none⟩)] W fun e w' => ∃ v, e = .returned v ∧ w'.ownsRow W.heap.size 60 1 v l.length (ivs .u64 (ints l)) ∧ Below W.heap.size W w' := by
  have hu := Tryz.underlying125
  have k0 := cell_of h.box 0
  have k1 := cell_of h.box 1
  have hrk := own_rk (k := .u64) h.row
  have hcl := Pm.clone_big (show Pm.Rd W A (ints l) from hrk.1) c (by rw [ints_length]; have := h.len; have := h.le; omega) (by
    intro hA
    obtain ⟨h1, ⟨h2, h3⟩ | ⟨g, cap, cur, hv, hg, hb, hn, hm, hs, ht⟩⟩ := h.row
    · simp only [Value.slice.injEq] at h2
      refine ⟨?_, h2.2.2⟩
      have := h2.2.1
      rw [← ints_length] at this
      exact List.length_eq_zero_iff.1 this
    · rw [hA] at hv; cases hv)
  rw [ints_length] at hcl
  have HCL := Lib.hid hcl
  clear hcl hrk
  go_enter Tryz.func66, Tryz.ntmps66
  go_wp2_with fail
  refine HCL.out.mono ?_
  rintro e w1 ⟨v, rfl, h1, h2⟩
  have H := Lib.hid (And.intro h1 h2)
  clear h1 h2
  go_wp2_with fail
  go_ret
  exact ⟨_, rfl, H.out.1, H.out.2⟩

/-- the least one from i on -/
def NextIs (n : Nat) (l : List Nat) (i : Int) (used : Bool) (r : Int) : Prop :=
  (r = -1 ∧ ∀ j : Nat, i ≤ j → j < n → bget l j ≠ used) ∨ (∃ j : Nat, r = j ∧ i ≤ j ∧ j < n ∧ bget l j = used ∧ ∀ k : Nat, i ≤ k → k < j → bget l k ≠ used)

theorem next_ {W : World} {B b n : Nat} {l : List Nat} {A : Option Addr} {c : Nat} (h : Bm W B b n l A c) (i : Int) (used : Bool) : Calls Tryz.prog 97 #[.pointer (some ⟨b, 0, none⟩), .int .i64 i, .bool used] W fun e w' => ∃ r, e = .returned (.int .i64 r) ∧ NextIs n l i used r ∧ w' = W := by
  have hu := Tryz.underlying125
  have k0 := cell_of h.box 0
  have hn := h.le
  have H := Lib.hid h
  clear h
  go_enter Tryz.func97, Tryz.ntmps97
  go_wp2_with fail
  all_goals
    go_loop [7] (fun c7 => ∃ s : Int, c7 = .int .i64 s ∧ 0 ≤ s ∧ Hid (i ≤ s ∧ ∀ k : Nat, i ≤ k → (k : Int) < s → bget l k ≠ used)) (fun c7 => n - (intOf c7).toNat)
    case atStart =>
      first
        | exact ⟨i, rfl, by omega, Int.le_refl _, fun k h1 h2 => by omega⟩
        | exact ⟨0, rfl, Int.le_refl _, by omega, fun k h1 h2 => by omega⟩
    case round =>
      obtain ⟨s, rfl, hs, HR⟩ := hrel
      by_cases hlt : s < n
      · have HH := Lib.hid (has_ H.out s)
        have hbg : bhas n l s = bget l s.toNat := by unfold bhas; rw [decide_eq_true hs, decide_eq_true hlt]; rfl
        rw [hbg] at HH
        by_cases h3 : bget l s.toNat = used
        · have HF : Hid (NextIs n l i used s) := .inr ⟨s.toNat, by omega, by have := HR.out.1; omega, by omega, h3, fun k h1 h2 => HR.out.2 k h1 (by omega)⟩
          rw [h3] at HH
          clear h3 hbg
          go_wp2_with fail
          refine HH.out.mono ?_
          rintro e w5 ⟨rfl, rfl⟩
          go_wp2_with fail
          go_ret
          exact ⟨_, rfl, HF.out, rfl⟩
        · have HF : Hid (i ≤ s + 1 ∧ ∀ k : Nat, i ≤ k → (k : Int) < s + 1 → bget l k ≠ used) := by
            refine ⟨by have := HR.out.1; omega, fun k h1 h2 => ?_⟩
            by_cases hk : (k : Int) < s
            · exact HR.out.2 k h1 hk
            · have : k = s.toNat := by omega
              rw [this]; exact h3
          have e3 : (bget l s.toNat == used) = false := beq_eq_false_iff_ne.2 h3
          generalize bget l s.toNat = r at *
          clear h3 hbg
          go_wp2_with fail
          refine HH.out.mono ?_
          rintro e w5 ⟨rfl, rfl⟩
          go_wp2_with fail
          go_round
          case rel => exact ⟨s + 1, by go_num, by omega, HF⟩
          case measure => simp [intOf]; omega
      · have HF : Hid (NextIs n l i used (-1)) := .inl ⟨rfl, fun j h1 h2 => HR.out.2 j h1 (by omega)⟩
        go_wp2_with fail
        go_ret
        exact ⟨_, rfl, HF.out, rfl⟩

end Go.Proofs.YtichcdoijieddaaGreat.Bm
end

/- Words compared by the law (cantlelaw03.Same). -/
section
set_option linter.unusedVariables false
set_option linter.unusedSimpArgs false
set_option maxHeartbeats 1000000
namespace Go.Proofs.YtichcdoijieddaaGreat.Pm
open Go Go.RowKit
open Go.ChangeMaps (setBlock)
open Go.Proofs.YtichcdoijieddaaGreat.Ob Go.Proofs.YtichcdoijieddaaGreat.Mp Go.Proofs.YtichcdoijieddaaGreat.Dv Go.Proofs.YtichcdoijieddaaGreat.Wl

set_option maxRecDepth 100000 in
theorem same_words {w : World} {A B : Option Addr} {l m : List Int} (h : Rd w A l) (k : Rd w B m) (c1 c2 : Nat) (hl : l.length ≤ 9223372036854775807) (hm : m.length ≤ 9223372036854775807) :
    Calls Tryz.prog 23 #[.slice A l.length c1, .slice B m.length c2] w fun e w' => e = .returned (.bool (decide (l = m))) ∧ ∃ n, w' = w.drewN n := by
  have H := Lib.hid h
  have K := Lib.hid k
  clear h k
  by_cases he : l.length = m.length
  · obtain ⟨n, hn⟩ : ∃ n, n = l.length := ⟨_, rfl⟩
    rw [← he, ← hn]
    rw [← hn] at hl
    have HN : Hid (n = l.length ∧ n = m.length) := ⟨hn, by rw [hn, he]⟩
    clear hn he hm
    go_enter Tryz.func23, Tryz.ntmps23
    go_wp2_with fail
    go_loopw [13] (fun c13 wr => ∃ i : Nat, i ≤ n ∧ c13 = .int .i64 i ∧ ∃ q, Hid (wr = w.drewN q ∧ l.take i = m.take i)) (fun c13 _ => n - (intOf c13).toNat)
    case atStart => exact ⟨0, Nat.zero_le _, rfl, 0, rfl, rfl⟩
    case round =>
      obtain ⟨i, hi, rfl, q, HR⟩ := hrel
      by_cases hlt : i < n
      · obtain ⟨x, hx⟩ : ∃ x, l[i]? = some x := ⟨_, List.getElem?_eq_getElem (by rw [← HN.out.1]; exact hlt)⟩
        obtain ⟨y, hy⟩ : ∃ y, m[i]? = some y := ⟨_, List.getElem?_eq_getElem (by rw [← HN.out.2]; exact hlt)⟩
        have hl2 : Rd wr A l := by rw [HR.out.1]; exact H.out.drewN q
        have hm2 : Rd wr B m := by rw [HR.out.1]; exact K.out.drewN q
        obtain ⟨a, rfl, -, ha⟩ := hl2 i x hx
        obtain ⟨b, rfl, -, hb⟩ := hm2 i y hy
        have HX := Lib.hid (And.intro hx hy)
        clear hx hy hl2 hm2
        by_cases hxy : x = y
        · have e1 : (x != y) = false := by simp [hxy]
          have EX := Lib.hid hxy
          clear hxy
          go_wp2
          go_quiet (fail)
          go_wp2
          go_roundw
          case rel => exact ⟨i + 1, by omega, by go_num, q + nq, by show _ ∧ _; rw [HR.out.1]; exact ⟨drewN_two _ _ _, eq_step HX.out.1 HX.out.2 HR.out.2 EX.out⟩⟩
          case measure => simp [intOf]; omega
        · have e1 : (x != y) = true := bne_iff_ne.2 hxy
          have EX := Lib.hid hxy
          clear hxy
          go_wp2
          go_quiet (fail)
          go_wp2
          go_ret
          have hd : decide (l = m) = false := by
            apply decide_eq_false
            rintro rfl
            have := HX.out.1.symm.trans HX.out.2
            simp at this
            exact EX.out this
          rw [hd]
          exact ⟨rfl, _, by rw [HR.out.1]; exact drewN_two _ _ _⟩
      · obtain rfl : i = n := by omega
        go_wp2
        go_ret
        have hd : decide (l = m) = true := by
          apply decide_eq_true
          have h1 := HR.out.2
          rw [List.take_of_length_le (by rw [← HN.out.1]; omega), List.take_of_length_le (by rw [← HN.out.2]; omega)] at h1
          exact h1
        rw [hd]
        exact ⟨rfl, q, HR.out.1⟩
  · have hd : decide (l = m) = false := by
      apply decide_eq_false
      intro e
      exact he (by rw [e])
    rw [hd]
    have e1 : ((l.length : Int) != (m.length : Int)) = true := by rw [bne_iff_ne]; omega
    clear hd he
    generalize l.length = x at *
    generalize m.length = y at *
    go_enter Tryz.func23, Tryz.ntmps23
    go_wp2
    go_ret
    exact ⟨rfl, 0, rfl⟩

end Go.Proofs.YtichcdoijieddaaGreat.Pm
end

/- The tenth chapter's example. -/
section
set_option linter.unusedVariables false
set_option linter.unusedSimpArgs false
set_option maxHeartbeats 2000000
set_option maxRecDepth 100000
namespace Go.Proofs.YtichcdoijieddaaGreat.Li
open Go Go.RowKit
open Go.Proofs.YtichcdoijieddaaGreat.Ob Go.Proofs.YtichcdoijieddaaGreat.Ba Go.Proofs.YtichcdoijieddaaGreat.Oc Go.Proofs.YtichcdoijieddaaGreat.Pk Go.Proofs.YtichcdoijieddaaGreat.Bm

theorem rk_rd {w : World} {A : Option Addr} {l : List Int} (h : Rk .u64 w A l) : Pm.Rd w A l := h

theorem next65 {r : Int} (h : NextIs 70 [1, 2] 1 true r) : r = 65 := by
  have key : ∀ k : Nat, k < 70 → 1 ≤ k → k < 65 → bget [1, 2] k ≠ true := by decide
  rcases h with ⟨_, h⟩ | ⟨j, rfl, h1, h2, h3, h4⟩
  · exact absurd (by decide : bget [1, 2] 65 = true) (h 65 (by decide) (by decide))
  · by_cases h5 : j < 65
    · exact absurd h3 (key j h2 (by omega) h5)
    · by_cases h6 : 65 < j
      · exact absurd (by decide : bget [1, 2] 65 = true) (h4 65 (by decide) h6)
      · omega
theorem next1 {r : Int} (h : NextIs 70 [1, 2] 0 false r) : r = 1 := by
  rcases h with ⟨_, h⟩ | ⟨j, rfl, h1, h2, h3, h4⟩
  · exact absurd (by decide : bget [1, 2] 1 = false) (h 1 (by decide) (by decide))
  · by_cases h5 : j < 1
    · obtain rfl : j = 0 := by omega
      revert h3; decide
    · by_cases h6 : 1 < j
      · exact absurd (by decide : bget [1, 2] 1 = false) (h4 1 (by decide) h6)
      · omega

theorem three_rk {W : World} {q T : Nat} {fr : Nat × Nat} {k : IntKind} {x y z : Int} (h : W.heap[q]? = some (.cells #[.int k x, .int k y, .int k z] T fr)) : Rk k W (some ⟨q, 0, none⟩) [x, y, z] := by
  refine blk_rk h ?_
  intro i u hu
  match i, hu with
  | 0, hu => simp at hu; subst hu; rfl
  | 1, hu => simp at hu; subst hu; rfl
  | 2, hu => simp at hu; subst hu; rfl
  | i + 3, hu => simp at hu
theorem two_rk {W : World} {q T : Nat} {fr : Nat × Nat} {k : IntKind} {x y : Int} (h : W.heap[q]? = some (.cells #[.int k x, .int k y] T fr)) : Rk k W (some ⟨q, 0, none⟩) [x, y] := by
  refine blk_rk h ?_
  intro i u hu
  match i, hu with
  | 0, hu => simp at hu; subst hu; rfl
  | 1, hu => simp at hu; subst hu; rfl
  | i + 2, hu => simp at hu

theorem lives10 (w : World) : Calls Tryz.prog 50 #[] w fun e w' => e = .returned (.bool true) ∧ Below w.heap.size w w' := by
  go_enter Tryz.func50, Tryz.ntmps50
  go_wp2_with fail
  refine (show Calls _ _ #[.int .i64 70] _ _ from new_ 70 (by decide) w).mono ?_
  rintro e w1 ⟨b, rfl, hm1, hb1⟩
  have HM1 := Lib.hid hm1
  have HB1 := Lib.hid hb1
  clear hm1 hb1
  go_wp2_with fail
  refine (lives03 w1).mono ?_
  rintro e w2 ⟨rfl, hb2⟩
  have HM2 := Lib.hid (HM1.out.keep hb2)
  have HB2 := Lib.hid (bl_then HB1.out hb2)
  have hlt2 : w1.heap.size ≤ w2.heap.size := hb2.size
  have hq1 : w.heap.size < w1.heap.size := by
    have := own_at (l := ints (List.replicate ((70 + 63) / 64) 0)) (i := 0) (x := 0) HM1.out.row (by simp [ints])
    obtain ⟨q, hq, hc, -⟩ := this
    cases hq
    by_cases h : w.heap.size < w1.heap.size
    · exact h
    · rw [show w1.cell? ⟨w.heap.size, 0, none⟩ = none from by simp [World.cell?, Array.getElem?_eq_none (Nat.le_of_not_lt h)]] at hc
      cases hc
  clear hb2
  go_wp2_with fail
  have hlt3 : w.heap.size < w2.heap.size := by omega
  have hput := put_ (xs := [0, 65, 70]) (HM2.out.keep (bl_alloc (Below.refl _ _) (.cells #[.int .i64 0, .int .i64 65, .int .i64 70] 3))) (three_rk (alloc_new w2 _)) (by intro a a' h1 h2; cases h1; cases h2; exact Nat.ne_of_lt hlt3) 3 (by decide)
  rw [show turnL 70 false (List.replicate ((70 + 63) / 64) 0) [0, 65, 70] = ([1, 2], 2) from by decide] at hput
  have HPU := Lib.hid hput
  clear hput
  refine (show Calls _ _ #[.pointer (some ⟨b, 0, none⟩), .slice (some ⟨w2.heap.size, 0, none⟩) 3 3] _ _ from HPU.out).mono ?_
  rintro e w3 ⟨rfl, hm3, ho3⟩
  have HM3 := Lib.hid hm3
  have HB3 := Lib.hid ((bl_alloc HB2.out (.cells #[.int .i64 0, .int .i64 65, .int .i64 70] 3)).trans (ho3.below (B := w.heap.size) (by intro a ha; cases ha; exact Nat.le_refl _)))
  clear hm3 ho3
  go_wp2_with fail
  refine (words_of HM3.out).mono ?_
  rintro e w4 ⟨v4, rfl, hown, hb4⟩
  obtain ⟨A4, c4, rfl⟩ := own_slice hown
  have HM4 := Lib.hid (HM3.out.keep hb4)
  have HB4 := Lib.hid (bl_then HB3.out hb4)
  have HO4 := Lib.hid (own_rk (k := .u64) hown).1
  clear hown hb4
  go_wp2_with fail
  have hsm := Pm.same_words (m := [1, 2]) (rk_rd (HO4.out.below (bl_alloc (Below.refl _ _) (.cells #[.int .u64 1, .int .u64 2] 60)))) (rk_rd (two_rk (alloc_new w4 _))) c4 2 (by decide) (by decide)
  rw [show decide (ints [1, 2] = [1, 2]) = true from by decide] at hsm
  have HSM := Lib.hid hsm
  clear hsm
  refine (show Calls _ _ #[.slice A4 2 c4, .slice (some ⟨w4.heap.size, 0, none⟩) 2 2] _ _ from HSM.out).mono ?_
  rintro e w5 ⟨rfl, n5, hw5⟩
  have hb5 : Below w4.heap.size w4 w5 := by rw [hw5]; exact bl_drewN (bl_alloc (Below.refl _ _) _) _
  have HM5 := Lib.hid (HM4.out.keep hb5)
  have HB5 := Lib.hid (bl_then HB4.out hb5)
  clear hb5 hw5
  go_wp2_with fail
  refine (next_ HM5.out 1 true).mono ?_
  rintro e w6 ⟨r, rfl, hr, rfl⟩
  obtain rfl := next65 hr
  clear hr
  go_wp2_with fail
  refine (next_ HM5.out 0 false).mono ?_
  rintro e w7 ⟨r, rfl, hr, rfl⟩
  obtain rfl := next1 hr
  clear hr
  go_wp2_with fail
  go_ret
  exact ⟨rfl, HB5.out⟩

end Go.Proofs.YtichcdoijieddaaGreat.Li
end

/- The document's words in bytes (cantleref02.Bytes). -/
section
set_option linter.unusedVariables false
set_option linter.unusedSimpArgs false
set_option maxHeartbeats 2000000
set_option maxRecDepth 100000
namespace Go.Proofs.YtichcdoijieddaaGreat.Cc
open Go Go.RowKit
open Go.Proofs.YtichcdoijieddaaGreat.Ob Go.Proofs.YtichcdoijieddaaGreat.Ba Go.Proofs.YtichcdoijieddaaGreat.Oc Go.Proofs.YtichcdoijieddaaGreat.Pk

def txt (l : List Nat) : ByteArray := strOfNums (ints l)
theorem txt_size (l : List Nat) : (txt l).size = l.length := by unfold txt; rw [strOfNums_size, ints_length]

theorem conv_own {W : World} {B n c : Nat} {A : Option Addr} {l : List Nat} (h : W.ownsRow B 5 1 (.slice A n c) n (ivs .u8 (ints l))) :
    (convert 95 9 (.slice A n c)).run Tryz.prog W = .ok (.string (txt l)) W := by
  by_cases hn : n = 0
  · subst hn
    have hl : l = [] := by
      have := (own_rk h).2.1
      rw [ints_length] at this
      exact List.eq_nil_of_length_eq_zero this
    subst hl
    cases A with
    | none => exact run_convert_bytes_nil W 95 5 Tryz.underlying95 Tryz.underlying5 0 c 9 Tryz.underlying9
    | some a =>
      obtain ⟨b, o, f⟩ := a
      have hf : f = none := by
        obtain ⟨_, ⟨h2, _⟩ | ⟨g, cap, cur, hv, _⟩⟩ := h
        · cases h2
        · simp only [Value.slice.injEq, Option.some.injEq, Addr.mk.injEq] at hv
          exact hv.1.2.2
      subst hf
      exact run_convert_bytes_arg W 95 5 Tryz.underlying95 Tryz.underlying5 b o 0 c [] rfl (fun i hi => absurd hi (Nat.not_lt_zero _)) 9 Tryz.underlying9
  · have hlen := (own_rk h).2.1
    obtain ⟨x0, hx0⟩ := some_at (l := ints l) (i := 0) (by omega)
    obtain ⟨q, rfl, -, -⟩ := own_at h hx0
    refine run_convert_bytes_arg W 95 5 Tryz.underlying95 Tryz.underlying5 q 0 n c (ints l) hlen (fun i hi => ?_) 9 Tryz.underlying9
    obtain ⟨x, hx⟩ := some_at (l := ints l) (i := i) (by omega)
    obtain ⟨q', e, h1, -⟩ := own_at h hx
    cases e
    rw [Nat.zero_add, h1, List.getD_eq_getElem?_getD, hx]
    rfl

theorem rbytes_ {w : World} {A : Option Addr} {l : List Nat} (h : Rk .u64 w A (ints l)) (hl : ∀ x ∈ l, x < 18446744073709551616) (c : Nat) (hn : l.length ≤ 1000000000) :
    Calls Tryz.prog 55 #[.slice A l.length c] w fun e w' => e = .returned (.string (txt (octs l))) ∧ Below w.heap.size w w' := by
  have H := Lib.hid h
  have HL := Lib.hid hl
  obtain ⟨n, hnn⟩ : ∃ n, n = l.length := ⟨_, rfl⟩
  rw [← hnn]
  rw [← hnn] at hn
  have HN := Lib.hid hnn
  clear h hl hnn
  obtain ⟨i0, hinf, hz0, hz1, hz2⟩ := info_parts (show (Tryz.prog.info? 5).map (fun i => (i.zero, i.size, i.bytes)) = some (some (.int .u8 0), 1, 1) by kernel_rfl)
  go_enter Tryz.func55, Tryz.ntmps55
  go_wp2_with fail
  go_loopw [8, 3] (fun c9 c3 wr => ∃ i : Nat, i ≤ n ∧ c9 = .int .i64 i ∧ Hid (Below w.heap.size w wr ∧ wr.ownsRow w.heap.size 5 1 c3 (8 * i) (ivs .u8 (ints (octs (l.take i)))))) (fun c9 _ _ => n - (intOf c9).toNat)
  case atStart => exact ⟨0, Nat.zero_le _, rfl, Below.refl _ _, own_nil0 _ _ _ _⟩
  case round =>
    obtain ⟨i, hi, rfl, HR⟩ := hrel
    by_cases hlt : i < n
    · obtain ⟨x, hx⟩ := some_at (l := l) (i := i) (by rw [← HN.out]; exact hlt)
      obtain ⟨a, rfl, -, ha⟩ := (H.out.below HR.out.1) i x (ints_get hx)
      have HX := Lib.hid (And.intro hx (HL.out x (List.mem_of_getElem? hx)))
      clear hx
      generalize wr = wA at *
      go_wp2_with fail
      go_loopw [12, 3, 5] (fun c13 c3 c5 wq => ∃ (j y : Nat), j ≤ 8 ∧ c13 = .int .i64 j ∧ c5 = .int .u64 y ∧ y < 18446744073709551616 ∧ Hid (y = x / 256 ^ j) ∧ Hid (Below w.heap.size w wq ∧ wq.ownsRow w.heap.size 5 1 c3 (8 * i + j) (ivs .u8 (ints (octs (l.take i) ++ (oct x).take j))))) (fun c13 _ _ _ => 8 - (intOf c13).toNat)
      case atStart => exact ⟨0, x, Nat.zero_le _, rfl, rfl, HX.out.2, by show _ = _; simp, HR.out.1, by simpa using HR.out.2⟩
      case round =>
        obtain ⟨j, y, hj, rfl, rfl, hy9, HY, HQ⟩ := hrel
        by_cases hl8 : j < 8
        · have HB := Lib.hid (oct_at x j hl8)
          obtain ⟨z, hz⟩ : ∃ z, z = y % 256 := ⟨_, rfl⟩
          have hzy : (y : Int) % 256 = (z : Int) := by omega
          have hz9 : z < 256 := by omega
          have HZE := Lib.hid hz
          have HOW := Lib.hid (fun o => own_kp (W' := wr.alloc o) HQ.out.2 (fun k _ hk => Below.heap_alloc _ _ k hk))
          clear hz
          go_wp2_with (at_builtin; refine wpList_append_own _ rfl (.tmp 14) (.tmp 18) 95 rfl w.heap.size 5 i0 (.int .u8 0) 1 1 Tryz.underlying95 hinf hz0 hz1 hz2 rfl (by decide) _ (8 * i + j) _ rfl (HOW.out _) ⟨wr.heap.size, 0, none⟩ 1 1 [.int .u8 z] rfl rfl (one_at _ _ _) (by intro u hu; simp at hu; subst hu; rfl) (by unfold maxLen; omega) (by omega) (by have h1 := HQ.out.1.size; simp; omega) ?_; intro v' w7 hown' hgrow _; (have HO := Lib.hid hown'); (have HG := Lib.hid hgrow); clear hown' hgrow)
          have hyn : (y : Int) / 256 = ((y / 256 : Nat) : Int) := by omega
          go_wp2_with fail
          go_roundw
          case rel =>
            refine ⟨j + 1, y / 256, by omega, by go_num, by first | rfl | (rw [hyn]), by omega, by show _ = _; rw [HY.out, Nat.div_div_eq_div_mul, ← Nat.pow_succ], bl_grown (bl_alloc HQ.out.1 _) HG.out (own_lo HQ.out.2), ?_⟩
            rw [take_next HB.out, ← List.append_assoc, ints_append, ivs_append, ← HY.out, ← HZE.out]
            exact HO.out
          case measure => simp [intOf]; omega
        · obtain rfl : j = 8 := by omega
          have hz : Below w.heap.size w wr ∧ wr.ownsRow w.heap.size 5 1 u3 (8 * (i + 1)) (ivs .u8 (ints (octs (l.take (i + 1))))) := by
            refine ⟨HQ.out.1, ?_⟩
            have := HQ.out.2
            rw [List.take_of_length_le (l := oct x) (by rw [oct_len]; omega), ← octs_snoc, ← take_next HX.out.1] at this
            exact this
          have HZ := Lib.hid hz
          clear hz
          go_wp2_with fail
          go_roundw
          case rel => exact ⟨i + 1, by omega, by go_num, HZ.out⟩
          case measure => simp [intOf]; omega
    · obtain rfl : i = n := by omega
      have h2 := HR.out.2
      rw [List.take_of_length_le (by rw [← HN.out]; omega)] at h2
      have HB2 := Lib.hid HR.out.1
      obtain ⟨A2, c2, e2⟩ := own_slice h2
      subst e2
      have hcv := conv_own h2
      clear h2 HR
      go_wp2_with fail
      go_ret
      exact ⟨rfl, HB2.out⟩

end Go.Proofs.YtichcdoijieddaaGreat.Cc
end

/- The document's sums (cantleref02.Sum32, Sum16). -/
section
set_option linter.unusedVariables false
set_option linter.unusedSimpArgs false
set_option maxHeartbeats 2000000
set_option maxRecDepth 100000
namespace Go.Proofs.YtichcdoijieddaaGreat.Cc
open Go Go.RowKit
open Go.Proofs.YtichcdoijieddaaGreat.Ob Go.Proofs.YtichcdoijieddaaGreat.Ba Go.Proofs.YtichcdoijieddaaGreat.Oc Go.Proofs.YtichcdoijieddaaGreat.Pk Go.Proofs.YtichcdoijieddaaGreat.Cr Go.Proofs.YtichcdoijieddaaGreat.C6

theorem itr_snoc (r x : Nat) : ∀ n, itr (n + 1) r x = rbit (itr n r x) (x / 2 ^ n % 2) := by
  intro n
  induction n generalizing r x with
  | zero => simp [itr]
  | succ n ih =>
    show itr (n + 1) (rbit r (x % 2)) (x / 2) = _
    rw [ih, Nat.div_div_eq_div_mul, Nat.mul_comm 2, ← Nat.pow_succ]
    rfl
def rS (l : List Nat) : Nat → Nat
  | 0 => 4294967295
  | k + 1 => rbit (rS l k) (l.getD (k / 8) 0 / 2 ^ (k % 8) % 2)
theorem rS_at (l : List Nat) (hl : ∀ x ∈ l, x < 256) (p : Nat) (hp : p ≤ l.length) : rS l (8 * p) = sumB 4294967295 (l.take p) ∧ (p < l.length → ∀ q, q ≤ 8 → rS l (8 * p + q) = itr q (sumB 4294967295 (l.take p)) (l.getD p 0)) := by
  have step : ∀ p, p < l.length → rS l (8 * p) = sumB 4294967295 (l.take p) → ∀ q, q ≤ 8 → rS l (8 * p + q) = itr q (sumB 4294967295 (l.take p)) (l.getD p 0) := by
    intro p hp h q
    induction q with
    | zero => intro _; simpa [itr] using h
    | succ q ih =>
      intro hq
      show rbit (rS l (8 * p + q)) (l.getD ((8 * p + q) / 8) 0 / 2 ^ ((8 * p + q) % 8) % 2) = _
      rw [ih (by omega), itr_snoc, show (8 * p + q) / 8 = p from by omega, show (8 * p + q) % 8 = q from by omega]
  induction p with
  | zero => exact ⟨by simp [rS, sumB], fun h => step 0 h (by simp [rS, sumB])⟩
  | succ p ih =>
    obtain ⟨h1, h2⟩ := ih (by omega)
    have h3 : rS l (8 * (p + 1)) = sumB 4294967295 (l.take (p + 1)) := by
      rw [show 8 * (p + 1) = 8 * p + 8 from by omega, h2 (by omega) 8 (Nat.le_refl _)]
      obtain ⟨x, hx⟩ := some_at (l := l) (i := p) (by omega)
      rw [take_next hx, sumB_app, sumB_one_, List.getD_eq_getElem?_getD, hx, stp_eq _ _ (hl x (List.mem_of_getElem? hx))]
      rfl
    exact ⟨h3, fun h => step (p + 1) h h3⟩
theorem rbit_lt (r b : Nat) (h : r < 4294967296) : rbit r b < 4294967296 := by
  unfold rbit
  split
  · omega
  · exact xor_lt32 (by omega) (by decide)
theorem rS_lt (l : List Nat) : ∀ k, rS l k < 4294967296
  | 0 => by show 4294967295 < 4294967296; omega
  | k + 1 => rbit_lt _ _ (rS_lt l k)

theorem itr6_snoc (r y : Nat) : ∀ n, itr6 (n + 1) r y = rbit6 (itr6 n r y) ((dbls n y).testBit 15) := by
  intro n
  induction n generalizing r y with
  | zero => rfl
  | succ n ih =>
    show itr6 (n + 1) (rbit6 r (y.testBit 15)) (dbl y) = _
    rw [ih]
    rfl
def rb6 (r b : Nat) : Nat := if b = r / 32768 then dbl r else dbl r ^^^ P16
theorem rb6_eq (r x j : Nat) (hr : r < 65536) : rbit6 r (x.testBit j) = rb6 r (x / 2 ^ j % 2) := by
  unfold rbit6 rb6
  rw [top16 r hr, Nat.testBit_eq_decide_div_mod_eq]
  have h1 : x / 2 ^ j % 2 < 2 := Nat.mod_lt _ (by decide)
  by_cases h : x / 2 ^ j % 2 = 1 <;> by_cases h2 : 32768 ≤ r
  · rw [if_pos (by simp [h, h2]), if_pos (by omega)]
  · rw [if_neg (by simp [h, h2]), if_neg (by omega)]
  · rw [if_neg (by simp [h, h2]), if_neg (by omega)]
  · rw [if_pos (by simp [h, h2]), if_pos (by omega)]
def qS (l : List Nat) : Nat → Nat
  | 0 => 65535
  | k + 1 => rb6 (qS l k) (l.getD (k / 8) 0 / 2 ^ (7 - k % 8) % 2)
theorem rb6_lt (r b : Nat) : rb6 r b < 65536 := by
  unfold rb6
  split
  · exact dbl_lt _
  · exact xor_lt16 (dbl_lt _) (by decide)
theorem qS_lt (l : List Nat) : ∀ k, qS l k < 65536
  | 0 => by show 65535 < 65536; omega
  | k + 1 => rb6_lt _ _
theorem qS_at (l : List Nat) (hl : ∀ x ∈ l, x < 256) (p : Nat) (hp : p ≤ l.length) : qS l (8 * p) = sum6 65535 (l.take p) ∧ (p < l.length → ∀ q, q ≤ 8 → qS l (8 * p + q) = itr6 q (sum6 65535 (l.take p)) (256 * l.getD p 0)) := by
  have step : ∀ p, p < l.length → qS l (8 * p) = sum6 65535 (l.take p) → ∀ q, q ≤ 8 → qS l (8 * p + q) = itr6 q (sum6 65535 (l.take p)) (256 * l.getD p 0) := by
    intro p hp h q
    induction q with
    | zero => intro _; simpa [itr6] using h
    | succ q ih =>
      intro hq
      have hlt := qS_lt l (8 * p + q)
      show rb6 (qS l (8 * p + q)) (l.getD ((8 * p + q) / 8) 0 / 2 ^ (7 - (8 * p + q) % 8) % 2) = _
      rw [ih (by omega)] at hlt
      rw [ih (by omega), itr6_snoc, bit_at _ _ (by omega), rb6_eq _ _ _ hlt, show (8 * p + q) / 8 = p from by omega, show (8 * p + q) % 8 = q from by omega]
  induction p with
  | zero => exact ⟨by simp [qS, sum6], fun h => step 0 h (by simp [qS, sum6])⟩
  | succ p ih =>
    obtain ⟨h1, h2⟩ := ih (by omega)
    have h3 : qS l (8 * (p + 1)) = sum6 65535 (l.take (p + 1)) := by
      rw [show 8 * (p + 1) = 8 * p + 8 from by omega, h2 (by omega) 8 (Nat.le_refl _)]
      obtain ⟨x, hx⟩ := some_at (l := l) (i := p) (by omega)
      rw [take_next hx, sum6_app, sum6_one_, List.getD_eq_getElem?_getD, hx, stp_eq6 _ _ (hl x (List.mem_of_getElem? hx))]
      rfl
    exact ⟨h3, fun h => step (p + 1) h h3⟩

theorem index_txt (T : TypeId) (hT : Tryz.prog.underlying T = some .string) {l : List Nat} (hl : ∀ x ∈ l, x < 256) {i x : Nat} (hx : l[i]? = some x) (w : World) :
    (Instr.index T (.string (txt l)) (.int .i64 (i : Int))).run Tryz.prog w = .ok (.int .u8 x) w := by
  rw [run_index_string w T (txt l) .i64 i hT]
  have hi := (List.getElem?_eq_some_iff.1 hx).1
  have hsz := txt_size l
  rw [dif_pos ⟨by omega, by omega⟩]
  congr 2
  have hx9 := hl x (List.mem_of_getElem? hx)
  have : ((txt l)[(i : Int).toNat]'(by omega)) = UInt8.ofNat x := by
    have h1 : (txt l).data.toList[i]? = some (UInt8.ofNat x) := by
      unfold txt
      rw [strOfNums_data, List.getElem?_map, ints_get hx]
      rfl
    have h2 := (List.getElem?_eq_some_iff.1 h1).2
    rw [← h2]
    rfl
  rw [this]
  simp
  omega

theorem rsum32_ {l : List Nat} (hl : ∀ x ∈ l, x < 256) (hn : l.length ≤ 1000000000) (w : World) :
    Calls Tryz.prog 54 #[.string (txt l)] w fun e w' => e = .returned (.int .u32 (4294967295 - sumB 4294967295 l : Nat)) ∧ w = w' := by
  have HL := Lib.hid hl
  have hsz := txt_size l
  have HIX : Hid (∀ {i x : Nat} (hx : l[i]? = some x) (w : World), (Instr.index 9 (.string (txt l)) (.int .i64 (i : Int))).run Tryz.prog w = .ok (.int .u8 x) w) := fun hx w => index_txt 9 Tryz.underlying9 hl hx w
  have HF : Hid (rS l (8 * l.length) = sumB 4294967295 l ∧ rS l (8 * l.length) < 4294967296) := by
    refine ⟨?_, rS_lt l _⟩
    rw [(rS_at l hl l.length (Nat.le_refl _)).1, List.take_length]
  generalize txt l = S at *
  obtain ⟨n, hnn⟩ : ∃ n, n = l.length := ⟨_, rfl⟩
  rw [← hnn] at hsz hn HF
  have HN := Lib.hid hnn
  clear hl hnn
  go_enter Tryz.func54, Tryz.ntmps54
  go_wp2_with fail
  go_loop [3, 4] (fun c3 c4 => ∃ k r : Nat, k ≤ 8 * n ∧ c4 = .int .i64 k ∧ c3 = .int .u32 r ∧ r < 4294967296 ∧ Hid (r = rS l k)) (fun _ c4 => 8 * n - (intOf c4).toNat)
  case atStart => exact ⟨0, 4294967295, Nat.zero_le _, rfl, rfl, by decide, rfl⟩
  case round =>
    obtain ⟨k, r, hk, rfl, rfl, hr9, HR⟩ := hrel
    by_cases hlt : k < 8 * n
    · obtain ⟨x, hx⟩ := some_at (l := l) (i := k / 8) (by rw [← HN.out]; omega)
      have hx9 := HL.out x (List.mem_of_getElem? hx)
      have hix := HIX.out hx
      have HX := Lib.hid hx
      obtain ⟨p, hp⟩ : ∃ p, p = k / 8 := ⟨_, rfl⟩
      obtain ⟨q, hq⟩ : ∃ q, q = k % 8 := ⟨_, rfl⟩
      have hp1 : (k : Int) / 8 = (p : Int) := by omega
      have hq1 : (k : Int) % 8 = (q : Int) := by omega
      have hq9 : q < 8 := by omega
      obtain ⟨y, hy⟩ : ∃ y, y = x / 2 ^ q := ⟨_, rfl⟩
      have hy1 : (x : Int) / 2 ^ q = (y : Int) := by rw [hy]; norm_cast
      have hy9 : y < 256 := by rw [hy]; exact Nat.lt_of_le_of_lt (Nat.div_le_self _ _) hx9
      have hb1 := bits_and1 y (by omega)
      have hb2 := bits_and1 r hr9
      have HQ := Lib.hid (And.intro hp (And.intro hq hy))
      rw [← hp] at hix
      clear hx hp hq hy
      obtain ⟨h, hh⟩ : ∃ h, h = r / 2 := ⟨_, rfl⟩
      have hh1 : (r : Int) / 2 = (h : Int) := by omega
      have hx1 : bits .xor .u32 (h : Int) 3988292384 = ((h ^^^ P32 : Nat) : Int) := bits_xor32 h P32 (by omega) (by decide)
      have HH := Lib.hid hh
      clear hh
      have HSTEP : Hid (rS l (k + 1) = if y % 2 = r % 2 then h else h ^^^ P32) := by
        show rbit (rS l k) _ = _
        rw [← HR.out, ← HQ.out.1, ← HQ.out.2.1, List.getD_eq_getElem?_getD, HQ.out.1, HX.out, HH.out]
        show rbit r (x / 2 ^ q % 2) = _
        rw [← HQ.out.2.2]
        rfl
      have HLT : Hid (rS l (k + 1) < 4294967296) := rS_lt l _
      by_cases hbit : y % 2 = r % 2
      · have e1 : ((y : Int) % 2 != (r : Int) % 2) = false := by rw [bne_eq_false_iff_eq]; omega
        have HS2 : Hid (rS l (k + 1) = h) := by show _ = _; rw [HSTEP.out, if_pos hbit]
        clear hbit HSTEP
        go_wp2_with fail
        go_round
        case rel => exact ⟨k + 1, h, hlt, by go_num, rfl, by rw [← HS2.out]; exact HLT.out, HS2.out.symm⟩
        case measure => simp [intOf]; omega
      · have e1 : ((y : Int) % 2 != (r : Int) % 2) = true := by rw [bne_iff_ne]; omega
        have HS2 : Hid (rS l (k + 1) = h ^^^ P32) := by show _ = _; rw [HSTEP.out, if_neg hbit]
        clear hbit HSTEP
        go_wp2_with fail
        go_round
        case rel => exact ⟨k + 1, h ^^^ P32, hlt, by go_num, rfl, by rw [← HS2.out]; exact HLT.out, HS2.out.symm⟩
        case measure => simp [intOf]; omega
    · obtain rfl : k = 8 * n := by omega
      have hr0 : r = sumB 4294967295 l := HR.out.trans HF.out.1
      have hq : IntKind.u32.wrap (4294967295 - (r : Int)) = ((4294967295 - r : Nat) : Int) := by simp [IntKind.wrap, IntKind.bits, IntKind.signed]; omega
      have HQ := Lib.hid hr0
      clear hr0 hq
      go_wp2_with fail
      go_ret
      exact ⟨ret_int (by rw [← HQ.out]; omega), rfl⟩

theorem rsum16_ {l : List Nat} (hl : ∀ x ∈ l, x < 256) (hn : l.length ≤ 1000000000) (w : World) :
    Calls Tryz.prog 137 #[.string (txt l)] w fun e w' => e = .returned (.int .u16 (sum6 65535 l : Nat)) ∧ w = w' := by
  have HL := Lib.hid hl
  have hsz := txt_size l
  have HIX : Hid (∀ {i x : Nat} (hx : l[i]? = some x) (w : World), (Instr.index 9 (.string (txt l)) (.int .i64 (i : Int))).run Tryz.prog w = .ok (.int .u8 x) w) := fun hx w => index_txt 9 Tryz.underlying9 hl hx w
  have HF : Hid (qS l (8 * l.length) = sum6 65535 l) := by
    show _ = _
    rw [(qS_at l hl l.length (Nat.le_refl _)).1, List.take_length]
  generalize txt l = S at *
  obtain ⟨n, hnn⟩ : ∃ n, n = l.length := ⟨_, rfl⟩
  rw [← hnn] at hsz hn HF
  have HN := Lib.hid hnn
  clear hl hnn
  go_enter Tryz.func137, Tryz.ntmps137
  go_wp2_with fail
  go_loop [3, 4] (fun c3 c4 => ∃ k r : Nat, k ≤ 8 * n ∧ c4 = .int .i64 k ∧ c3 = .int .u16 r ∧ r < 65536 ∧ Hid (r = qS l k)) (fun _ c4 => 8 * n - (intOf c4).toNat)
  case atStart => exact ⟨0, 65535, Nat.zero_le _, rfl, rfl, by decide, rfl⟩
  case round =>
    obtain ⟨k, r, hk, rfl, rfl, hr9, HR⟩ := hrel
    by_cases hlt : k < 8 * n
    · obtain ⟨x, hx⟩ := some_at (l := l) (i := k / 8) (by rw [← HN.out]; omega)
      have hx9 := HL.out x (List.mem_of_getElem? hx)
      have hix := HIX.out hx
      have HX := Lib.hid hx
      obtain ⟨p, hp⟩ : ∃ p, p = k / 8 := ⟨_, rfl⟩
      obtain ⟨q, hq⟩ : ∃ q, q = 7 - k % 8 := ⟨_, rfl⟩
      have hp1 : (k : Int) / 8 = (p : Int) := by omega
      have hq1 : 7 - (k : Int) % 8 = (q : Int) := by omega
      have hq9 : q < 8 := by omega
      obtain ⟨y, hy⟩ : ∃ y, y = x / 2 ^ q := ⟨_, rfl⟩
      have hy1 : (x : Int) / 2 ^ q = (y : Int) := by rw [hy]; norm_cast
      have hy9 : y < 256 := by rw [hy]; exact Nat.lt_of_le_of_lt (Nat.div_le_self _ _) hx9
      have hb1 : bits .and .u16 (y : Int) 1 = ((y % 2 : Nat) : Int) := by
        have := bits_and16 y 1 (by omega) (by decide)
        rw [Nat.and_one_is_mod] at this
        exact this
      have HQ := Lib.hid (And.intro hp (And.intro hq hy))
      rw [← hp] at hix
      clear hx hp hq hy
      obtain ⟨h, hh⟩ : ∃ h, h = dbl r := ⟨_, rfl⟩
      have hh9 : h < 65536 := by rw [hh]; exact dbl_lt r
      have hh1 : IntKind.u16.wrap ((r : Int) * 2) = (h : Int) := by
        rw [hh]
        simp [IntKind.wrap, IntKind.bits, IntKind.signed, dbl]
        omega
      have hx1 : bits .xor .u16 (h : Int) 4129 = ((h ^^^ P16 : Nat) : Int) := bits_xor16 h P16 hh9 (by decide)
      have HH := Lib.hid hh
      clear hh
      have HSTEP : Hid (qS l (k + 1) = if y % 2 = r / 32768 then h else h ^^^ P16) := by
        show rb6 (qS l k) (l.getD (k / 8) 0 / 2 ^ (7 - k % 8) % 2) = _
        rw [← HR.out, ← HQ.out.2.1, List.getD_eq_getElem?_getD, HX.out, HH.out]
        show rb6 r (x / 2 ^ q % 2) = _
        rw [← HQ.out.2.2]
        rfl
      have HLT : Hid (qS l (k + 1) < 65536) := qS_lt l _
      by_cases hbit : y % 2 = r / 32768
      · have e1 : ((y : Int) % 2 != (r : Int) / 32768) = false := by rw [bne_eq_false_iff_eq]; omega
        have HS2 : Hid (qS l (k + 1) = h) := by show _ = _; rw [HSTEP.out, if_pos hbit]
        clear hbit HSTEP
        go_wp2_with fail
        go_round
        case rel => exact ⟨k + 1, h, hlt, by go_num, rfl, by rw [← HS2.out]; exact HLT.out, HS2.out.symm⟩
        case measure => simp [intOf]; omega
      · have e1 : ((y : Int) % 2 != (r : Int) / 32768) = true := by rw [bne_iff_ne]; omega
        have HS2 : Hid (qS l (k + 1) = h ^^^ P16) := by show _ = _; rw [HSTEP.out, if_neg hbit]
        clear hbit HSTEP
        go_wp2_with fail
        go_round
        case rel => exact ⟨k + 1, h ^^^ P16, hlt, by go_num, rfl, by rw [← HS2.out]; exact HLT.out, HS2.out.symm⟩
        case measure => simp [intOf]; omega
    · obtain rfl : k = 8 * n := by omega
      have HQ := Lib.hid (HR.out.trans HF.out)
      go_wp2_with fail
      go_ret
      exact ⟨ret_int (by rw [HQ.out]), rfl⟩

end Go.Proofs.YtichcdoijieddaaGreat.Cc
end

/- The document's superblock (cantleref05.Encode). -/
section
set_option linter.unusedVariables false
set_option linter.unusedSimpArgs false
set_option maxHeartbeats 2000000
set_option maxRecDepth 100000
namespace Go.Proofs.YtichcdoijieddaaGreat.Su
open Go Go.RowKit
open Go.Proofs.YtichcdoijieddaaGreat.Ob Go.Proofs.YtichcdoijieddaaGreat.Ba Go.Proofs.YtichcdoijieddaaGreat.Ko Go.Proofs.YtichcdoijieddaaGreat.Ge Go.Proofs.YtichcdoijieddaaGreat.Cr Go.Proofs.YtichcdoijieddaaGreat.Cc Go.Proofs.YtichcdoijieddaaGreat.Oc Go.Proofs.YtichcdoijieddaaGreat.Pk

def mname : List Nat := [67, 65, 78, 84, 76, 69, 48, 49]
def mg : Nat → Nat
  | 0 => 0
  | k + 1 => 256 * mg k + mname.getD (7 - k) 0
theorem mg_lt (k : Nat) (h : k ≤ 7) : mg k < 72057594037927936 := by
  match k, h with
  | 0, _ | 1, _ | 2, _ | 3, _ | 4, _ | 5, _ | 6, _ | 7, _ => decide
theorem mg8 : mg 8 = magic := by decide

theorem rhead {w : World} (a b : Nat) : Rk .u64 (w.alloc (.cells #[.int .u64 a, .int .u64 b, .int .u64 0, .int .u64 0, .int .u64 0, .int .u64 0, .int .u64 0] 60)) (some ⟨w.heap.size, 0, none⟩) (ints (head7 a b)) := by
  refine blk_rk (alloc_new w (.cells #[.int .u64 a, .int .u64 b, .int .u64 0, .int .u64 0, .int .u64 0, .int .u64 0, .int .u64 0] 60)) fun i z hz => ?_
  match i with
  | 0 | 1 | 2 | 3 | 4 | 5 | 6 => simpa [ints, head7] using hz
  | i + 7 => simp [ints, head7] at hz

theorem rencode_yes (n m s : Nat) (h : geoOk n m s = true) (hn : n < 65536) (hm : m < 65536) (hs : s < 65536) (w : World) :
    Calls Tryz.prog 88 #[.int .i64 n, .int .i64 m, .int .i64 s] w fun e w' => ∃ v, e = .returned (.tuple #[v, .bool true]) ∧ w'.ownsRow w.heap.size 60 1 v 8 (ivs .u64 (ints (enc n m s))) ∧ Below w.heap.size w w' := by
  have hof := of_any n m s
  have hp : (parts n m s).2.2.2.2.2 = true := by unfold parts; rw [h]; rfl
  rw [hp] at hof
  have HOF := Lib.hid hof
  generalize parts n m s = pp at *
  obtain ⟨p1, p2, p3, p4, p5, p6⟩ := pp
  have hix : Hid (∀ {i x : Nat} (hx : mname[i]? = some x) (w : World), (Instr.index 9 (.string ⟨#[67, 65, 78, 84, 76, 69, 48, 49]⟩) (.int .i64 (i : Int))).run Tryz.prog w = .ok (.int .u8 x) w) := fun hx w =>
    index_txt 9 Tryz.underlying9 (l := mname) (by decide) hx w
  obtain ⟨i0, hinf, hz0, hz1, hz2⟩ := info_parts info_u64
  clear h hof hp
  go_enter Tryz.func88, Tryz.ntmps88
  go_wp2_with (go_at_call 117; refine (HOF.out _).mono ?_; rintro e w1 ⟨rfl, hb⟩; (have HB := Lib.hid hb); clear hb)
  generalize hw2 : w1.alloc (.cells #[.int .i64 p1, .int .i64 p2, .int .i64 p3, .int .i64 p4, .int .i64 p5] 31) = w2
  have HB2 : Hid (Below w.heap.size w w2) := by rw [← hw2]; exact bl_alloc HB.out _
  clear hw2 HB
  go_loop [10, 11] (fun c10 c11 => ∃ (k y : Nat) (z : Int), k ≤ 8 ∧ z = 7 - (k : Int) ∧ c11 = .int .i64 z ∧ c10 = .int .u64 y ∧ Hid (y = mg k)) (fun _ c11 => (intOf c11 + 1).toNat)
  case atStart => exact ⟨0, 0, 7, Nat.zero_le _, rfl, rfl, rfl, rfl⟩
  case round =>
    obtain ⟨k, y, z, hk, hz, rfl, rfl, HY⟩ := hrel
    by_cases hlt : k < 8
    · obtain ⟨x, hx⟩ := some_at (l := mname) (i := 7 - k) (by simp [mname]; omega)
      have hx9 : x < 256 := (by decide : ∀ x ∈ mname, x < 256) x (List.mem_of_getElem? hx)
      have hy9 : y < 72057594037927936 := by rw [HY.out]; exact mg_lt k (by omega)
      have hi := hix.out hx
      rw [show ((7 - k : Nat) : Int) = z from by omega] at hi
      have hz0 : 0 ≤ z := by omega
      have hz7 : z ≤ 7 := by omega
      have HS : Hid (mg (k + 1) = 256 * y + x) := by
        show 256 * mg k + mname.getD (7 - k) 0 = _
        rw [HY.out, List.getD_eq_getElem?_getD, hx]
        rfl
      have HK := Lib.hid (And.intro hz hlt)
      clear hx hk hz hlt
      go_wp2_with fail
      go_round
      case rel => exact ⟨k + 1, 256 * y + x, z - 1, HK.out.2, by have := HK.out.1; omega, rfl, by go_num, HS.out.symm⟩
      case measure => simp [intOf]; omega
    · obtain rfl : k = 8 := by omega
      obtain rfl : z = -1 := by omega
      have hy : y = magic := HY.out.trans mg8
      have HM := Lib.hid hy
      have hy9 : y < 18446744073709551616 := by rw [hy]; decide
      clear hy hk HY
      go_wp2_with fail
      obtain ⟨x, hx⟩ : ∃ x, x = word1 n m s := ⟨_, rfl⟩
      have hxi : (n : Int) + 65536 * m + 4294967296 * s = (x : Nat) := by rw [hx]; unfold word1; omega
      have hx9 : x < 18446744073709551616 := by rw [hx]; unfold word1; omega
      have HX := Lib.hid hx
      rw [hxi]
      have hrb := rbytes_ (rhead (w := w2) y x) (head7_lt hy9 hx9) 7 (by simp [head7])
      rw [show (head7 y x).length = 7 from rfl] at hrb
      have HSM : Hid (∀ w, Calls Tryz.prog 54 #[.string (txt (octs (head7 y x)))] w fun e w' => e = .returned (.int .u32 (sum7 y x : Nat)) ∧ w = w') := fun w => rsum32_ (octs_lt _) (by rw [octs_length]; simp [head7]) w
      have hrow : (w2.alloc (.cells #[.int .u64 y, .int .u64 x, .int .u64 0, .int .u64 0, .int .u64 0, .int .u64 0, .int .u64 0] 60)).ownsRow w.heap.size 60 1 (.slice (some ⟨w2.heap.size, 0, none⟩) 7 7) 7 (ivs .u64 (ints (head7 y x))) :=
        own_new (k := .u64) (l := ints (head7 y x)) (alloc_new w2 _) HB2.out.size rfl (by unfold maxLen; omega)
      have HROW := Lib.hid hrow
      have hs9 := sum7_lt y x
      have HBA := Lib.hid (bl_alloc HB2.out (.cells #[.int .u64 y, .int .u64 x, .int .u64 0, .int .u64 0, .int .u64 0, .int .u64 0, .int .u64 0] 60))
      clear hx hxi hrow
      generalize txt (octs (head7 y x)) = S at *
      have HSE : Hid (line y x = head7 y x ++ [sum7 y x]) := rfl
      generalize sum7 y x = t at *
      refine hrb.mono ?_
      clear hrb
      rintro e w3 ⟨rfl, hb3⟩
      have hrow3 := own_bl HROW.out hb3
      have HB3 := Lib.hid (bl_then HBA.out hb3)
      have HOW := Lib.hid (fun o => own_kp (W' := w3.alloc o) hrow3 (fun k _ hk => Below.heap_alloc _ _ k hk))
      have HR3 := Lib.hid hrow3
      clear hb3 hrow3
      go_wp2_with (first | (go_at_call 54; refine (HSM.out _).mono ?_; rintro e w4 ⟨rfl, rfl⟩) |
        (at_builtin; refine wpList_append_own _ rfl (.tmp 44) (.tmp 49) 22 rfl w.heap.size 60 i0 (.int .u64 0) 1 8 Tryz.underlying22 hinf hz0 hz1 hz2 rfl (by decide) _ 7 _ rfl (HOW.out _) ⟨w3.heap.size, 0, none⟩ 1 1 [.int .u64 t] rfl rfl (one_at _ _ _) (by intro u hu; simp at hu; subst hu; rfl) (by unfold maxLen; omega) (by omega) (by have h1 := HB3.out.size; simp; omega) ?_; intro v' w7 hown' hgrow _; (have HO := Lib.hid hown'); (have HG := Lib.hid hgrow); clear hown' hgrow))
      go_ret2
      refine ⟨_, rfl, ?_, bl_grown (bl_alloc HB3.out _) HG.out (own_lo HR3.out)⟩
      unfold enc
      rw [← HX.out, ← HM.out, HSE.out, ints_append, ivs_append]
      exact HO.out

end Go.Proofs.YtichcdoijieddaaGreat.Su
end
