/- Parts of the proof, one behind the other: Bm, By, Qb, Ce, Qs. -/
import Derived.Test.YtichcdoijieddaaGreatG02
import Derived.Deep.QuietTactic
import Derived.BigQuiet
import Derived.Laws.BytesArg

/- package bitmap: which blocks are used. -/
section
set_option linter.unusedVariables false
set_option linter.unusedSimpArgs false
set_option maxHeartbeats 2000000
set_option maxRecDepth 100000
namespace Go.Proofs.YtichcdoijieddaaGreat.Bm
open Go Go.RowKit
open Go.Proofs.YtichcdoijieddaaGreat.Ob Go.Proofs.YtichcdoijieddaaGreat.Ba Go.Proofs.YtichcdoijieddaaGreat.Oc Go.Proofs.YtichcdoijieddaaGreat.Pk

/-- a map of n blocks in words l -/
structure Bm (W : World) (B b n : Nat) (l : List Nat) (A : Option Addr) (c : Nat) : Prop where
  box : W.heap[b]? = some (.cells #[.int .i64 n, .slice A l.length c] 125 (0, 0))
  row : W.ownsRow B 60 1 (.slice A l.length c) l.length (ivs .u64 (ints l))
  lo : B ≤ b
  apart : ∀ a, A = some a → a.block ≠ b
  len : l.length = (n + 63) / 64
  lt : ∀ x ∈ l, x < 18446744073709551616
  le : n ≤ 65534

theorem Bm.keep {W W' : World} {B b n : Nat} {l : List Nat} {A : Option Addr} {c : Nat} (h : Bm W B b n l A c) (hb : Below W.heap.size W W') : Bm W' B b n l A c :=
  ⟨blk_bl h.box hb, own_bl h.row hb, h.lo, h.apart, h.len, h.lt, h.le⟩

def bget (l : List Nat) (i : Nat) : Bool := (l.getD (i / 64) 0).testBit (i % 64)
def bhas (n : Nat) (l : List Nat) (i : Int) : Bool := decide (0 ≤ i) && decide (i < n) && bget l i.toNat

theorem bit_and (x r : Nat) (hx : x < 18446744073709551616) : (Go.bits .and .u64 ((x : Int) / 2 ^ r) 1 == 1) = x.testBit r := by
  have e : (x : Int) / 2 ^ r = ((x / 2 ^ r : Nat) : Int) := by norm_cast
  have hlt : x / 2 ^ r < 18446744073709551616 := Nat.lt_of_le_of_lt (Nat.div_le_self _ _) hx
  have hk : IntKind.u64.bits = 64 := rfl
  have h1 : Go.bits .and .u64 ((x / 2 ^ r : Nat) : Int) 1 = ((x / 2 ^ r % 2 : Nat) : Int) := by
    rw [show (1 : Int) = ((1 : Nat) : Int) from rfl]
    simp only [Go.bits, hk, BitVec.ofInt_natCast, BitVec.toNat_and, BitVec.toNat_ofNat]
    rw [show (2 : Nat) ^ 64 = 18446744073709551616 from rfl, Nat.mod_eq_of_lt hlt, Nat.mod_eq_of_lt (by decide : 1 < 18446744073709551616), Nat.and_one_is_mod]
    exact wu64 _ (by omega) (by omega)
  rw [e, h1, Nat.testBit_eq_decide_div_mod_eq]
  by_cases h : x / 2 ^ r % 2 = 1
  · rw [h]; rfl
  · rw [decide_eq_false h]
    exact beq_eq_false_iff_ne.2 (by omega)

theorem has_ {W : World} {B b n : Nat} {l : List Nat} {A : Option Addr} {c : Nat} (h : Bm W B b n l A c) (i : Int) :
    Calls Tryz.prog 84 #[.pointer (some ⟨b, 0, none⟩), .int .i64 i] W fun e w' => e = .returned (.bool (bhas n l i)) ∧ w' = W := by
  have hu := Tryz.underlying125
  have k0 := cell_of h.box 0
  have k1 := cell_of h.box 1
  by_cases h1 : 0 ≤ i
  · by_cases h2 : i < n
    · obtain ⟨j, rfl⟩ : ∃ j : Nat, i = j := ⟨i.toNat, by omega⟩
      have hlen := h.len
      have hj : j < 65534 := by have := h.le; omega
      obtain ⟨x, hx⟩ := some_at (l := l) (i := j / 64) (by omega)
      obtain ⟨g, hA, hc, hf⟩ := own_at h.row (ints_get hx)
      have hx9 := h.lt x (List.mem_of_getElem? hx)
      have hv : bhas n l j = x.testBit (j % 64) := by
        unfold bhas bget
        rw [show (j : Int).toNat = j from rfl, List.getD_eq_getElem?_getD, hx]
        simp [h2]
      have hb := bit_and x (j % 64) hx9
      rw [hv]
      subst hA
      have hjl : (j : Int) / 64 < l.length := by omega
      clear hlen hv hx
      go_enter Tryz.func84, Tryz.ntmps84
      go_wp2_with fail
      go_ret
      exact ⟨rfl, rfl⟩
    · have hv : bhas n l i = false := by unfold bhas; rw [decide_eq_false h2]; simp
      rw [hv]
      go_enter Tryz.func84, Tryz.ntmps84
      go_wp2_with fail
      go_ret
      exact ⟨rfl, rfl⟩
  · have hv : bhas n l i = false := by unfold bhas; rw [decide_eq_false h1]; simp
    rw [hv]
    go_enter Tryz.func84, Tryz.ntmps84
    go_wp2_with fail
    go_ret
    exact ⟨rfl, rfl⟩

def bturn (l : List Nat) (j : Nat) : List Nat := l.set (j / 64) (l.getD (j / 64) 0 ^^^ 2 ^ (j % 64))
def turnF (n : Nat) (was : Bool) (st : List Nat × Nat) (i : Int) : List Nat × Nat := if 0 ≤ i ∧ i < n ∧ bget st.1 i.toNat = was then (bturn st.1 i.toNat, st.2 + 1) else st
def turnL (n : Nat) (was : Bool) (l : List Nat) (xs : List Int) : List Nat × Nat := xs.foldl (turnF n was) (l, 0)
theorem turnL_snoc (n : Nat) (was : Bool) (l : List Nat) (xs : List Int) (x : Int) : turnL n was l (xs ++ [x]) = turnF n was (turnL n was l xs) x := by simp [turnL]

theorem bit_xor (x r : Nat) (hx : x < 18446744073709551616) (hr : r < 64) : Go.bits .xor .u64 (x : Int) (IntKind.u64.wrap (2 ^ r)) = ((x ^^^ 2 ^ r : Nat) : Int) ∧ x ^^^ 2 ^ r < 18446744073709551616 := by
  have hk : IntKind.u64.bits = 64 := rfl
  have h2 : (2 : Nat) ^ r < 18446744073709551616 := Nat.pow_lt_pow_right (by decide) hr
  have e : IntKind.u64.wrap (2 ^ r) = ((2 ^ r : Nat) : Int) := by
    have e2 : (2 ^ r : Int) = ((2 ^ r : Nat) : Int) := by norm_cast
    rw [e2]
    exact wu64 _ (Int.natCast_nonneg _) (Int.lt_of_lt_of_le (Int.ofNat_lt.2 h2) (by decide))
  have hxx : x ^^^ 2 ^ r < 2 ^ 64 := Nat.xor_lt_two_pow hx h2
  refine ⟨?_, hxx⟩
  rw [e]
  simp only [Go.bits, hk, BitVec.ofInt_natCast, BitVec.toNat_xor, BitVec.toNat_ofNat]
  rw [show (2 : Nat) ^ 64 = 18446744073709551616 from rfl, Nat.mod_eq_of_lt hx, Nat.mod_eq_of_lt h2]
  exact wu64 _ (by omega) (by omega)

theorem Bm.turn {W : World} {B b n : Nat} {l : List Nat} {g c : Nat} (h : Bm W B b n l (some ⟨g, 0, none⟩) c) {j x : Nat} (hx : l[j / 64]? = some x) (y : Nat) (hy : y < 18446744073709551616) : Bm (W.setCell ⟨g, j / 64, none⟩ (.int .u64 y)) B b n (l.set (j / 64) y) (some ⟨g, 0, none⟩) c := by
  have hlt := (List.getElem?_eq_some_iff.1 hx).1
  have hne : g ≠ b := h.apart _ rfl
  have e : (ivs .u64 (ints l)).set (j / 64) (.int .u64 y) = ivs .u64 (ints (l.set (j / 64) y)) := by simp [ivs, ints, List.map_set]
  refine ⟨?_, ?_, h.lo, h.apart, by rw [List.length_set]; exact h.len, ?_, h.le⟩
  · rw [List.length_set]
    exact (Below.heap_setCell W _ _ b (fun e => hne e.symm)).trans h.box
  · rw [List.length_set, ← e]
    exact own_set h.row hlt _
  · intro z hz
    rcases List.mem_or_eq_of_mem_set hz with h1 | rfl
    · exact h.lt z h1
    · exact hy

/-- nothing but A's block has changed -/
structure Only (A : Option Addr) (w w' : World) : Prop where
  os : w'.os = w.os
  tape : w'.tape = w.tape
  output : w'.output = w.output
  size : w'.heap.size = w.heap.size
  block : ∀ k, (∀ a, A = some a → a.block ≠ k) → w'.heap[k]? = w.heap[k]?
theorem Only.refl (A : Option Addr) (w : World) : Only A w w := ⟨rfl, rfl, rfl, rfl, fun _ _ => rfl⟩
theorem Only.set {w w' : World} {g : Nat} (h : Only (some ⟨g, 0, none⟩) w w') (o : Nat) (v : Value) : Only (some ⟨g, 0, none⟩) w (w'.setCell ⟨g, o, none⟩ v) := by
  have hb : Below 0 w' (w'.setCell ⟨g, o, none⟩ v) := (Below.refl 0 w').setCell (Nat.zero_le _) v
  refine ⟨hb.os.trans h.os, hb.tape.trans h.tape, hb.output.trans h.output, ?_, fun k hk => ?_⟩
  · simpa using h.size
  · exact (Below.heap_setCell w' (⟨g, o, none⟩ : Addr) v k (fun e => hk _ rfl e.symm)).trans (h.block k hk)
theorem Only.drew {A : Option Addr} {w w' : World} (h : Only A w w') : Only A w w'.drew := ⟨h.os, h.tape, h.output, h.size, h.block⟩
theorem Only.below {A : Option Addr} {w w' : World} {B : Nat} (h : Only A w w') (hA : ∀ a, A = some a → B ≤ a.block) : Below B w w' :=
  ⟨h.os, h.tape, h.output, Nat.le_of_eq h.size.symm, fun k hk => h.block k (fun a ha e => by have := hA a ha; omega)⟩
theorem Only.rk {k : IntKind} {A D : Option Addr} {w w' : World} {xs : List Int} (h : Only A w w') (hx : Rk k w D xs) (hD : ∀ a a', D = some a → A = some a' → a'.block ≠ a.block) : Rk k w' D xs :=
  hx.keep (fun a ha => h.block _ (fun a' ha' => hD a a' ha ha')) (Nat.le_of_eq h.size.symm)

theorem Bm.drew {W : World} {B b n : Nat} {l : List Nat} {A : Option Addr} {c : Nat} (h : Bm W B b n l A c) : Bm W.drew B b n l A c := ⟨h.box, h.row, h.lo, h.apart, h.len, h.lt, h.le⟩

theorem turn_ {W : World} {B b n : Nat} {l : List Nat} {A : Option Addr} {c : Nat} (h : Bm W B b n l A c) (was : Bool) {D : Option Addr} {xs : List Int} (hxs : Rk .i64 W D xs) (hD : ∀ a a', D = some a → A = some a' → a'.block ≠ a.block) (cd : Nat) (hn : xs.length ≤ 1000000000) :
    Calls Tryz.prog 63 #[.pointer (some ⟨b, 0, none⟩), .bool was, .slice D xs.length cd] W fun e w' => e = .returned (.int .i64 (turnL n was l xs).2) ∧ Bm w' B b n (turnL n was l xs).1 A c ∧ Only A W w' := by
  have hu := Tryz.underlying125
  have H := Lib.hid h
  have HX := Lib.hid hxs
  have HD := Lib.hid hD
  obtain ⟨m, hm⟩ : ∃ m, m = xs.length := ⟨_, rfl⟩
  rw [← hm]
  rw [← hm] at hn
  have HN := Lib.hid hm
  clear h hxs hD hm
  go_enter Tryz.func63, Tryz.ntmps63
  go_wp2_with fail
  go_loopw [12, 7] (fun c12 c7 wr => ∃ i k : Nat, ∃ l' : List Nat, i ≤ m ∧ c12 = .int .i64 i ∧ c7 = .int .i64 k ∧ k ≤ i ∧ Hid (Bm wr B b n l' A c ∧ Only A W wr ∧ turnL n was l (xs.take i) = (l', k))) (fun c12 _ _ => m - (intOf c12).toNat)
  case atStart => exact ⟨0, 0, l, Nat.zero_le _, rfl, rfl, Nat.le_refl _, H.out, Only.refl _ _, rfl⟩
  case round =>
    obtain ⟨i, k, l', hi, rfl, rfl, hk, HR⟩ := hrel
    by_cases hlt : i < m
    · obtain ⟨x, hx⟩ := some_at (l := xs) (i := i) (by rw [← HN.out]; exact hlt)
      obtain ⟨a, rfl, -, ha⟩ := (HR.out.2.1.rk HX.out HD.out) i x hx
      have k0 := cell_of HR.out.1.box 0
      have HXI := Lib.hid hx
      have HT : Hid (turnL n was l (xs.take (i + 1)) = turnF n was (l', k) x) := by
        show _ = _
        rw [take_next hx, turnL_snoc, HR.out.2.2]
      clear hx
      by_cases h1 : 0 ≤ x
      · by_cases h2 : x < n
        · have HHX := Lib.hid (has_ HR.out.1 x)
          obtain ⟨j, rfl⟩ : ∃ j : Nat, x = j := ⟨x.toNat, by omega⟩
          have hj : j < 65534 := by have := HR.out.1.le; omega
          have hlen := HR.out.1.len
          obtain ⟨y, hy⟩ := some_at (l := l') (i := j / 64) (by omega)
          obtain ⟨g, hA, hc, hf⟩ := own_at HR.out.1.row (ints_get hy)
          subst hA
          have hy9 := HR.out.1.lt y (List.mem_of_getElem? hy)
          obtain ⟨hx1, hx2⟩ := bit_xor y (j % 64) hy9 (by omega)
          have hbg : bhas n l' j = bget l' j := by unfold bhas; simp [h2]
          have k1 := cell_of HR.out.1.box 1
          have hjl : (j : Int) / 64 < l'.length := by omega
          have HTN := Lib.hid (HR.out.1.turn hy (y ^^^ 2 ^ (j % 64)) hx2)
          have HY := Lib.hid hy
          rw [hbg] at HHX
          by_cases h3 : bget l' j = was
          · have HF : Hid (turnF n was (l', k) j = (bturn l' j, k + 1) ∧ bturn l' j = l'.set (j / 64) (y ^^^ 2 ^ (j % 64))) := by
              refine ⟨?_, ?_⟩
              · unfold turnF; rw [if_pos ⟨h1, h2, by rw [show (j : Int).toNat = j from rfl]; exact h3⟩]; rfl
              · unfold bturn; rw [List.getD_eq_getElem?_getD, HY.out]; rfl
            rw [h3] at HHX
            clear h3 hbg hlen hy hx2
            go_wp2_with fail
            refine HHX.out.mono ?_
            rintro e w5 ⟨rfl, rfl⟩
            go_wp2_with fail
            go_region
            go_wp2_with fail
            go_roundw
            case rel =>
              refine ⟨i + 1, k + 1, bturn l' j, by omega, by go_num, by go_num, by omega, ?_, ?_, ?_⟩
              · rw [HF.out.2]; exact HTN.out.drew
              · exact (HR.out.2.1.set _ _).drew
              · rw [HT.out, HF.out.1]
            case measure => simp [intOf]; omega
          · have HF : Hid (turnF n was (l', k) j = (l', k)) := by
              show _ = _
              unfold turnF; rw [if_neg (fun h => h3 (by have := h.2.2; rwa [show (j : Int).toNat = j from rfl] at this))]
            have e3 : (bget l' j == was) = false := beq_eq_false_iff_ne.2 h3
            generalize bget l' j = r at *
            clear h3 hbg hlen hy hx2
            go_wp2_with fail
            refine HHX.out.mono ?_
            rintro e w5 ⟨rfl, rfl⟩
            go_wp2_with fail
            go_roundw
            case rel => exact ⟨i + 1, k, l', by omega, by go_num, rfl, by omega, HR.out.1, HR.out.2.1, by rw [HT.out, HF.out]⟩
            case measure => simp [intOf]; omega
        · have HF : Hid (turnF n was (l', k) x = (l', k)) := by
            show _ = _
            unfold turnF; rw [if_neg (fun h => h2 h.2.1)]
          go_wp2_with fail
          go_roundw
          case rel => exact ⟨i + 1, k, l', by omega, by go_num, rfl, by omega, HR.out.1, HR.out.2.1, by rw [HT.out, HF.out]⟩
          case measure => simp [intOf]; omega
      · have HF : Hid (turnF n was (l', k) x = (l', k)) := by
          show _ = _
          unfold turnF; rw [if_neg (fun h => h1 h.1)]
        go_wp2_with fail
        go_roundw
        case rel => exact ⟨i + 1, k, l', by omega, by go_num, rfl, by omega, HR.out.1, HR.out.2.1, by rw [HT.out, HF.out]⟩
        case measure => simp [intOf]; omega
    · obtain rfl : i = m := by omega
      go_wp2_with fail
      go_ret
      have h2 := HR.out.2.2
      rw [List.take_of_length_le (by rw [← HN.out]; omega)] at h2
      rw [h2]
      exact ⟨rfl, HR.out.1, HR.out.2.1⟩

end Go.Proofs.YtichcdoijieddaaGreat.Bm
end

/- Words in bytes: the third chapter's function. -/
section
set_option linter.unusedVariables false
set_option linter.unusedSimpArgs false
set_option maxHeartbeats 1000000
set_option maxRecDepth 100000
namespace Go.Proofs.YtichcdoijieddaaGreat.Cc
open Go Go.RowKit
open Go.Proofs.YtichcdoijieddaaGreat.Ob Go.Proofs.YtichcdoijieddaaGreat.Ba Go.Proofs.YtichcdoijieddaaGreat.Cr Go.Proofs.YtichcdoijieddaaGreat.C6 Go.Proofs.YtichcdoijieddaaGreat.Oc

set_option maxHeartbeats 2000000 in
theorem bytes_ {w : World} {A : Option Addr} {l : List Nat} (h : Rk .u64 w A (ints l)) (hl : ∀ x ∈ l, x < 18446744073709551616) (c : Nat) (hn : l.length ≤ 1000000000) :
    Calls Tryz.prog 80 #[.slice A l.length c] w fun e w' => ∃ v, e = .returned v ∧ w'.ownsRow w.heap.size 5 1 v (8 * l.length) (ivs .u8 (ints (octs l))) ∧ Below w.heap.size w w' := by
  have H := Lib.hid h
  have HL := Lib.hid hl
  obtain ⟨n, hnn⟩ : ∃ n, n = l.length := ⟨_, rfl⟩
  rw [← hnn]
  rw [← hnn] at hn
  have HN := Lib.hid hnn
  clear h hl hnn
  obtain ⟨i0, hinf, hz0, hz1, hz2⟩ := info_parts (show (Tryz.prog.info? 5).map (fun i => (i.zero, i.size, i.bytes)) = some (some (.int .u8 0), 1, 1) by kernel_rfl)
  go_enter Tryz.func80, Tryz.ntmps80
  go_wp2_with fail
  go_loopw [9, 3] (fun c9 c3 wr => ∃ i : Nat, i ≤ n ∧ c9 = .int .i64 i ∧ Hid (Below w.heap.size w wr ∧ wr.ownsRow w.heap.size 5 1 c3 (8 * i) (ivs .u8 (ints (octs (l.take i)))))) (fun c9 _ _ => n - (intOf c9).toNat)
  case atStart => exact ⟨0, Nat.zero_le _, rfl, Below.refl _ _, own_nil0 _ _ _ _⟩
  case round =>
    obtain ⟨i, hi, rfl, HR⟩ := hrel
    by_cases hlt : i < n
    · obtain ⟨x, hx⟩ := some_at (l := l) (i := i) (by rw [← HN.out]; exact hlt)
      obtain ⟨a, rfl, -, ha⟩ := (H.out.below HR.out.1) i x (ints_get hx)
      have HX := Lib.hid (And.intro hx (HL.out x (List.mem_of_getElem? hx)))
      clear hx
      generalize wr = wA at *
      go_wp2_with fail
      go_loopw [13, 3] (fun c13 c3 wq => ∃ j : Nat, j ≤ 8 ∧ c13 = .int .i64 j ∧ Hid (Below w.heap.size w wq ∧ wq.ownsRow w.heap.size 5 1 c3 (8 * i + j) (ivs .u8 (ints (octs (l.take i) ++ (oct x).take j))))) (fun c13 _ _ => 8 - (intOf c13).toNat)
      case atStart => exact ⟨0, Nat.zero_le _, rfl, HR.out.1, by simpa using HR.out.2⟩
      case round =>
        obtain ⟨j, hj, rfl, HQ⟩ := hrel
        by_cases hl8 : j < 8
        · have hv := shr_at x j hl8
          have HB := Lib.hid (oct_at x j hl8)
          have hlt2 : x / 256 ^ j % 256 < 256 := Nat.mod_lt _ (by decide)
          generalize x / 256 ^ j % 256 = y at *
          have HOW := Lib.hid (fun o => own_kp (W' := wr.alloc o) HQ.out.2 (fun k _ hk => Below.heap_alloc _ _ k hk))
          go_wp2_with (at_builtin; refine wpList_append_own _ rfl (.tmp 16) (.tmp 22) 95 rfl w.heap.size 5 i0 (.int .u8 0) 1 1 Tryz.underlying95 hinf hz0 hz1 hz2 rfl (by decide) _ (8 * i + j) _ rfl (HOW.out _) ⟨wr.heap.size, 0, none⟩ 1 1 [.int .u8 y] rfl rfl (one_at _ _ _) (by intro u hu; simp at hu; subst hu; rfl) (by unfold maxLen; omega) (by omega) (by have h1 := HQ.out.1.size; simp; omega) ?_; intro v' w7 hown' hgrow _; (have HO := Lib.hid hown'); (have HG := Lib.hid hgrow); clear hown' hgrow)
          have hx1 : Below w.heap.size w w7 := bl_grown (bl_alloc HQ.out.1 _) HG.out (own_lo HQ.out.2)
          have hx2 : w7.ownsRow w.heap.size 5 1 v' (8 * i + (j + 1)) (ivs .u8 (ints (octs (l.take i) ++ (oct x).take (j + 1)))) := by
            rw [take_next HB.out, ← List.append_assoc, ints_append, ivs_append]
            exact HO.out
          have HZ := Lib.hid (And.intro hx1 hx2)
          clear hx1 hx2
          go_roundw
          case rel => exact ⟨j + 1, by omega, by go_num, HZ.out⟩
          case measure => simp [intOf]; omega
        · obtain rfl : j = 8 := by omega
          have hz : Below w.heap.size w wr ∧ wr.ownsRow w.heap.size 5 1 u3 (8 * (i + 1)) (ivs .u8 (ints (octs (l.take (i + 1))))) := by
            refine ⟨HQ.out.1, ?_⟩
            have := HQ.out.2
            rw [List.take_of_length_le (l := oct x) (by rw [oct_len]; omega), ← octs_snoc, ← take_next HX.out.1] at this
            exact this
          have HZ := Lib.hid hz
          clear hz
          go_wp2_with fail
          go_roundw
          case rel => exact ⟨i + 1, by omega, by go_num, HZ.out⟩
          case measure => simp [intOf]; omega
    · obtain rfl : i = n := by omega
      go_wp2_with fail
      go_ret
      have h2 := HR.out.2
      rw [List.take_of_length_le (by rw [← HN.out]; omega)] at h2
      exact ⟨_, rfl, h2, HR.out.1⟩

end Go.Proofs.YtichcdoijieddaaGreat.Cc
end

/- The document's words in bytes (cantleref02.Bytes). -/
section
set_option linter.unusedVariables false
set_option linter.unusedSimpArgs false
set_option maxHeartbeats 2000000
set_option maxRecDepth 100000
namespace Go.Proofs.YtichcdoijieddaaGreat.Cc
open Go Go.RowKit
open Go.Proofs.YtichcdoijieddaaGreat.Ob Go.Proofs.YtichcdoijieddaaGreat.Ba Go.Proofs.YtichcdoijieddaaGreat.Oc Go.Proofs.YtichcdoijieddaaGreat.Pk

def txt (l : List Nat) : ByteArray := strOfNums (ints l)
theorem txt_size (l : List Nat) : (txt l).size = l.length := by unfold txt; rw [strOfNums_size, ints_length]

theorem conv_own {W : World} {B n c : Nat} {A : Option Addr} {l : List Nat} (h : W.ownsRow B 5 1 (.slice A n c) n (ivs .u8 (ints l))) :
    (convert 95 9 (.slice A n c)).run Tryz.prog W = .ok (.string (txt l)) W := by
  by_cases hn : n = 0
  · subst hn
    have hl : l = [] := by
      have := (own_rk h).2.1
      rw [ints_length] at this
      exact List.eq_nil_of_length_eq_zero this
    subst hl
    cases A with
    | none => exact run_convert_bytes_nil W 95 5 Tryz.underlying95 Tryz.underlying5 0 c 9 Tryz.underlying9
    | some a =>
      obtain ⟨b, o, f⟩ := a
      have hf : f = none := by
        obtain ⟨_, ⟨h2, _⟩ | ⟨g, cap, cur, hv, _⟩⟩ := h
        · cases h2
        · simp only [Value.slice.injEq, Option.some.injEq, Addr.mk.injEq] at hv
          exact hv.1.2.2
      subst hf
      exact run_convert_bytes_arg W 95 5 Tryz.underlying95 Tryz.underlying5 b o 0 c [] rfl (fun i hi => absurd hi (Nat.not_lt_zero _)) 9 Tryz.underlying9
  · have hlen := (own_rk h).2.1
    obtain ⟨x0, hx0⟩ := some_at (l := ints l) (i := 0) (by omega)
    obtain ⟨q, rfl, -, -⟩ := own_at h hx0
    refine run_convert_bytes_arg W 95 5 Tryz.underlying95 Tryz.underlying5 q 0 n c (ints l) hlen (fun i hi => ?_) 9 Tryz.underlying9
    obtain ⟨x, hx⟩ := some_at (l := ints l) (i := i) (by omega)
    obtain ⟨q', e, h1, -⟩ := own_at h hx
    cases e
    rw [Nat.zero_add, h1, List.getD_eq_getElem?_getD, hx]
    rfl

theorem rbytes_ {w : World} {A : Option Addr} {l : List Nat} (h : Rk .u64 w A (ints l)) (hl : ∀ x ∈ l, x < 18446744073709551616) (c : Nat) (hn : l.length ≤ 1000000000) :
    Calls Tryz.prog 55 #[.slice A l.length c] w fun e w' => e = .returned (.string (txt (octs l))) ∧ Below w.heap.size w w' := by
  have H := Lib.hid h
  have HL := Lib.hid hl
  obtain ⟨n, hnn⟩ : ∃ n, n = l.length := ⟨_, rfl⟩
  rw [← hnn]
  rw [← hnn] at hn
  have HN := Lib.hid hnn
  clear h hl hnn
  obtain ⟨i0, hinf, hz0, hz1, hz2⟩ := info_parts (show (Tryz.prog.info? 5).map (fun i => (i.zero, i.size, i.bytes)) = some (some (.int .u8 0), 1, 1) by kernel_rfl)
  go_enter Tryz.func55, Tryz.ntmps55
  go_wp2_with fail
  go_loopw [8, 3] (fun c9 c3 wr => ∃ i : Nat, i ≤ n ∧ c9 = .int .i64 i ∧ Hid (Below w.heap.size w wr ∧ wr.ownsRow w.heap.size 5 1 c3 (8 * i) (ivs .u8 (ints (octs (l.take i)))))) (fun c9 _ _ => n - (intOf c9).toNat)
  case atStart => exact ⟨0, Nat.zero_le _, rfl, Below.refl _ _, own_nil0 _ _ _ _⟩
  case round =>
    obtain ⟨i, hi, rfl, HR⟩ := hrel
    by_cases hlt : i < n
    · obtain ⟨x, hx⟩ := some_at (l := l) (i := i) (by rw [← HN.out]; exact hlt)
      obtain ⟨a, rfl, -, ha⟩ := (H.out.below HR.out.1) i x (ints_get hx)
      have HX := Lib.hid (And.intro hx (HL.out x (List.mem_of_getElem? hx)))
      clear hx
      generalize wr = wA at *
      go_wp2_with fail
      go_loopw [12, 3, 5] (fun c13 c3 c5 wq => ∃ (j y : Nat), j ≤ 8 ∧ c13 = .int .i64 j ∧ c5 = .int .u64 y ∧ y < 18446744073709551616 ∧ Hid (y = x / 256 ^ j) ∧ Hid (Below w.heap.size w wq ∧ wq.ownsRow w.heap.size 5 1 c3 (8 * i + j) (ivs .u8 (ints (octs (l.take i) ++ (oct x).take j))))) (fun c13 _ _ _ => 8 - (intOf c13).toNat)
      case atStart => exact ⟨0, x, Nat.zero_le _, rfl, rfl, HX.out.2, by show _ = _; simp, HR.out.1, by simpa using HR.out.2⟩
      case round =>
        obtain ⟨j, y, hj, rfl, rfl, hy9, HY, HQ⟩ := hrel
        by_cases hl8 : j < 8
        · have HB := Lib.hid (oct_at x j hl8)
          obtain ⟨z, hz⟩ : ∃ z, z = y % 256 := ⟨_, rfl⟩
          have hzy : (y : Int) % 256 = (z : Int) := by omega
          have hz9 : z < 256 := by omega
          have HZE := Lib.hid hz
          have HOW := Lib.hid (fun o => own_kp (W' := wr.alloc o) HQ.out.2 (fun k _ hk => Below.heap_alloc _ _ k hk))
          clear hz
          go_wp2_with (at_builtin; refine wpList_append_own _ rfl (.tmp 14) (.tmp 18) 95 rfl w.heap.size 5 i0 (.int .u8 0) 1 1 Tryz.underlying95 hinf hz0 hz1 hz2 rfl (by decide) _ (8 * i + j) _ rfl (HOW.out _) ⟨wr.heap.size, 0, none⟩ 1 1 [.int .u8 z] rfl rfl (one_at _ _ _) (by intro u hu; simp at hu; subst hu; rfl) (by unfold maxLen; omega) (by omega) (by have h1 := HQ.out.1.size; simp; omega) ?_; intro v' w7 hown' hgrow _; (have HO := Lib.hid hown'); (have HG := Lib.hid hgrow); clear hown' hgrow)
          have hyn : (y : Int) / 256 = ((y / 256 : Nat) : Int) := by omega
          go_wp2_with fail
          go_roundw
          case rel =>
            refine ⟨j + 1, y / 256, by omega, by go_num, by first | rfl | (rw [hyn]), by omega, by show _ = _; rw [HY.out, Nat.div_div_eq_div_mul, ← Nat.pow_succ], bl_grown (bl_alloc HQ.out.1 _) HG.out (own_lo HQ.out.2), ?_⟩
            rw [take_next HB.out, ← List.append_assoc, ints_append, ivs_append, ← HY.out, ← HZE.out]
            exact HO.out
          case measure => simp [intOf]; omega
        · obtain rfl : j = 8 := by omega
          have hz : Below w.heap.size w wr ∧ wr.ownsRow w.heap.size 5 1 u3 (8 * (i + 1)) (ivs .u8 (ints (octs (l.take (i + 1))))) := by
            refine ⟨HQ.out.1, ?_⟩
            have := HQ.out.2
            rw [List.take_of_length_le (l := oct x) (by rw [oct_len]; omega), ← octs_snoc, ← take_next HX.out.1] at this
            exact this
          have HZ := Lib.hid hz
          clear hz
          go_wp2_with fail
          go_roundw
          case rel => exact ⟨i + 1, by omega, by go_num, HZ.out⟩
          case measure => simp [intOf]; omega
    · obtain rfl : i = n := by omega
      have h2 := HR.out.2
      rw [List.take_of_length_le (by rw [← HN.out]; omega)] at h2
      have HB2 := Lib.hid HR.out.1
      obtain ⟨A2, c2, e2⟩ := own_slice h2
      subst e2
      have hcv := conv_own h2
      clear h2 HR
      go_wp2_with fail
      go_ret
      exact ⟨rfl, HB2.out⟩

end Go.Proofs.YtichcdoijieddaaGreat.Cc
end

/- The second chapter: the sums of parts. -/
section
set_option linter.unusedVariables false
set_option linter.unusedSimpArgs false
set_option maxHeartbeats 2000000
set_option maxRecDepth 100000
namespace Go.Proofs.YtichcdoijieddaaGreat.Cc
open Go Go.RowKit
open Go.Proofs.YtichcdoijieddaaGreat.Ob Go.Proofs.YtichcdoijieddaaGreat.Ba Go.Proofs.YtichcdoijieddaaGreat.Cr Go.Proofs.YtichcdoijieddaaGreat.C6 Go.Proofs.YtichcdoijieddaaGreat.Oc

/-- bytes, and where they lie -/
structure Part where
  A : Option Addr
  c : Nat
  l : List Nat
structure Part.Ok (k : World) (p : Part) : Prop where
  rd : Rk .u8 k p.A (ints p.l)
  lt : ∀ x ∈ p.l, x < 256
  len : p.l.length ≤ 9223372036854775807
def PsAt (w : World) (A : Option Addr) (ps : List Part) : Prop := ∀ (i : Nat) p, ps[i]? = some p → p.Ok w ∧ ∃ a, A = some a ∧ w.cell? (a.add i) = some (.slice p.A p.l.length p.c)
def allOf (ps : List Part) : List Nat := ps.flatMap (·.l)
theorem allOf_next {ps : List Part} {i : Nat} {p : Part} (h : ps[i]? = some p) : allOf (ps.take (i + 1)) = allOf (ps.take i) ++ p.l := by rw [take_next h]; simp [allOf]
theorem sumB_app (s : Nat) (a b : List Nat) : sumB s (a ++ b) = sumB (sumB s a) b := List.foldl_append ..
theorem sum6_app (s : Nat) (a b : List Nat) : sum6 s (a ++ b) = sum6 (sum6 s a) b := List.foldl_append ..
theorem sumB_one_ (s x : Nat) : sumB s [x] = stp s x := rfl
theorem sum6_one_ (s x : Nat) : sum6 s [x] = stp6 s x := rfl
theorem all_lt {w : World} {A : Option Addr} {ps : List Part} (h : PsAt w A ps) : ∀ x ∈ allOf ps, x < 256 := by
  intro x hx
  simp only [allOf, List.mem_flatMap] at hx
  obtain ⟨p, hp, hx⟩ := hx
  obtain ⟨i, hi, hpi⟩ := List.getElem_of_mem hp
  exact (h i p (by rw [List.getElem?_eq_getElem hi, hpi])).1.lt x hx

theorem sum32_ {w : World} {A : Option Addr} {ps : List Part} (h : PsAt w A ps) (c : Nat) (hn : ps.length ≤ 9223372036854775807) :
    Calls Tryz.prog 121 #[.slice A ps.length c] w fun e w' => e = .returned (.int .u32 (4294967295 - (sumB 4294967295 (allOf ps) : Nat) : Int)) ∧ w = w' := by
  have H := Lib.hid h
  have HLT := Lib.hid (all_lt h)
  obtain ⟨n, hnn⟩ : ∃ n, n = ps.length := ⟨_, rfl⟩
  rw [← hnn]
  rw [← hnn] at hn
  have HN := Lib.hid hnn
  clear h hnn
  go_enter Tryz.func121, Tryz.ntmps121
  go_wp2_with fail
  go_loop [10, 3] (fun c10 c3 => ∃ (i s : Nat), i ≤ n ∧ c10 = .int .i64 i ∧ c3 = .int .u32 s ∧ s < 4294967296 ∧ Hid (s = sumB 4294967295 (allOf (ps.take i)))) (fun c10 _ => n - (intOf c10).toNat)
  case atStart => exact ⟨0, 4294967295, Nat.zero_le _, rfl, rfl, by decide, rfl⟩
  case round =>
    obtain ⟨i, s, hi, rfl, rfl, hs, HR⟩ := hrel
    by_cases hlt : i < n
    · obtain ⟨p, hp⟩ := some_at (l := ps) (i := i) (by rw [← HN.out]; exact hlt)
      obtain ⟨hok, a, rfl, ha⟩ := H.out i p hp
      obtain ⟨o1, o2, o3⟩ := hok
      have HP := Lib.hid (And.intro hp (And.intro o1 o2))
      obtain ⟨m, hm⟩ : ∃ m, m = p.l.length := ⟨_, rfl⟩
      rw [← hm] at ha o3
      have HM := Lib.hid hm
      clear hp o1 o2 hm
      go_wp2_with fail
      go_loop [16, 3] (fun c16 c3 => ∃ (j s : Nat), j ≤ m ∧ c16 = .int .i64 j ∧ c3 = .int .u32 s ∧ s < 4294967296 ∧ Hid (s = sumB 4294967295 (allOf (ps.take i) ++ p.l.take j))) (fun c16 _ => m - (intOf c16).toNat)
      case atStart => exact ⟨0, s, Nat.zero_le _, rfl, rfl, hs, by show s = _; rw [HR.out]; simp⟩
      case round =>
        obtain ⟨j, t, hj, rfl, rfl, ht, HQ⟩ := hrel
        by_cases hl : j < m
        · obtain ⟨x, hx⟩ := some_at (l := p.l) (i := j) (by rw [← HM.out]; exact hl)
          obtain ⟨b, hb, -, hcx⟩ := HP.out.2.1 j x (ints_get hx)
          rw [hb] at ha
          have hx8 : x < 256 := HP.out.2.2 x (List.mem_of_getElem? hx)
          have HX : Hid (stp t x = sumB 4294967295 (allOf (ps.take i) ++ p.l.take (j + 1))) := by
            show stp t x = _
            rw [take_next hx, ← List.append_assoc, sumB_app, ← HQ.out]
            rfl
          have hlt2 : stp t x < 4294967296 := stp_lt t x ht hx8
          have HB := Lib.hid hb
          clear hx hb
          simp only [HB.out]
          go_wp2_with (go_at_call 139; refine (step32_ t x ht hx8 _).mono ?_; rintro e w5 ⟨rfl, rfl⟩)
          go_round
          case rel => exact ⟨j + 1, _, by omega, by go_num, rfl, hlt2, HX⟩
          case measure => simp [intOf]; omega
        · obtain rfl : j = m := by omega
          have HX : Hid (t = sumB 4294967295 (allOf (ps.take (i + 1)))) := by
            have := HQ.out
            rw [List.take_of_length_le (l := p.l) (by rw [← HM.out]; omega), ← allOf_next HP.out.1] at this
            exact this
          go_wp2_with fail
          go_round
          case rel => exact ⟨i + 1, t, by omega, by go_num, rfl, ht, HX⟩
          case measure => simp [intOf]; omega
    · obtain rfl : i = n := by omega
      have HE : Hid (s = sumB 4294967295 (allOf ps)) := by
        have := HR.out
        rw [List.take_of_length_le (l := ps) (by rw [← HN.out]; omega)] at this
        exact this
      have he : Go.bits .xor .u32 IntKind.u32.max (s : Int) = 4294967295 - (s : Int) := by
        have := bits_xor32 4294967295 s (by decide) hs
        rw [not32 s hs] at this
        refine this.trans ?_
        omega
      go_wp2_with fail
      go_ret
      exact ⟨by rw [HE.out]; rfl, rfl⟩

theorem sum16_ {w : World} {A : Option Addr} {ps : List Part} (h : PsAt w A ps) (c : Nat) (hn : ps.length ≤ 9223372036854775807) :
    Calls Tryz.prog 122 #[.slice A ps.length c] w fun e w' => e = .returned (.int .u16 (sum6 65535 (allOf ps) : Nat)) ∧ w = w' := by
  have H := Lib.hid h
  have HLT := Lib.hid (all_lt h)
  obtain ⟨n, hnn⟩ : ∃ n, n = ps.length := ⟨_, rfl⟩
  rw [← hnn]
  rw [← hnn] at hn
  have HN := Lib.hid hnn
  clear h hnn
  go_enter Tryz.func122, Tryz.ntmps122
  go_wp2_with fail
  go_loop [10, 3] (fun c10 c3 => ∃ (i s : Nat), i ≤ n ∧ c10 = .int .i64 i ∧ c3 = .int .u16 s ∧ s < 65536 ∧ Hid (s = sum6 65535 (allOf (ps.take i)))) (fun c10 _ => n - (intOf c10).toNat)
  case atStart => exact ⟨0, 65535, Nat.zero_le _, rfl, rfl, by decide, rfl⟩
  case round =>
    obtain ⟨i, s, hi, rfl, rfl, hs, HR⟩ := hrel
    by_cases hlt : i < n
    · obtain ⟨p, hp⟩ := some_at (l := ps) (i := i) (by rw [← HN.out]; exact hlt)
      obtain ⟨hok, a, rfl, ha⟩ := H.out i p hp
      obtain ⟨o1, o2, o3⟩ := hok
      have HP := Lib.hid (And.intro hp (And.intro o1 o2))
      obtain ⟨m, hm⟩ : ∃ m, m = p.l.length := ⟨_, rfl⟩
      rw [← hm] at ha o3
      have HM := Lib.hid hm
      clear hp o1 o2 hm
      go_wp2_with fail
      go_loop [16, 3] (fun c16 c3 => ∃ (j s : Nat), j ≤ m ∧ c16 = .int .i64 j ∧ c3 = .int .u16 s ∧ s < 65536 ∧ Hid (s = sum6 65535 (allOf (ps.take i) ++ p.l.take j))) (fun c16 _ => m - (intOf c16).toNat)
      case atStart => exact ⟨0, s, Nat.zero_le _, rfl, rfl, hs, by show s = _; rw [HR.out]; simp⟩
      case round =>
        obtain ⟨j, t, hj, rfl, rfl, ht, HQ⟩ := hrel
        by_cases hl : j < m
        · obtain ⟨x, hx⟩ := some_at (l := p.l) (i := j) (by rw [← HM.out]; exact hl)
          obtain ⟨b, hb, -, hcx⟩ := HP.out.2.1 j x (ints_get hx)
          rw [hb] at ha
          have hx8 : x < 256 := HP.out.2.2 x (List.mem_of_getElem? hx)
          have HX : Hid (stp6 t x = sum6 65535 (allOf (ps.take i) ++ p.l.take (j + 1))) := by
            show stp6 t x = _
            rw [take_next hx, ← List.append_assoc, sum6_app, ← HQ.out]
            rfl
          have hlt2 : stp6 t x < 65536 := stp6_lt t x ht hx8
          have HB := Lib.hid hb
          clear hx hb
          simp only [HB.out]
          go_wp2_with (go_at_call 140; refine (step16_ t x ht hx8 _).mono ?_; rintro e w5 ⟨rfl, rfl⟩)
          go_round
          case rel => exact ⟨j + 1, _, by omega, by go_num, rfl, hlt2, HX⟩
          case measure => simp [intOf]; omega
        · obtain rfl : j = m := by omega
          have HX : Hid (t = sum6 65535 (allOf (ps.take (i + 1)))) := by
            have := HQ.out
            rw [List.take_of_length_le (l := p.l) (by rw [← HM.out]; omega), ← allOf_next HP.out.1] at this
            exact this
          go_wp2_with fail
          go_round
          case rel => exact ⟨i + 1, t, by omega, by go_num, rfl, ht, HX⟩
          case measure => simp [intOf]; omega
    · obtain rfl : i = n := by omega
      have HE : Hid (s = sum6 65535 (allOf ps)) := by
        have := HR.out
        rw [List.take_of_length_le (l := ps) (by rw [← HN.out]; omega)] at this
        exact this
      go_wp2_with fail
      go_ret
      exact ⟨by rw [HE.out]; rfl, rfl⟩

theorem words32_ {w : World} {A : Option Addr} {l : List Nat} (h : Rk .u64 w A (ints l)) (hl : ∀ x ∈ l, x < 18446744073709551616) (c : Nat) (hn : l.length ≤ 1000000) :
    Calls Tryz.prog 102 #[.slice A l.length c] w fun e w' => e = .returned (.int .u32 (4294967295 - (sumB 4294967295 (octs l) : Nat) : Int)) ∧ Below w.heap.size w w' := by
  have ho := octets_ h hl c (by omega)
  have HO := Lib.hid ho
  obtain ⟨n, hnn⟩ : ∃ n, n = l.length := ⟨_, rfl⟩
  have hol := octs_length l
  have HLT := Lib.hid (octs_lt l)
  clear h hl ho
  go_enter Tryz.func102, Tryz.ntmps102
  go_wp2_with fail
  refine HO.out.mono ?_
  rintro e w1 ⟨v, rfl, hown, hb⟩
  obtain ⟨A1, c1, rfl⟩ := own_slice hown
  have hrk := own_rk hown
  have HB := Lib.hid hb
  have hps : PsAt (w1.alloc (.cells #[.slice A1 (8 * l.length) c1] 95)) (some ⟨w1.heap.size, 0, none⟩) [⟨A1, c1, octs l⟩] := by
    intro i p hp
    match i, hp with
    | 0, hp =>
      simp at hp
      subst hp
      refine ⟨⟨hrk.1.below (bl_alloc (Below.refl _ _) _), HLT.out, by simp only; omega⟩, _, rfl, ?_⟩
      simp only [hol]
      exact one_at _ _ _ 0 _ rfl
  have HPS := Lib.hid (sum32_ hps 1 (by simp))
  clear hown hb hrk hps
  go_wp2_with fail
  refine HPS.out.mono ?_
  rintro e w2 ⟨rfl, rfl⟩
  go_wp2_with fail
  go_ret
  exact ⟨by simp [allOf], bl_alloc HB.out _⟩

end Go.Proofs.YtichcdoijieddaaGreat.Cc
end

/- The document's sums (cantleref02.Sum32, Sum16). -/
section
set_option linter.unusedVariables false
set_option linter.unusedSimpArgs false
set_option maxHeartbeats 2000000
set_option maxRecDepth 100000
namespace Go.Proofs.YtichcdoijieddaaGreat.Cc
open Go Go.RowKit
open Go.Proofs.YtichcdoijieddaaGreat.Ob Go.Proofs.YtichcdoijieddaaGreat.Ba Go.Proofs.YtichcdoijieddaaGreat.Oc Go.Proofs.YtichcdoijieddaaGreat.Pk Go.Proofs.YtichcdoijieddaaGreat.Cr Go.Proofs.YtichcdoijieddaaGreat.C6

theorem itr_snoc (r x : Nat) : ∀ n, itr (n + 1) r x = rbit (itr n r x) (x / 2 ^ n % 2) := by
  intro n
  induction n generalizing r x with
  | zero => simp [itr]
  | succ n ih =>
    show itr (n + 1) (rbit r (x % 2)) (x / 2) = _
    rw [ih, Nat.div_div_eq_div_mul, Nat.mul_comm 2, ← Nat.pow_succ]
    rfl
def rS (l : List Nat) : Nat → Nat
  | 0 => 4294967295
  | k + 1 => rbit (rS l k) (l.getD (k / 8) 0 / 2 ^ (k % 8) % 2)
theorem rS_at (l : List Nat) (hl : ∀ x ∈ l, x < 256) (p : Nat) (hp : p ≤ l.length) : rS l (8 * p) = sumB 4294967295 (l.take p) ∧ (p < l.length → ∀ q, q ≤ 8 → rS l (8 * p + q) = itr q (sumB 4294967295 (l.take p)) (l.getD p 0)) := by
  have step : ∀ p, p < l.length → rS l (8 * p) = sumB 4294967295 (l.take p) → ∀ q, q ≤ 8 → rS l (8 * p + q) = itr q (sumB 4294967295 (l.take p)) (l.getD p 0) := by
    intro p hp h q
    induction q with
    | zero => intro _; simpa [itr] using h
    | succ q ih =>
      intro hq
      show rbit (rS l (8 * p + q)) (l.getD ((8 * p + q) / 8) 0 / 2 ^ ((8 * p + q) % 8) % 2) = _
      rw [ih (by omega), itr_snoc, show (8 * p + q) / 8 = p from by omega, show (8 * p + q) % 8 = q from by omega]
  induction p with
  | zero => exact ⟨by simp [rS, sumB], fun h => step 0 h (by simp [rS, sumB])⟩
  | succ p ih =>
    obtain ⟨h1, h2⟩ := ih (by omega)
    have h3 : rS l (8 * (p + 1)) = sumB 4294967295 (l.take (p + 1)) := by
      rw [show 8 * (p + 1) = 8 * p + 8 from by omega, h2 (by omega) 8 (Nat.le_refl _)]
      obtain ⟨x, hx⟩ := some_at (l := l) (i := p) (by omega)
      rw [take_next hx, sumB_app, sumB_one_, List.getD_eq_getElem?_getD, hx, stp_eq _ _ (hl x (List.mem_of_getElem? hx))]
      rfl
    exact ⟨h3, fun h => step (p + 1) h h3⟩
theorem rbit_lt (r b : Nat) (h : r < 4294967296) : rbit r b < 4294967296 := by
  unfold rbit
  split
  · omega
  · exact xor_lt32 (by omega) (by decide)
theorem rS_lt (l : List Nat) : ∀ k, rS l k < 4294967296
  | 0 => by show 4294967295 < 4294967296; omega
  | k + 1 => rbit_lt _ _ (rS_lt l k)

theorem itr6_snoc (r y : Nat) : ∀ n, itr6 (n + 1) r y = rbit6 (itr6 n r y) ((dbls n y).testBit 15) := by
  intro n
  induction n generalizing r y with
  | zero => rfl
  | succ n ih =>
    show itr6 (n + 1) (rbit6 r (y.testBit 15)) (dbl y) = _
    rw [ih]
    rfl
def rb6 (r b : Nat) : Nat := if b = r / 32768 then dbl r else dbl r ^^^ P16
theorem rb6_eq (r x j : Nat) (hr : r < 65536) : rbit6 r (x.testBit j) = rb6 r (x / 2 ^ j % 2) := by
  unfold rbit6 rb6
  rw [top16 r hr, Nat.testBit_eq_decide_div_mod_eq]
  have h1 : x / 2 ^ j % 2 < 2 := Nat.mod_lt _ (by decide)
  by_cases h : x / 2 ^ j % 2 = 1 <;> by_cases h2 : 32768 ≤ r
  · rw [if_pos (by simp [h, h2]), if_pos (by omega)]
  · rw [if_neg (by simp [h, h2]), if_neg (by omega)]
  · rw [if_neg (by simp [h, h2]), if_neg (by omega)]
  · rw [if_pos (by simp [h, h2]), if_pos (by omega)]
def qS (l : List Nat) : Nat → Nat
  | 0 => 65535
  | k + 1 => rb6 (qS l k) (l.getD (k / 8) 0 / 2 ^ (7 - k % 8) % 2)
theorem rb6_lt (r b : Nat) : rb6 r b < 65536 := by
  unfold rb6
  split
  · exact dbl_lt _
  · exact xor_lt16 (dbl_lt _) (by decide)
theorem qS_lt (l : List Nat) : ∀ k, qS l k < 65536
  | 0 => by show 65535 < 65536; omega
  | k + 1 => rb6_lt _ _
theorem qS_at (l : List Nat) (hl : ∀ x ∈ l, x < 256) (p : Nat) (hp : p ≤ l.length) : qS l (8 * p) = sum6 65535 (l.take p) ∧ (p < l.length → ∀ q, q ≤ 8 → qS l (8 * p + q) = itr6 q (sum6 65535 (l.take p)) (256 * l.getD p 0)) := by
  have step : ∀ p, p < l.length → qS l (8 * p) = sum6 65535 (l.take p) → ∀ q, q ≤ 8 → qS l (8 * p + q) = itr6 q (sum6 65535 (l.take p)) (256 * l.getD p 0) := by
    intro p hp h q
    induction q with
    | zero => intro _; simpa [itr6] using h
    | succ q ih =>
      intro hq
      have hlt := qS_lt l (8 * p + q)
      show rb6 (qS l (8 * p + q)) (l.getD ((8 * p + q) / 8) 0 / 2 ^ (7 - (8 * p + q) % 8) % 2) = _
      rw [ih (by omega)] at hlt
      rw [ih (by omega), itr6_snoc, bit_at _ _ (by omega), rb6_eq _ _ _ hlt, show (8 * p + q) / 8 = p from by omega, show (8 * p + q) % 8 = q from by omega]
  induction p with
  | zero => exact ⟨by simp [qS, sum6], fun h => step 0 h (by simp [qS, sum6])⟩
  | succ p ih =>
    obtain ⟨h1, h2⟩ := ih (by omega)
    have h3 : qS l (8 * (p + 1)) = sum6 65535 (l.take (p + 1)) := by
      rw [show 8 * (p + 1) = 8 * p + 8 from by omega, h2 (by omega) 8 (Nat.le_refl _)]
      obtain ⟨x, hx⟩ := some_at (l := l) (i := p) (by omega)
      rw [take_next hx, sum6_app, sum6_one_, List.getD_eq_getElem?_getD, hx, stp_eq6 _ _ (hl x (List.mem_of_getElem? hx))]
      rfl
    exact ⟨h3, fun h => step (p + 1) h h3⟩

theorem index_txt (T : TypeId) (hT : Tryz.prog.underlying T = some .string) {l : List Nat} (hl : ∀ x ∈ l, x < 256) {i x : Nat} (hx : l[i]? = some x) (w : World) :
    (Instr.index T (.string (txt l)) (.int .i64 (i : Int))).run Tryz.prog w = .ok (.int .u8 x) w := by
  rw [run_index_string w T (txt l) .i64 i hT]
  have hi := (List.getElem?_eq_some_iff.1 hx).1
  have hsz := txt_size l
  rw [dif_pos ⟨by omega, by omega⟩]
  congr 2
  have hx9 := hl x (List.mem_of_getElem? hx)
  have : ((txt l)[(i : Int).toNat]'(by omega)) = UInt8.ofNat x := by
    have h1 : (txt l).data.toList[i]? = some (UInt8.ofNat x) := by
      unfold txt
      rw [strOfNums_data, List.getElem?_map, ints_get hx]
      rfl
    have h2 := (List.getElem?_eq_some_iff.1 h1).2
    rw [← h2]
    rfl
  rw [this]
  simp
  omega

theorem rsum32_ {l : List Nat} (hl : ∀ x ∈ l, x < 256) (hn : l.length ≤ 1000000000) (w : World) :
    Calls Tryz.prog 54 #[.string (txt l)] w fun e w' => e = .returned (.int .u32 (4294967295 - sumB 4294967295 l : Nat)) ∧ w = w' := by
  have HL := Lib.hid hl
  have hsz := txt_size l
  have HIX : Hid (∀ {i x : Nat} (hx : l[i]? = some x) (w : World), (Instr.index 9 (.string (txt l)) (.int .i64 (i : Int))).run Tryz.prog w = .ok (.int .u8 x) w) := fun hx w => index_txt 9 Tryz.underlying9 hl hx w
  have HF : Hid (rS l (8 * l.length) = sumB 4294967295 l ∧ rS l (8 * l.length) < 4294967296) := by
    refine ⟨?_, rS_lt l _⟩
    rw [(rS_at l hl l.length (Nat.le_refl _)).1, List.take_length]
  generalize txt l = S at *
  obtain ⟨n, hnn⟩ : ∃ n, n = l.length := ⟨_, rfl⟩
  rw [← hnn] at hsz hn HF
  have HN := Lib.hid hnn
  clear hl hnn
  go_enter Tryz.func54, Tryz.ntmps54
  go_wp2_with fail
  go_loop [3, 4] (fun c3 c4 => ∃ k r : Nat, k ≤ 8 * n ∧ c4 = .int .i64 k ∧ c3 = .int .u32 r ∧ r < 4294967296 ∧ Hid (r = rS l k)) (fun _ c4 => 8 * n - (intOf c4).toNat)
  case atStart => exact ⟨0, 4294967295, Nat.zero_le _, rfl, rfl, by decide, rfl⟩
  case round =>
    obtain ⟨k, r, hk, rfl, rfl, hr9, HR⟩ := hrel
    by_cases hlt : k < 8 * n
    · obtain ⟨x, hx⟩ := some_at (l := l) (i := k / 8) (by rw [← HN.out]; omega)
      have hx9 := HL.out x (List.mem_of_getElem? hx)
      have hix := HIX.out hx
      have HX := Lib.hid hx
      obtain ⟨p, hp⟩ : ∃ p, p = k / 8 := ⟨_, rfl⟩
      obtain ⟨q, hq⟩ : ∃ q, q = k % 8 := ⟨_, rfl⟩
      have hp1 : (k : Int) / 8 = (p : Int) := by omega
      have hq1 : (k : Int) % 8 = (q : Int) := by omega
      have hq9 : q < 8 := by omega
      obtain ⟨y, hy⟩ : ∃ y, y = x / 2 ^ q := ⟨_, rfl⟩
      have hy1 : (x : Int) / 2 ^ q = (y : Int) := by rw [hy]; norm_cast
      have hy9 : y < 256 := by rw [hy]; exact Nat.lt_of_le_of_lt (Nat.div_le_self _ _) hx9
      have hb1 := bits_and1 y (by omega)
      have hb2 := bits_and1 r hr9
      have HQ := Lib.hid (And.intro hp (And.intro hq hy))
      rw [← hp] at hix
      clear hx hp hq hy
      obtain ⟨h, hh⟩ : ∃ h, h = r / 2 := ⟨_, rfl⟩
      have hh1 : (r : Int) / 2 = (h : Int) := by omega
      have hx1 : bits .xor .u32 (h : Int) 3988292384 = ((h ^^^ P32 : Nat) : Int) := bits_xor32 h P32 (by omega) (by decide)
      have HH := Lib.hid hh
      clear hh
      have HSTEP : Hid (rS l (k + 1) = if y % 2 = r % 2 then h else h ^^^ P32) := by
        show rbit (rS l k) _ = _
        rw [← HR.out, ← HQ.out.1, ← HQ.out.2.1, List.getD_eq_getElem?_getD, HQ.out.1, HX.out, HH.out]
        show rbit r (x / 2 ^ q % 2) = _
        rw [← HQ.out.2.2]
        rfl
      have HLT : Hid (rS l (k + 1) < 4294967296) := rS_lt l _
      by_cases hbit : y % 2 = r % 2
      · have e1 : ((y : Int) % 2 != (r : Int) % 2) = false := by rw [bne_eq_false_iff_eq]; omega
        have HS2 : Hid (rS l (k + 1) = h) := by show _ = _; rw [HSTEP.out, if_pos hbit]
        clear hbit HSTEP
        go_wp2_with fail
        go_round
        case rel => exact ⟨k + 1, h, hlt, by go_num, rfl, by rw [← HS2.out]; exact HLT.out, HS2.out.symm⟩
        case measure => simp [intOf]; omega
      · have e1 : ((y : Int) % 2 != (r : Int) % 2) = true := by rw [bne_iff_ne]; omega
        have HS2 : Hid (rS l (k + 1) = h ^^^ P32) := by show _ = _; rw [HSTEP.out, if_neg hbit]
        clear hbit HSTEP
        go_wp2_with fail
        go_round
        case rel => exact ⟨k + 1, h ^^^ P32, hlt, by go_num, rfl, by rw [← HS2.out]; exact HLT.out, HS2.out.symm⟩
        case measure => simp [intOf]; omega
    · obtain rfl : k = 8 * n := by omega
      have hr0 : r = sumB 4294967295 l := HR.out.trans HF.out.1
      have hq : IntKind.u32.wrap (4294967295 - (r : Int)) = ((4294967295 - r : Nat) : Int) := by simp [IntKind.wrap, IntKind.bits, IntKind.signed]; omega
      have HQ := Lib.hid hr0
      clear hr0 hq
      go_wp2_with fail
      go_ret
      exact ⟨ret_int (by rw [← HQ.out]; omega), rfl⟩

theorem rsum16_ {l : List Nat} (hl : ∀ x ∈ l, x < 256) (hn : l.length ≤ 1000000000) (w : World) :
    Calls Tryz.prog 137 #[.string (txt l)] w fun e w' => e = .returned (.int .u16 (sum6 65535 l : Nat)) ∧ w = w' := by
  have HL := Lib.hid hl
  have hsz := txt_size l
  have HIX : Hid (∀ {i x : Nat} (hx : l[i]? = some x) (w : World), (Instr.index 9 (.string (txt l)) (.int .i64 (i : Int))).run Tryz.prog w = .ok (.int .u8 x) w) := fun hx w => index_txt 9 Tryz.underlying9 hl hx w
  have HF : Hid (qS l (8 * l.length) = sum6 65535 l) := by
    show _ = _
    rw [(qS_at l hl l.length (Nat.le_refl _)).1, List.take_length]
  generalize txt l = S at *
  obtain ⟨n, hnn⟩ : ∃ n, n = l.length := ⟨_, rfl⟩
  rw [← hnn] at hsz hn HF
  have HN := Lib.hid hnn
  clear hl hnn
  go_enter Tryz.func137, Tryz.ntmps137
  go_wp2_with fail
  go_loop [3, 4] (fun c3 c4 => ∃ k r : Nat, k ≤ 8 * n ∧ c4 = .int .i64 k ∧ c3 = .int .u16 r ∧ r < 65536 ∧ Hid (r = qS l k)) (fun _ c4 => 8 * n - (intOf c4).toNat)
  case atStart => exact ⟨0, 65535, Nat.zero_le _, rfl, rfl, by decide, rfl⟩
  case round =>
    obtain ⟨k, r, hk, rfl, rfl, hr9, HR⟩ := hrel
    by_cases hlt : k < 8 * n
    · obtain ⟨x, hx⟩ := some_at (l := l) (i := k / 8) (by rw [← HN.out]; omega)
      have hx9 := HL.out x (List.mem_of_getElem? hx)
      have hix := HIX.out hx
      have HX := Lib.hid hx
      obtain ⟨p, hp⟩ : ∃ p, p = k / 8 := ⟨_, rfl⟩
      obtain ⟨q, hq⟩ : ∃ q, q = 7 - k % 8 := ⟨_, rfl⟩
      have hp1 : (k : Int) / 8 = (p : Int) := by omega
      have hq1 : 7 - (k : Int) % 8 = (q : Int) := by omega
      have hq9 : q < 8 := by omega
      obtain ⟨y, hy⟩ : ∃ y, y = x / 2 ^ q := ⟨_, rfl⟩
      have hy1 : (x : Int) / 2 ^ q = (y : Int) := by rw [hy]; norm_cast
      have hy9 : y < 256 := by rw [hy]; exact Nat.lt_of_le_of_lt (Nat.div_le_self _ _) hx9
      have hb1 : bits .and .u16 (y : Int) 1 = ((y % 2 : Nat) : Int) := by
        have := bits_and16 y 1 (by omega) (by decide)
        rw [Nat.and_one_is_mod] at this
        exact this
      have HQ := Lib.hid (And.intro hp (And.intro hq hy))
      rw [← hp] at hix
      clear hx hp hq hy
      obtain ⟨h, hh⟩ : ∃ h, h = dbl r := ⟨_, rfl⟩
      have hh9 : h < 65536 := by rw [hh]; exact dbl_lt r
      have hh1 : IntKind.u16.wrap ((r : Int) * 2) = (h : Int) := by
        rw [hh]
        simp [IntKind.wrap, IntKind.bits, IntKind.signed, dbl]
        omega
      have hx1 : bits .xor .u16 (h : Int) 4129 = ((h ^^^ P16 : Nat) : Int) := bits_xor16 h P16 hh9 (by decide)
      have HH := Lib.hid hh
      clear hh
      have HSTEP : Hid (qS l (k + 1) = if y % 2 = r / 32768 then h else h ^^^ P16) := by
        show rb6 (qS l k) (l.getD (k / 8) 0 / 2 ^ (7 - k % 8) % 2) = _
        rw [← HR.out, ← HQ.out.2.1, List.getD_eq_getElem?_getD, HX.out, HH.out]
        show rb6 r (x / 2 ^ q % 2) = _
        rw [← HQ.out.2.2]
        rfl
      have HLT : Hid (qS l (k + 1) < 65536) := qS_lt l _
      by_cases hbit : y % 2 = r / 32768
      · have e1 : ((y : Int) % 2 != (r : Int) / 32768) = false := by rw [bne_eq_false_iff_eq]; omega
        have HS2 : Hid (qS l (k + 1) = h) := by show _ = _; rw [HSTEP.out, if_pos hbit]
        clear hbit HSTEP
        go_wp2_with fail
        go_round
        case rel => exact ⟨k + 1, h, hlt, by go_num, rfl, by rw [← HS2.out]; exact HLT.out, HS2.out.symm⟩
        case measure => simp [intOf]; omega
      · have e1 : ((y : Int) % 2 != (r : Int) / 32768) = true := by rw [bne_iff_ne]; omega
        have HS2 : Hid (qS l (k + 1) = h ^^^ P16) := by show _ = _; rw [HSTEP.out, if_neg hbit]
        clear hbit HSTEP
        go_wp2_with fail
        go_round
        case rel => exact ⟨k + 1, h ^^^ P16, hlt, by go_num, rfl, by rw [← HS2.out]; exact HLT.out, HS2.out.symm⟩
        case measure => simp [intOf]; omega
    · obtain rfl : k = 8 * n := by omega
      have HQ := Lib.hid (HR.out.trans HF.out)
      go_wp2_with fail
      go_ret
      exact ⟨ret_int (by rw [HQ.out]), rfl⟩

end Go.Proofs.YtichcdoijieddaaGreat.Cc
end
