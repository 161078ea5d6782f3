/- Parts of the proof, one behind the other: Ko, Ge, Gf, Gg, Ps, Su, Qf. -/
import Derived.Test.YtichcdoijieddaaGreatG01
import Derived.Test.YtichcdoijieddaaGreatProg
import Derived.WalkKit
import Derived.WalkSpells
import Derived.LoopTactic
import Derived.Lib.Hide
import Derived.Deep.RegionWith
import Derived.Deep.RegionHeld3
import Derived.Test.YtichcdoijieddaaGreatG02
import Derived.Test.YtichcdoijieddaaGreatG03
import Derived.Lib.SlBytesConst

/- The fourth chapter's reference: where the parts of an image begin. -/
section
set_option linter.unusedVariables false
set_option linter.unusedSimpArgs false
set_option maxHeartbeats 400000
namespace Go.Proofs.YtichcdoijieddaaGreat.Ko
open Go Go.RowKit
open Go.Proofs.YtichcdoijieddaaGreat.Ob

def pows : List Int := [64, 128, 256, 512, 1024, 2048, 4096]
def up8 (x : Int) : Int := (x + 7) / 8 * 8
def tot (n m s : Int) : Int := 16 + 8 * m + up8 n + up8 ((n + 63) / 64) + n * (s / 8)
def inB (n m : Int) : Bool := decide (1 ≤ n) && decide (n ≤ 65534) && decide (1 ≤ m) && decide (m ≤ 65534)
def geoOk (n m s : Int) : Bool := inB n m && decide (s ∈ pows) && decide (tot n m s ≤ 4194304)
/-- the parts' beginnings, and where they end -/
def parts (n m s : Int) : Int × Int × Int × Int × Int × Bool :=
  if geoOk n m s then (16, 16 + 8 * m, 16 + 8 * m + up8 n, 16 + 8 * m + up8 n + up8 ((n + 63) / 64), tot n m s, true) else (0, 0, 0, 0, 0, false)

theorem fill_any (x : Int) (h0 : 0 ≤ x) (h1 : x < 1000000000) (w : World) :
    Calls Tryz.prog 138 #[.int .i64 x] w fun e w' => e = .returned (.int .i64 (up8 x)) ∧ w = w' := by
  have hu : x ≤ up8 x ∧ up8 x ≤ x + 7 := by unfold up8; omega
  go_enter Tryz.func138, Tryz.ntmps138
  go_wp2_with fail
  go_loop [0] (fun c => ∃ y : Int, x ≤ y ∧ Hid (up8 y = up8 x) ∧ Hid (y ≤ up8 y) ∧ y ≤ 1000000007 ∧ c = .int .i64 y) (fun c => (up8 x - intOf c).toNat)
  case atStart => exact ⟨x, Int.le_refl _, rfl, hu.1, by omega, rfl⟩
  case round =>
    obtain ⟨y, hy0, hy1, hy2, hy3, rfl⟩ := hrel
    by_cases hm : y % 8 = 0
    · have hmb : (y % 8 == 0) = true := by simpa using hm
      have hmb2 : (y % 8 != 0) = false := by simpa using hm
      have e : up8 x = y := by rw [← hy1.out]; unfold up8; omega
      have HE := Lib.hid e
      clear hm e
      go_wp2_with fail
      go_ret
      exact ⟨by rw [HE.out]; rfl, rfl⟩
    · have hmb : (y % 8 == 0) = false := by simpa using hm
      have hmb2 : (y % 8 != 0) = true := by simpa using hm
      have e : up8 (y + 1) = up8 x := by rw [← hy1.out]; unfold up8; omega
      have e2 : y + 1 ≤ up8 (y + 1) := by unfold up8; omega
      have e3 : y + 1 ≤ up8 x := by rw [← e]; exact e2
      have HE := Lib.hid (And.intro e (And.intro e2 e3))
      clear hm e e2
      go_wp2_with fail
      go_round
      case rel => exact ⟨y + 1, by omega, HE.out.1, HE.out.2.1, by omega, rfl⟩
      case measure => simp [intOf]; omega

theorem pows_in {s : Int} (h : s ∈ pows) : 64 ≤ s ∧ s ≤ 4096 ∧ s % 8 = 0 := by
  simp only [pows, List.mem_cons, List.not_mem_nil, or_false] at h
  omega

def zero5 : Value := .tuple #[.agg #[.int .i64 0, .int .i64 0, .int .i64 0, .int .i64 0, .int .i64 0], .bool false]

theorem of_out (n m s : Int) (hb : inB n m = false) (w : World) :
    Calls Tryz.prog 117 #[.int .i64 n, .int .i64 m, .int .i64 s] w fun e w' => e = .returned zero5 ∧ Below w.heap.size w w' := by
  simp only [inB, Bool.and_eq_false_iff, decide_eq_false_iff_not] at hb
  by_cases h1 : n < 1
  · clear hb
    go_enter Tryz.func117, Tryz.ntmps117
    go_wp2_with fail
    exact bodyPost_ret (v := zero5) (by simp [zero5, results, Tryz.results117, go_sem]) rfl ⟨rfl, by first | exact (((Upd.refl [] w).alloc _).setCell (a := _) (.inr (by simp)) _).below (by simp) | exact ((Upd.refl [] w).alloc _).below (by simp)⟩
  by_cases h2 : 65534 < n
  · clear hb
    go_enter Tryz.func117, Tryz.ntmps117
    go_wp2_with fail
    exact bodyPost_ret (v := zero5) (by simp [zero5, results, Tryz.results117, go_sem]) rfl ⟨rfl, by first | exact (((Upd.refl [] w).alloc _).setCell (a := _) (.inr (by simp)) _).below (by simp) | exact ((Upd.refl [] w).alloc _).below (by simp)⟩
  by_cases h3 : m < 1
  · clear hb
    go_enter Tryz.func117, Tryz.ntmps117
    go_wp2_with fail
    exact bodyPost_ret (v := zero5) (by simp [zero5, results, Tryz.results117, go_sem]) rfl ⟨rfl, by first | exact (((Upd.refl [] w).alloc _).setCell (a := _) (.inr (by simp)) _).below (by simp) | exact ((Upd.refl [] w).alloc _).below (by simp)⟩
  · have h4 : 65534 < m := by omega
    clear hb
    go_enter Tryz.func117, Tryz.ntmps117
    go_wp2_with fail
    exact bodyPost_ret (v := zero5) (by simp [zero5, results, Tryz.results117, go_sem]) rfl ⟨rfl, by first | exact (((Upd.refl [] w).alloc _).setCell (a := _) (.inr (by simp)) _).below (by simp) | exact ((Upd.refl [] w).alloc _).below (by simp)⟩

/-- the power behind the loop -/
def PowRel (s p : Int) : Prop := p ∈ pows ∧ ∀ q ∈ pows, q < p → q < s
theorem pow_start (s : Int) : PowRel s 64 := ⟨by decide, by intro q hq h; simp only [pows, List.mem_cons, List.not_mem_nil, or_false] at hq; omega⟩
theorem pow_next {s p : Int} (h : PowRel s p) (h1 : p < 4096) (h2 : p < s) : PowRel s (2 * p) := by
  obtain ⟨hp, hl⟩ := h
  refine ⟨?_, fun q hq hqp => ?_⟩
  · simp only [pows, List.mem_cons, List.not_mem_nil, or_false] at hp ⊢
    omega
  · simp only [pows, List.mem_cons, List.not_mem_nil, or_false] at hp hq
    omega
theorem pow_end {s p : Int} (h : PowRel s p) (h1 : ¬ (p < 4096 ∧ p < s)) : p = s ↔ s ∈ pows := by
  obtain ⟨hp, hl⟩ := h
  refine ⟨fun e => by rw [← e]; exact hp, fun hs => ?_⟩
  have := hl s hs
  have hp' := pows_in hp
  have hs' := pows_in hs
  simp only [pows, List.mem_cons, List.not_mem_nil, or_false] at hp hs
  by_cases h4 : p < 4096
  · omega
  · have h5 := hl 2048 (by decide) (by omega)
    omega

set_option maxRecDepth 100000 in
theorem of_no (n m s : Int) (hb : inB n m = true) (hs : ¬ s ∈ pows) (w : World) :
    Calls Tryz.prog 117 #[.int .i64 n, .int .i64 m, .int .i64 s] w fun e w' => e = .returned zero5 ∧ Below w.heap.size w w' := by
  have hb' := hb
  simp only [inB, Bool.and_eq_true, decide_eq_true_eq] at hb'
  obtain ⟨⟨⟨h1, h2⟩, h3⟩, h4⟩ := hb'
  have HB := Lib.hid hb
  have HS := Lib.hid hs
  clear hb hs
  go_enter Tryz.func117, Tryz.ntmps117
  go_wp2_with fail
  go_loop [8] (fun c => ∃ p : Int, 64 ≤ p ∧ p ≤ 4096 ∧ Hid (PowRel s p) ∧ c = .int .i64 p) (fun c => (8192 - intOf c).toNat)
  case atStart => exact ⟨64, by omega, by omega, pow_start s, rfl⟩
  case round =>
    obtain ⟨p, hp0, hp1, hp, rfl⟩ := hrel
    by_cases hc : p < 4096 ∧ p < s
    · obtain ⟨hc1, hc2⟩ := hc
      have hn := pow_next hp.out hc1 hc2
      have hnn := pows_in hn.1
      have HN := Lib.hid hn
      clear hn
      go_wp2_with fail
      go_round
      case rel => exact ⟨2 * p, by omega, by omega, HN.out, rfl⟩
      case measure => simp [intOf]; omega
    · have he := pow_end hp.out hc
      have HE := Lib.hid he
      have hc' : (p < 4096 ∧ s ≤ p) ∨ Hid (p = 4096) := by
        by_cases h : p = 4096
        · exact .inr h
        · exact .inl (by omega)
      clear he hc
      have hps : p ≠ s := fun e => HS.out (HE.out.1 e)
      have hpb : (p == s) = false := beq_eq_false_iff_ne.2 hps
      have hpb2 : (p != s) = true := by simp [hps]
      rcases hc' with ⟨hc1, hc2⟩ | hc1
      · go_wp2_with fail
        exact bodyPost_ret (v := zero5) (by simp [zero5, results, Tryz.results117, go_sem]) rfl ⟨rfl, ((Upd.refl [] w).alloc _).below (by simp)⟩
      · obtain rfl := hc1.out
        go_wp2_with fail
        exact bodyPost_ret (v := zero5) (by simp [zero5, results, Tryz.results117, go_sem]) rfl ⟨rfl, ((Upd.refl [] w).alloc _).below (by simp)⟩

theorem fill_at (x : Int) (h0 : 0 ≤ x) (h1 : x < 1000000000) (y : Int) (hy : Hid (up8 x = y)) (w : World) :
    Calls Tryz.prog 138 #[.int .i64 x] w fun e w' => e = .returned (.int .i64 y) ∧ w = w' := by
  have := fill_any x h0 h1 w
  rw [hy.out] at this
  exact this

set_option maxRecDepth 100000 in
theorem of_yes (n m s b1 b2 : Int) (hb : inB n m = true) (hs : s ∈ pows) (hb1 : Hid (b1 = 16 + 8 * m + up8 n)) (hb2 : Hid (b2 = b1 + up8 ((n + 63) / 64))) (hle : b2 + n * s / 8 ≤ 4194304) (w : World) :
    Calls Tryz.prog 117 #[.int .i64 n, .int .i64 m, .int .i64 s] w fun e' w' => e' = .returned (.tuple #[.agg #[.int .i64 16, .int .i64 (16 + 8 * m), .int .i64 b1, .int .i64 b2, .int .i64 (b2 + n * s / 8)], .bool true]) ∧ Below w.heap.size w w' := by
  have hb' := hb
  simp only [inB, Bool.and_eq_true, decide_eq_true_eq] at hb'
  obtain ⟨⟨⟨h1, h2⟩, h3⟩, h4⟩ := hb'
  have hsp := pows_in hs
  have hp0 : 0 ≤ n * s := Int.mul_nonneg (by omega) (by omega)
  have hp1 : n * s ≤ 65534 * 4096 := Int.mul_le_mul h2 (by omega) (by omega) (by omega)
  have q1 : 0 ≤ b1 ∧ b1 ≤ 600000 := by have := hb1.out; unfold up8 at this; omega
  have q2 : 0 ≤ b2 ∧ b2 ≤ 700000 := by have := hb2.out; unfold up8 at this; omega
  have w1 : Hid (up8 (16 + 8 * m + n) = b1) := by show up8 (16 + 8 * m + n) = b1; rw [hb1.out]; unfold up8; omega
  have w2 : Hid (up8 (b1 + (n + 63) / 64) = b2) := by show up8 (b1 + (n + 63) / 64) = b2; rw [hb2.out, hb1.out]; unfold up8; omega
  obtain ⟨q1a, q1b⟩ := q1
  obtain ⟨q2a, q2b⟩ := q2
  have HB := Lib.hid hb
  have HS := Lib.hid (And.intro hs hsp)
  clear hb hs hsp hb1 hb2
  go_enter Tryz.func117, Tryz.ntmps117
  go_wp2_with fail
  go_loop [8] (fun c => ∃ p : Int, 64 ≤ p ∧ p ≤ 4096 ∧ Hid (PowRel s p) ∧ c = .int .i64 p) (fun c => (8192 - intOf c).toNat)
  case atStart => exact ⟨64, by omega, by omega, pow_start s, rfl⟩
  case round =>
    obtain ⟨p, hp0, hp1, hp, rfl⟩ := hrel
    by_cases hc : p < 4096 ∧ p < s
    · obtain ⟨hc1, hc2⟩ := hc
      have hn := pow_next hp.out hc1 hc2
      have hnn := pows_in hn.1
      have HN := Lib.hid hn
      clear hn
      go_wp2_with fail
      go_round
      case rel => exact ⟨2 * p, by omega, by omega, HN.out, rfl⟩
      case measure => simp [intOf]; omega
    · obtain rfl : p = s := (pow_end hp.out hc).2 HS.out.1
      clear hc
      clear hp
      by_cases h4096 : p < 4096
      all_goals
        go_wp2_with fail
        refine (fill_at _ (by omega) (by omega) b1 w1 _).mono ?_
        rintro e9 w9 ⟨rfl, rfl⟩
        go_wp2_with fail
        refine (fill_at _ (by omega) (by omega) b2 w2 _).mono ?_
        rintro e9 w9 ⟨rfl, rfl⟩
        go_wp2_with fail
        exact bodyPost_ret (v := .tuple #[.agg #[.int .i64 16, .int .i64 (16 + 8 * m), .int .i64 b1, .int .i64 b2, .int .i64 (b2 + n * p / 8)], .bool true]) (by simp [zero5, results, Tryz.results117, go_sem]) rfl ⟨rfl, (((Upd.refl [] w).alloc _).alloc _).below (by simp)⟩

set_option maxRecDepth 100000 in
theorem of_big (n m s b1 b2 : Int) (hb : inB n m = true) (hs : s ∈ pows) (hb1 : Hid (b1 = 16 + 8 * m + up8 n)) (hb2 : Hid (b2 = b1 + up8 ((n + 63) / 64))) (hle : 4194304 < b2 + n * s / 8) (w : World) :
    Calls Tryz.prog 117 #[.int .i64 n, .int .i64 m, .int .i64 s] w fun e' w' => e' = .returned zero5 ∧ Below w.heap.size w w' := by
  have hb' := hb
  simp only [inB, Bool.and_eq_true, decide_eq_true_eq] at hb'
  obtain ⟨⟨⟨h1, h2⟩, h3⟩, h4⟩ := hb'
  have hsp := pows_in hs
  have hp0 : 0 ≤ n * s := Int.mul_nonneg (by omega) (by omega)
  have hp1 : n * s ≤ 65534 * 4096 := Int.mul_le_mul h2 (by omega) (by omega) (by omega)
  have q1 : 0 ≤ b1 ∧ b1 ≤ 600000 := by have := hb1.out; unfold up8 at this; omega
  have q2 : 0 ≤ b2 ∧ b2 ≤ 700000 := by have := hb2.out; unfold up8 at this; omega
  have w1 : Hid (up8 (16 + 8 * m + n) = b1) := by show up8 (16 + 8 * m + n) = b1; rw [hb1.out]; unfold up8; omega
  have w2 : Hid (up8 (b1 + (n + 63) / 64) = b2) := by show up8 (b1 + (n + 63) / 64) = b2; rw [hb2.out, hb1.out]; unfold up8; omega
  obtain ⟨q1a, q1b⟩ := q1
  obtain ⟨q2a, q2b⟩ := q2
  have HB := Lib.hid hb
  have HS := Lib.hid (And.intro hs hsp)
  clear hb hs hsp hb1 hb2
  go_enter Tryz.func117, Tryz.ntmps117
  go_wp2_with fail
  go_loop [8] (fun c => ∃ p : Int, 64 ≤ p ∧ p ≤ 4096 ∧ Hid (PowRel s p) ∧ c = .int .i64 p) (fun c => (8192 - intOf c).toNat)
  case atStart => exact ⟨64, by omega, by omega, pow_start s, rfl⟩
  case round =>
    obtain ⟨p, hp0, hp1, hp, rfl⟩ := hrel
    by_cases hc : p < 4096 ∧ p < s
    · obtain ⟨hc1, hc2⟩ := hc
      have hn := pow_next hp.out hc1 hc2
      have hnn := pows_in hn.1
      have HN := Lib.hid hn
      clear hn
      go_wp2_with fail
      go_round
      case rel => exact ⟨2 * p, by omega, by omega, HN.out, rfl⟩
      case measure => simp [intOf]; omega
    · obtain rfl : p = s := (pow_end hp.out hc).2 HS.out.1
      clear hc
      clear hp
      by_cases h4096 : p < 4096
      all_goals
        go_wp2_with fail
        refine (fill_at _ (by omega) (by omega) b1 w1 _).mono ?_
        rintro e9 w9 ⟨rfl, rfl⟩
        go_wp2_with fail
        refine (fill_at _ (by omega) (by omega) b2 w2 _).mono ?_
        rintro e9 w9 ⟨rfl, rfl⟩
        go_wp2_with fail
        exact bodyPost_ret (v := zero5) (by simp [zero5, results, Tryz.results117, go_sem]) rfl ⟨rfl, (((Upd.refl [] w).alloc _).alloc _).below (by simp)⟩

theorem of_any (n m s : Int) (w : World) :
    Calls Tryz.prog 117 #[.int .i64 n, .int .i64 m, .int .i64 s] w fun e w' => e = .returned (.tuple #[.agg #[.int .i64 (parts n m s).1, .int .i64 (parts n m s).2.1, .int .i64 (parts n m s).2.2.1, .int .i64 (parts n m s).2.2.2.1, .int .i64 (parts n m s).2.2.2.2.1], .bool (parts n m s).2.2.2.2.2]) ∧ Below w.heap.size w w' := by
  cases hb : inB n m with
  | false =>
    have hg : parts n m s = (0, 0, 0, 0, 0, false) := by unfold parts geoOk; rw [hb]; rfl
    rw [hg]
    exact of_out n m s hb w
  | true =>
    by_cases hs : s ∈ pows
    · have ht : tot n m s = 16 + 8 * m + up8 n + up8 ((n + 63) / 64) + n * s / 8 := by
        have hp := pows_in hs
        have : n * s = 8 * (n * (s / 8)) := by
          have e : s = 8 * (s / 8) := by omega
          calc n * s = n * (8 * (s / 8)) := by rw [← e]
            _ = 8 * (n * (s / 8)) := by rw [Int.mul_left_comm]
        unfold tot
        rw [this]
        omega
      by_cases hl : tot n m s ≤ 4194304
      · have hg : parts n m s = (16, 16 + 8 * m, 16 + 8 * m + up8 n, 16 + 8 * m + up8 n + up8 ((n + 63) / 64), tot n m s, true) := by unfold parts geoOk; rw [hb, decide_eq_true hs, decide_eq_true hl]; rfl
        rw [hg, ht]
        exact of_yes n m s _ _ hb hs rfl rfl (by omega) w
      · have hg : parts n m s = (0, 0, 0, 0, 0, false) := by unfold parts geoOk; rw [hb, decide_eq_true hs, decide_eq_false hl]; rfl
        rw [hg]
        exact of_big n m s _ _ hb hs rfl rfl (by omega) w
    · have hg : parts n m s = (0, 0, 0, 0, 0, false) := by unfold parts geoOk; rw [decide_eq_false hs]; simp
      rw [hg]
      exact of_no n m s hb hs w

end Go.Proofs.YtichcdoijieddaaGreat.Ko
end

/- The fourth chapter's functions: geometry. -/
section
set_option linter.unusedVariables false
set_option linter.unusedSimpArgs false
set_option maxHeartbeats 1000000
set_option maxRecDepth 100000
namespace Go.Proofs.YtichcdoijieddaaGreat.Ge
open Go Go.RowKit
open Go.Proofs.YtichcdoijieddaaGreat.Ob Go.Proofs.YtichcdoijieddaaGreat.Ba Go.Proofs.YtichcdoijieddaaGreat.Ko

/-- how many bits of a word are set, as the library reckons it -/
def oc (a : Int) : Int :=
  let A := IntKind.u64.wrap (Go.bits .and .u64 (a / 2) 6148914691236517205 + Go.bits .and .u64 a 6148914691236517205)
  let B := IntKind.u64.wrap (Go.bits .and .u64 (A / 4) 3689348814741910323 + Go.bits .and .u64 A 3689348814741910323)
  let C := Go.bits .and .u64 (IntKind.u64.wrap (B / 16 + B)) 1085102592571150095
  let D := IntKind.u64.wrap (C + C / 256)
  let E := IntKind.u64.wrap (D + D / 65536)
  let F := IntKind.u64.wrap (E + E / 4294967296)
  Go.bits .and .i64 (wrap64 F) 127

theorem ones64 (a : Int) (w : World) : Calls Tryz.prog 116 #[.int .u64 a] w fun e w' => e = .returned (.int .i64 (oc a)) ∧ w = w' := by
  go_enter Tryz.func116, Tryz.ntmps116
  go_wp2
  go_ret
  exact ⟨rfl, rfl⟩
theorem ones (a : Int) (w : World) : Calls Tryz.prog 141 #[.int .u64 a] w fun e w' => e = .returned (.int .i64 (oc a)) ∧ w = w' := by
  go_enter Tryz.func141, Tryz.ntmps141
  go_wp2_with (go_at_call 116; refine (ones64 _ _).mono ?_; rintro e w' ⟨rfl, rfl⟩)
  go_ret
  exact ⟨rfl, rfl⟩

theorem ones_all : (List.range 4033).all (fun j => (oc ((64 + j : Nat) : Int) == 1) == decide (((64 + j : Nat) : Int) ∈ pows)) = true := by decide +kernel
theorem ones_at (s : Int) (h0 : 64 ≤ s) (h1 : s ≤ 4096) : (oc s == 1) = decide (s ∈ pows) := by
  obtain ⟨j, rfl⟩ : ∃ j : Nat, s = ((64 + j : Nat) : Int) := ⟨(s - 64).toNat, by omega⟩
  have h := List.all_eq_true.1 ones_all j (List.mem_range.2 (by omega))
  exact beq_iff_eq.1 h

def gv (n m s : Int) : Value := .agg #[.int .i64 n, .int .i64 m, .int .i64 s]

theorem right (n m s : Int) (w : World) : Calls Tryz.prog 130 #[.agg #[.int .i64 n, .int .i64 m, .int .i64 s]] w fun e w' => e = .returned (.bool (inB n m && decide (s ∈ pows))) ∧ Below w.heap.size w w' := by
  have hu := Tryz.underlying83
  by_cases h : 1 ≤ n ∧ n ≤ 65534 ∧ 1 ≤ m ∧ m ≤ 65534 ∧ 64 ≤ s ∧ s ≤ 4096
  · obtain ⟨h1, h2, h3, h4, h5, h6⟩ := h
    have hi : (inB n m && decide (s ∈ pows)) = (oc s == 1) := by
      rw [ones_at s h5 h6]
      simp [inB, h1, h2, h3, h4]
    rw [hi]
    have hwr : IntKind.u64.wrap s = s := wu64 _ (by omega) (by omega)
    clear hi
    generalize hb : (oc s == 1) = b
    have HB := Lib.hid hb
    go_enter Tryz.func130, Tryz.ntmps130
    go_wp2_with (go_at_call 141; refine (ones _ _).mono ?_; rintro e w' ⟨rfl, rfl⟩)
    go_ret
    exact ⟨rfl, by repeat (first | exact Below.refl _ _ | refine bl_alloc ?_ _)⟩
  · have hi : (inB n m && decide (s ∈ pows)) = false := by
      by_cases hs : s ∈ pows
      · have := pows_in hs
        simp only [inB, Bool.and_eq_false_iff, decide_eq_false_iff_not]
        omega
      · simp [hs]
    rw [hi]
    rcases (by omega : n < 1 ∨ (1 ≤ n ∧ 65534 < n) ∨ (1 ≤ n ∧ n ≤ 65534 ∧ m < 1) ∨ (1 ≤ n ∧ n ≤ 65534 ∧ 1 ≤ m ∧ 65534 < m) ∨ (1 ≤ n ∧ n ≤ 65534 ∧ 1 ≤ m ∧ m ≤ 65534 ∧ s < 64) ∨ (1 ≤ n ∧ n ≤ 65534 ∧ 1 ≤ m ∧ m ≤ 65534 ∧ 64 ≤ s ∧ 4096 < s)) with h1 | ⟨h1, h2⟩ | ⟨h1, h2, h3⟩ | ⟨h1, h2, h3, h4⟩ | ⟨h1, h2, h3, h4, h5⟩ | ⟨h1, h2, h3, h4, h5, h6⟩
    all_goals
      clear h hi
      go_enter Tryz.func130, Tryz.ntmps130
      go_wp2
      go_ret
      exact ⟨rfl, by repeat (first | exact Below.refl _ _ | refine bl_alloc ?_ _)⟩

theorem slots (n m s : Int) (h0 : 0 ≤ m) (h1 : m ≤ 65534) (w : World) : Calls Tryz.prog 112 #[.agg #[.int .i64 n, .int .i64 m, .int .i64 s]] w fun e w' => e = .returned (.int .i64 (16 + 8 * m)) ∧ Below w.heap.size w w' := by
  have hu := Tryz.underlying83
  go_enter Tryz.func112, Tryz.ntmps112
  go_wp2
  go_ret
  exact ⟨ret_int (by omega), by repeat (first | exact Below.refl _ _ | refine bl_alloc ?_ _)⟩

theorem lines (x : Int) (h0 : 0 ≤ x) (h1 : x < 1000000000) (w : World) : Calls Tryz.prog 132 #[.int .i64 x] w fun e w' => e = .returned (.int .i64 (up8 x)) ∧ w = w' := by
  go_enter Tryz.func132, Tryz.ntmps132
  go_wp2
  go_ret
  exact ⟨ret_int (by unfold up8; omega), rfl⟩

end Go.Proofs.YtichcdoijieddaaGreat.Ge
end

/- The fourth chapter's functions: where the parts of an image begin. -/
section
set_option linter.unusedVariables false
set_option linter.unusedSimpArgs false
set_option maxHeartbeats 1000000
set_option maxRecDepth 100000
namespace Go.Proofs.YtichcdoijieddaaGreat.Ge
open Go Go.RowKit
open Go.Proofs.YtichcdoijieddaaGreat.Ob Go.Proofs.YtichcdoijieddaaGreat.Ba Go.Proofs.YtichcdoijieddaaGreat.Ko

def bmAt (n m : Int) : Int := 16 + 8 * m + up8 n
def bkAt (n m : Int) : Int := 16 + 8 * m + up8 n + up8 ((n + 63) / 64)
theorem inB_out {n m : Int} (h : inB n m = true) : 1 ≤ n ∧ n ≤ 65534 ∧ 1 ≤ m ∧ m ≤ 65534 := by
  simp only [inB, Bool.and_eq_true, decide_eq_true_eq] at h
  omega
theorem up8_in {x : Int} (h : 0 ≤ x) : x ≤ up8 x ∧ up8 x ≤ x + 7 := by unfold up8; omega

/-- a world that grew behind a box -/
structure Bx (w W : World) : Prop where
  below : Below w.heap.size w W
  size : w.heap.size < W.heap.size
theorem bx_keep {w W W' : World} {c0 c1 c2 : Value} (h : W.cell? ⟨w.heap.size, 0, none⟩ = some c0 ∧ W.cell? ⟨w.heap.size, 1, none⟩ = some c1 ∧ W.cell? ⟨w.heap.size, 2, none⟩ = some c2 ∧ Bx w W) (hb : Below W.heap.size W W') :
    W'.cell? ⟨w.heap.size, 0, none⟩ = some c0 ∧ W'.cell? ⟨w.heap.size, 1, none⟩ = some c1 ∧ W'.cell? ⟨w.heap.size, 2, none⟩ = some c2 ∧ Bx w W' := by
  obtain ⟨h0, h1, h2, h3, h4⟩ := h
  have hs := hb.size
  exact ⟨(hb.cell (p := ⟨_, 0, none⟩) h4).trans h0, (hb.cell (p := ⟨_, 1, none⟩) h4).trans h1, (hb.cell (p := ⟨_, 2, none⟩) h4).trans h2, bl_then h3 hb, by omega⟩
theorem bx_of {w W : World} {c0 c1 c2 : Value} (h : W.cell? ⟨w.heap.size, 0, none⟩ = some c0 ∧ W.cell? ⟨w.heap.size, 1, none⟩ = some c1 ∧ W.cell? ⟨w.heap.size, 2, none⟩ = some c2 ∧ Bx w W) : Bx w W := h.2.2.2
theorem bx_start {w W : World} {c0 c1 c2 : Value} {T : TypeId} (h : W = (w.alloc (.cells #[c0, c1, c2] T)).drew) : W.cell? ⟨w.heap.size, 0, none⟩ = some c0 ∧ W.cell? ⟨w.heap.size, 1, none⟩ = some c1 ∧ W.cell? ⟨w.heap.size, 2, none⟩ = some c2 ∧ Bx w W := by
  subst h
  exact ⟨cell_of (alloc_new w _) 0, cell_of (alloc_new w _) 1, cell_of (alloc_new w _) 2, bl_drew (bl_alloc (Below.refl _ _) _), by simp⟩

theorem bitmap_ (n m s : Int) (h : inB n m = true) (w : World) : Calls Tryz.prog 107 #[.agg #[.int .i64 n, .int .i64 m, .int .i64 s]] w fun e w' => e = .returned (.tuple #[.int .i64 (bmAt n m), .int .i64 ((n + 63) / 64)]) ∧ Below w.heap.size w w' := by
  have hu := Tryz.underlying83
  obtain ⟨h1, h2, h3, h4⟩ := inB_out h
  clear h
  have h5 := up8_in (x := n) (by omega)
  have q1 : IntKind.i64.wrap (16 + 8 * m + up8 n) = bmAt n m := by unfold bmAt; exact IntWalk.i64_in _ (by omega)
  have q2 : IntKind.i64.wrap (n + 64) = n + 64 := IntWalk.i64_in _ (by omega)
  have q3 : IntKind.i64.wrap (n + 64 - 1) = n + 63 := by rw [IntWalk.i64_in _ (by omega)]; omega
  have q4 : IntKind.i64.wrap ((n + 63).tdiv 64) = (n + 63) / 64 := by rw [Int.tdiv_eq_ediv_of_nonneg (by omega)]; exact IntWalk.i64_in _ (by omega)
  have Q := Lib.hid (And.intro q1 (And.intro q2 (And.intro q3 q4)))
  clear q1 q2 q3 q4
  go_enter Tryz.func107, Tryz.ntmps107
  go_wp2_with fail
  obtain ⟨q1, q2, q3, q4⟩ := Q.out
  go_region_held3 (fun w' => w'.cell? ⟨w.heap.size, 0, none⟩ = some (.int .i64 n) ∧ w'.cell? ⟨w.heap.size, 1, none⟩ = some (.int .i64 m) ∧ w'.cell? ⟨w.heap.size, 2, none⟩ = some (.int .i64 s) ∧ Bx w w')
    (first | assumption | exact bx_start rfl | exact bx_keep ‹_› ‹_›)
    (first | (go_at_call 112; refine (slots _ _ _ (by omega) (by omega) _).mono ?_; rintro e w1 ⟨rfl, hb⟩) |
    (go_at_call 132; refine (lines _ (by omega) (by omega) _).mono ?_; rintro e w2 ⟨rfl, rfl⟩))
  all_goals
    go_wp2
    go_ret2
    exact ⟨rfl, (bx_of ‹_›).below⟩

theorem blocks_ (n m s : Int) (h : inB n m = true) (w : World) : Calls Tryz.prog 115 #[.agg #[.int .i64 n, .int .i64 m, .int .i64 s]] w fun e w' => e = .returned (.int .i64 (bkAt n m)) ∧ Below w.heap.size w w' := by
  have hu := Tryz.underlying83
  obtain ⟨h1, h2, h3, h4⟩ := inB_out h
  have h5 := up8_in (x := n) (by omega)
  have h6 := up8_in (x := (n + 63) / 64) (by omega)
  have H := Lib.hid h
  clear h
  have hb0 : 0 ≤ bmAt n m ∧ bmAt n m ≤ 1000000 := by unfold bmAt; omega
  have HE : Hid (bkAt n m = bmAt n m + up8 ((n + 63) / 64)) := rfl
  go_enter Tryz.func115, Tryz.ntmps115
  go_wp2_with (first | (go_at_call 107; refine (bitmap_ _ _ _ H.out _).mono ?_; rintro e w1 ⟨rfl, hb⟩; (have HB := Lib.hid hb); clear hb) |
    (go_at_call 132; refine (lines _ (by omega) (by omega) _).mono ?_; rintro e w2 ⟨rfl, rfl⟩))
  go_ret
  exact ⟨ret_int HE.out.symm, bl_then (by repeat (first | exact Below.refl _ _ | refine bl_alloc ?_ _)) HB.out⟩

theorem pows_eight {s : Int} (h : s ∈ pows) : ∃ k, s = 8 * k ∧ 8 ≤ k ∧ k ≤ 512 ∧ s / 8 = k := by
  simp only [pows, List.mem_cons, List.not_mem_nil, or_false] at h
  exact ⟨s / 8, by omega, by omega, by omega, rfl⟩

theorem all_ (n m s : Int) (h : inB n m = true) (hs : s ∈ pows) (w : World) : Calls Tryz.prog 131 #[.agg #[.int .i64 n, .int .i64 m, .int .i64 s]] w fun e w' => e = .returned (.int .i64 (tot n m s)) ∧ Below w.heap.size w w' := by
  have hu := Tryz.underlying83
  obtain ⟨h1, h2, h3, h4⟩ := inB_out h
  have h5 := up8_in (x := n) (by omega)
  have h6 := up8_in (x := (n + 63) / 64) (by omega)
  obtain ⟨k, e1, e2, e3, e4⟩ := pows_eight hs
  have hnk0 : 0 ≤ n * k := Int.mul_nonneg (by omega) (by omega)
  have hnk1 : n * k ≤ 65534 * 512 := Int.mul_le_mul (by omega) (by omega) (by omega) (by omega)
  have hb0 : 0 ≤ bkAt n m ∧ bkAt n m ≤ 1000000 := by unfold bkAt; omega
  have q1 : IntKind.i64.wrap (s.tdiv 8) = k := by rw [Int.tdiv_eq_ediv_of_nonneg (by omega), e4]; exact IntWalk.i64_in _ (by omega)
  have q2 : IntKind.i64.wrap (n * k) = n * k := IntWalk.i64_in _ (by omega)
  have q3 : IntKind.i64.wrap (bkAt n m + n * k) = tot n m s := by
    rw [IntWalk.i64_in _ (by omega)]
    unfold tot bkAt
    rw [e4]
  have Q := Lib.hid (And.intro q1 (And.intro q2 q3))
  have H := Lib.hid h
  clear h q1 q2 q3 e1 e4 hs h5 h6
  go_enter Tryz.func131, Tryz.ntmps131
  go_wp2_with fail
  obtain ⟨q1, q2, q3⟩ := Q.out
  go_region_held3 (fun w' => w'.cell? ⟨w.heap.size, 0, none⟩ = some (.int .i64 n) ∧ w'.cell? ⟨w.heap.size, 1, none⟩ = some (.int .i64 m) ∧ w'.cell? ⟨w.heap.size, 2, none⟩ = some (.int .i64 s) ∧ Bx w w')
    (first | assumption | exact bx_start rfl | exact bx_keep ‹_› ‹_›)
    (first | (go_at_call 115; refine (blocks_ _ _ _ H.out _).mono ?_; rintro e w1 ⟨rfl, hb⟩))
  all_goals
    go_wp2
    go_ret
    exact ⟨rfl, (bx_of ‹_›).below⟩

theorem may_ (n m s : Int) (w : World) : Calls Tryz.prog 106 #[.agg #[.int .i64 n, .int .i64 m, .int .i64 s]] w fun e w' => e = .returned (.bool (geoOk n m s)) ∧ Below w.heap.size w w' := by
  have hu := Tryz.underlying83
  have hr := right n m s
  by_cases h : inB n m = true ∧ s ∈ pows
  · have he : geoOk n m s = decide (tot n m s ≤ 4194304) := by simp [geoOk, h.1, h.2]
    rw [he]
    have e2 : (inB n m && decide (s ∈ pows)) = true := by simp [h.1, h.2]
    rw [e2] at hr
    have ha := all_ n m s h.1 h.2
    have HR := Lib.hid hr
    have HA := Lib.hid ha
    clear h he e2 hr ha
    generalize tot n m s = t at *
    go_enter Tryz.func106, Tryz.ntmps106
    go_wp2_with (first | (go_at_call 130; refine (HR.out _).mono ?_; rintro e w1 ⟨rfl, hb⟩; (obtain ⟨hc, hf⟩ := bcell hb); (have hz : w.heap.size < w1.heap.size := by (have h9 := hb.size; simp at h9; omega)); (have HB := Lib.hid hb); clear hb hf) |
      (go_at_call 131; refine (HA.out _).mono ?_; rintro e w2 ⟨rfl, hb⟩; (have HB2 := Lib.hid hb); clear hb))
    go_ret
    exact ⟨rfl, bl_then (bl_then (bl_alloc (Below.refl _ _) _) HB.out) HB2.out⟩
  · have e2 : (inB n m && decide (s ∈ pows)) = false := by
      cases hi : inB n m
      · rfl
      · simp only [hi, true_and] at h
        simp [h]
    have he : geoOk n m s = false := by simp only [geoOk, e2, Bool.false_and]
    rw [he]
    rw [e2] at hr
    have HR := Lib.hid hr
    clear h he e2 hr
    go_enter Tryz.func106, Tryz.ntmps106
    go_wp2_with (go_at_call 130; refine (HR.out _).mono ?_; rintro e w1 ⟨rfl, hb⟩; (have HB := Lib.hid hb); clear hb)
    go_ret
    exact ⟨rfl, bl_then (bl_alloc (Below.refl _ _) _) HB.out⟩

end Go.Proofs.YtichcdoijieddaaGreat.Ge
end

/- The fourth chapter's functions: where one of a part is. -/
section
set_option linter.unusedVariables false
set_option linter.unusedSimpArgs false
set_option maxHeartbeats 1000000
set_option maxRecDepth 100000
namespace Go.Proofs.YtichcdoijieddaaGreat.Ge
open Go Go.RowKit
open Go.Proofs.YtichcdoijieddaaGreat.Ob Go.Proofs.YtichcdoijieddaaGreat.Ba Go.Proofs.YtichcdoijieddaaGreat.Ko

theorem ok_out {n m s : Int} (h : geoOk n m s = true) : inB n m = true ∧ s ∈ pows ∧ tot n m s ≤ 4194304 := by
  simp only [geoOk, Bool.and_eq_true, decide_eq_true_eq] at h
  exact ⟨h.1.1, h.1.2, h.2⟩

theorem words_ (n m s : Int) (h : geoOk n m s = true) (w : World) : Calls Tryz.prog 123 #[.agg #[.int .i64 n, .int .i64 m, .int .i64 s]] w fun e w' => e = .returned (.int .i64 (tot n m s)) ∧ Below w.heap.size w w' := by
  have hu := Tryz.underlying83
  have hm := may_ n m s
  rw [h] at hm
  obtain ⟨h1, h2, h3⟩ := ok_out h
  have HM := Lib.hid hm
  have HA := Lib.hid (all_ n m s h1 h2)
  clear h hm h1 h2 h3
  go_enter Tryz.func123, Tryz.ntmps123
  go_wp2_with (first | (go_at_call 106; refine (HM.out _).mono ?_; rintro e w1 ⟨rfl, hb⟩; (obtain ⟨hc, hf⟩ := bcell hb); (have HB := Lib.hid hb); clear hb hf) |
    (go_at_call 131; refine (HA.out _).mono ?_; rintro e w2 ⟨rfl, hb⟩; (have HB2 := Lib.hid hb); clear hb))
  go_ret
  exact ⟨rfl, bl_then (bl_then (bl_alloc (Below.refl _ _) _) HB.out) HB2.out⟩

theorem words_no (n m s : Int) (h : geoOk n m s = false) (w : World) : Calls Tryz.prog 123 #[.agg #[.int .i64 n, .int .i64 m, .int .i64 s]] w fun e w' => e = .returned (.int .i64 0) ∧ Below w.heap.size w w' := by
  have hu := Tryz.underlying83
  have hm := may_ n m s
  rw [h] at hm
  have HM := Lib.hid hm
  clear h hm
  go_enter Tryz.func123, Tryz.ntmps123
  go_wp2_with (first | (go_at_call 106; refine (HM.out _).mono ?_; rintro e w1 ⟨rfl, hb⟩; (have HB := Lib.hid hb); clear hb))
  go_ret
  exact ⟨rfl, bl_then (bl_alloc (Below.refl _ _) _) HB.out⟩

/-- where one is, of so many -/
def plc (at_ i k : Int) : Int := if 0 ≤ i ∧ i < k then at_ else -1

theorem place_ (n m s a i k : Int) (h : geoOk n m s = true) (w : World) : Calls Tryz.prog 99 #[.agg #[.int .i64 n, .int .i64 m, .int .i64 s], .int .i64 a, .int .i64 i, .int .i64 k] w fun e w' => e = .returned (.int .i64 (plc a i k)) ∧ Below w.heap.size w w' := by
  have hu := Tryz.underlying83
  have hm := may_ n m s
  rw [h] at hm
  have HM := Lib.hid hm
  clear h hm
  rcases (by omega : i < 0 ∨ (0 ≤ i ∧ k ≤ i) ∨ (0 ≤ i ∧ i < k)) with h1 | ⟨h1, h2⟩ | ⟨h1, h2⟩
  · have e1 : plc a i k = -1 := if_neg (by omega)
    rw [e1]
    clear e1
    go_enter Tryz.func99, Tryz.ntmps99
    go_wp2
    go_ret
    exact ⟨rfl, bl_alloc (Below.refl _ _) _⟩
  · have e1 : plc a i k = -1 := if_neg (by omega)
    rw [e1]
    clear e1
    go_enter Tryz.func99, Tryz.ntmps99
    go_wp2
    go_ret
    exact ⟨rfl, bl_alloc (Below.refl _ _) _⟩
  · have e1 : plc a i k = a := if_pos ⟨h1, h2⟩
    rw [e1]
    clear e1
    go_enter Tryz.func99, Tryz.ntmps99
    go_wp2_with (first | (go_at_call 106; refine (HM.out _).mono ?_; rintro e w1 ⟨rfl, hb⟩; (have HB := Lib.hid hb); clear hb))
    go_ret
    exact ⟨rfl, bl_then (bl_alloc (Below.refl _ _) _) HB.out⟩

theorem inode_ (n m s i : Int) (h : geoOk n m s = true) (w : World) : Calls Tryz.prog 56 #[.agg #[.int .i64 n, .int .i64 m, .int .i64 s], .int .i64 i] w fun e w' => e = .returned (.int .i64 (plc (16 + 8 * i) i m)) ∧ Below w.heap.size w w' := by
  have hu := Tryz.underlying83
  have hin := inB_out (ok_out h).1
  have hp : ∀ W, Calls Tryz.prog 99 #[.agg #[.int .i64 n, .int .i64 m, .int .i64 s], .int .i64 (wrap64 (16 + wrap64 (i * 8))), .int .i64 i, .int .i64 m] W fun e w' => e = .returned (.int .i64 (plc (16 + 8 * i) i m)) ∧ Below W.heap.size W w' := by
    intro W
    have e : plc (16 + 8 * i) i m = plc (wrap64 (16 + wrap64 (i * 8))) i m := by
      unfold plc
      split
      · rw [w64 (i * 8) (by omega) (by omega), w64 _ (by omega) (by omega)]; omega
      · rfl
    rw [e]
    exact place_ n m s _ i m h W
  have HP := Lib.hid hp
  clear h hp hin
  go_enter Tryz.func56, Tryz.ntmps56
  go_wp2_with (first | (go_at_call 99; refine (HP.out _).mono ?_; rintro e w1 ⟨rfl, hb⟩; (have HB := Lib.hid hb); clear hb))
  go_ret
  exact ⟨rfl, bl_then (bl_alloc (Below.refl _ _) _) HB.out⟩

theorem slot_ (n m s i : Int) (h : geoOk n m s = true) (w : World) : Calls Tryz.prog 75 #[.agg #[.int .i64 n, .int .i64 m, .int .i64 s], .int .i64 i] w fun e w' => e = .returned (.int .i64 (plc (16 + 8 * m + i) i n)) ∧ Below w.heap.size w w' := by
  have hu := Tryz.underlying83
  have hin := inB_out (ok_out h).1
  have hs := slots n m s (by omega) (by omega)
  have hp : ∀ W, Calls Tryz.prog 99 #[.agg #[.int .i64 n, .int .i64 m, .int .i64 s], .int .i64 (IntKind.i64.wrap (16 + 8 * m + i)), .int .i64 i, .int .i64 n] W fun e w' => e = .returned (.int .i64 (plc (16 + 8 * m + i) i n)) ∧ Below W.heap.size W w' := by
    intro W
    have e : plc (16 + 8 * m + i) i n = plc (IntKind.i64.wrap (16 + 8 * m + i)) i n := by
      unfold plc
      split
      · rw [IntWalk.i64_in _ (by omega)]
      · rfl
    rw [e]
    exact place_ n m s _ i n h W
  have HP := Lib.hid hp
  have HS := Lib.hid hs
  clear h hp hs hin
  go_enter Tryz.func75, Tryz.ntmps75
  go_wp2_with fail
  go_region_held3 (fun w' => w'.cell? ⟨w.heap.size, 0, none⟩ = some (.int .i64 n) ∧ w'.cell? ⟨w.heap.size, 1, none⟩ = some (.int .i64 m) ∧ w'.cell? ⟨w.heap.size, 2, none⟩ = some (.int .i64 s) ∧ Bx w w')
    (first | assumption | exact bx_start rfl | exact bx_keep ‹_› ‹_›)
    (first | (go_at_call 99; refine (HP.out _).mono ?_; rintro e w1 ⟨rfl, hb⟩) | (go_at_call 112; refine (HS.out _).mono ?_; rintro e w2 ⟨rfl, hb⟩))
  all_goals
    go_wp2
    go_ret
    exact ⟨rfl, (bx_of ‹_›).below⟩

theorem block_ (n m s i : Int) (h : geoOk n m s = true) (w : World) : Calls Tryz.prog 79 #[.agg #[.int .i64 n, .int .i64 m, .int .i64 s], .int .i64 i] w fun e w' => e = .returned (.int .i64 (plc (bkAt n m + i * (s / 8)) i n)) ∧ Below w.heap.size w w' := by
  have hu := Tryz.underlying83
  obtain ⟨hi, hpw, _⟩ := ok_out h
  have hin := inB_out hi
  have h5 := up8_in (x := n) (by omega)
  have h6 := up8_in (x := (n + 63) / 64) (by omega)
  have hb0 : 0 ≤ bkAt n m ∧ bkAt n m ≤ 1000000 := by unfold bkAt; omega
  have hs := blocks_ n m s hi
  obtain ⟨k, e1, e2, e3, e4⟩ := pows_eight hpw
  have q1 : IntKind.i64.wrap (s.tdiv 8) = k := by rw [Int.tdiv_eq_ediv_of_nonneg (by omega), e4]; exact IntWalk.i64_in _ (by omega)
  have hp : ∀ W, Calls Tryz.prog 99 #[.agg #[.int .i64 n, .int .i64 m, .int .i64 s], .int .i64 (IntKind.i64.wrap (bkAt n m + IntKind.i64.wrap (i * k))), .int .i64 i, .int .i64 n] W fun e w' => e = .returned (.int .i64 (plc (bkAt n m + i * (s / 8)) i n)) ∧ Below W.heap.size W w' := by
    intro W
    have e : plc (bkAt n m + i * (s / 8)) i n = plc (IntKind.i64.wrap (bkAt n m + IntKind.i64.wrap (i * k))) i n := by
      rw [e4]
      unfold plc
      split
      · have hnk0 : 0 ≤ i * k := Int.mul_nonneg (by omega) (by omega)
        have hnk1 : i * k ≤ 65534 * 512 := Int.mul_le_mul (by omega) (by omega) (by omega) (by omega)
        rw [IntWalk.i64_in (i * k) (by omega), IntWalk.i64_in _ (by omega)]
      · rfl
    rw [e]
    exact place_ n m s _ i n h W
  have HP := Lib.hid hp
  have HS := Lib.hid hs
  have Q := Lib.hid q1
  clear h hp hs hin hi hpw h5 h6 e1 e4 q1
  go_enter Tryz.func79, Tryz.ntmps79
  go_wp2_with fail
  have q1 := Q.out
  go_region_held3 (fun w' => w'.cell? ⟨w.heap.size, 0, none⟩ = some (.int .i64 n) ∧ w'.cell? ⟨w.heap.size, 1, none⟩ = some (.int .i64 m) ∧ w'.cell? ⟨w.heap.size, 2, none⟩ = some (.int .i64 s) ∧ Bx w w')
    (first | assumption | exact bx_start rfl | exact bx_keep ‹_› ‹_›)
    (first | (go_at_call 99; refine (HP.out _).mono ?_; rintro e w1 ⟨rfl, hb⟩) | (go_at_call 115; refine (HS.out _).mono ?_; rintro e w2 ⟨rfl, hb⟩))
  all_goals
    go_wp2
    go_ret
    exact ⟨rfl, (bx_of ‹_›).below⟩

theorem bmap_ (n m s : Int) (h : geoOk n m s = true) (w : World) : Calls Tryz.prog 65 #[.agg #[.int .i64 n, .int .i64 m, .int .i64 s]] w fun e w' => e = .returned (.tuple #[.int .i64 (bmAt n m), .int .i64 ((n + 63) / 64)]) ∧ Below w.heap.size w w' := by
  have hu := Tryz.underlying83
  have hm := may_ n m s
  rw [h] at hm
  have HM := Lib.hid hm
  have HA := Lib.hid (bitmap_ n m s (ok_out h).1)
  clear h hm
  go_enter Tryz.func65, Tryz.ntmps65
  go_wp2_with (first | (go_at_call 106; refine (HM.out _).mono ?_; rintro e w1 ⟨rfl, hb⟩; (obtain ⟨hc, hf⟩ := bcell hb); (have HB := Lib.hid hb); clear hb hf) |
    (go_at_call 107; refine (HA.out _).mono ?_; rintro e w2 ⟨rfl, hb⟩; (have HB2 := Lib.hid hb); clear hb))
  go_ret2
  exact ⟨rfl, bl_then (bl_then (bl_alloc (Below.refl _ _) _) HB.out) HB2.out⟩

theorem each_ (n m s : Int) (h : geoOk n m s = true) (w : World) : Calls Tryz.prog 81 #[.agg #[.int .i64 n, .int .i64 m, .int .i64 s]] w fun e w' => e = .returned (.int .i64 (s / 8)) ∧ Below w.heap.size w w' := by
  have hu := Tryz.underlying83
  have hm := may_ n m s
  rw [h] at hm
  have hp := pows_in (ok_out h).2.1
  obtain ⟨p1, p2, _⟩ := hp
  have HM := Lib.hid hm
  clear h hm
  go_enter Tryz.func81, Tryz.ntmps81
  go_wp2_with (first | (go_at_call 106; refine (HM.out _).mono ?_; rintro e w1 ⟨rfl, hb⟩; (obtain ⟨hc, hf⟩ := bcell hb); (have HB := Lib.hid hb); clear hb hf))
  go_ret
  exact ⟨rfl, bl_then (bl_alloc (Below.refl _ _) _) HB.out⟩

end Go.Proofs.YtichcdoijieddaaGreat.Ge
end

/- The third chapter's functions: a word in fields. -/
section
set_option linter.unusedVariables false
set_option linter.unusedSimpArgs false
set_option maxHeartbeats 2000000
set_option maxRecDepth 100000
namespace Go.Proofs.YtichcdoijieddaaGreat.Pk
open Go Go.RowKit
open Go.Proofs.YtichcdoijieddaaGreat.Ob Go.Proofs.YtichcdoijieddaaGreat.Ba Go.Proofs.YtichcdoijieddaaGreat.Oc

/-- a word in fields -/
def spl : Nat → List Nat → List Nat
  | _, [] => []
  | x, n :: r => (x % 2 ^ n) :: spl (x / 2 ^ n) r
theorem spl_len (x : Nat) (l : List Nat) : (spl x l).length = l.length := by
  induction l generalizing x with
  | nil => rfl
  | cons n l ih => simp [spl, ih]
theorem spl_snoc (x : Nat) (l : List Nat) (n : Nat) : spl x (l ++ [n]) = spl x l ++ [x / 2 ^ l.sum % 2 ^ n] := by
  induction l generalizing x with
  | nil => simp [spl]
  | cons m l ih =>
    simp only [List.cons_append, spl, ih, List.sum_cons, Nat.div_div_eq_div_mul, Nat.pow_add]

theorem shl_shr (x n : Nat) (hx : x < 18446744073709551616) (hn : n ≤ 64) : IntKind.u64.wrap ((x : Int) * 2 ^ (64 - n)) / 2 ^ (64 - n) = ((x % 2 ^ n : Nat) : Int) := by
  have e : (x : Int) * 2 ^ (64 - n) = ((x * 2 ^ (64 - n) : Nat) : Int) := by norm_cast
  have hw : IntKind.u64.wrap ((x * 2 ^ (64 - n) : Nat) : Int) = ((x * 2 ^ (64 - n) % 18446744073709551616 : Nat) : Int) := by
    simp [IntKind.wrap, IntKind.bits, IntKind.signed]
  rw [e, hw]
  have h2 : (18446744073709551616 : Nat) = 2 ^ n * 2 ^ (64 - n) := by rw [← Nat.pow_add, show n + (64 - n) = 64 from by omega]
  have h3 : x * 2 ^ (64 - n) % 18446744073709551616 = x % 2 ^ n * 2 ^ (64 - n) := by rw [h2, Nat.mul_mod_mul_right]
  rw [h3]
  have h4 : (x % 2 ^ n * 2 ^ (64 - n)) / 2 ^ (64 - n) = x % 2 ^ n := Nat.mul_div_cancel _ (Nat.two_pow_pos _)
  refine Eq.trans ?_ (congrArg (fun z : Nat => (z : Int)) h4)
  norm_cast

theorem split_ {w : World} {A : Option Addr} {ws : List Nat} (h : Rk .i64 w A (ints ws)) (x : Nat) (hx : x < 18446744073709551616) (c : Nat) (hlo : ∀ n ∈ ws, 1 ≤ n) (hs : ws.sum ≤ 64) (hn : ws.length ≤ 64) :
    Calls Tryz.prog 105 #[.int .u64 x, .slice A ws.length c] w fun e w' => ∃ v, e = .returned (.tuple #[v, .bool (decide (x / 2 ^ ws.sum = 0))]) ∧ (x / 2 ^ ws.sum = 0 → w'.ownsRow w.heap.size 60 1 v ws.length (ivs .u64 (ints (spl x ws)))) ∧ Below w.heap.size w w' := by
  have H := Lib.hid h
  have HLO := Lib.hid hlo
  have HSU := Lib.hid hs
  obtain ⟨m, hnn⟩ : ∃ m, m = ws.length := ⟨_, rfl⟩
  rw [← hnn]
  rw [← hnn] at hn
  have HN := Lib.hid hnn
  clear h hlo hs hnn
  obtain ⟨x0, hx0⟩ : ∃ x0, x0 = x := ⟨_, rfl⟩
  have HX0 := Lib.hid hx0
  obtain ⟨i0, hinf, hz0, hz1, hz2⟩ := info_parts (show (Tryz.prog.info? 60).map (fun i => (i.zero, i.size, i.bytes)) = some (some (.int .u64 0), 1, 8) by kernel_rfl)
  clear hx0
  go_enter Tryz.func105, Tryz.ntmps105
  go_wp2_with fail
  go_loopw [12, 0, 6, 7] (fun c12 c0 c6 c7 wr => ∃ i y t : Nat, i ≤ m ∧ c12 = .int .i64 i ∧ c0 = .int .u64 y ∧ c7 = .int .i64 ((64 - t : Nat) : Int) ∧ t ≤ 64 ∧ y < 18446744073709551616 ∧ Hid (t = (ws.take i).sum ∧ y = x0 / 2 ^ t ∧ Below w.heap.size w wr ∧ wr.ownsRow w.heap.size 60 1 c6 i (ivs .u64 (ints (spl x0 (ws.take i)))))) (fun c12 _ _ _ _ => m - (intOf c12).toNat)
  case atStart => exact ⟨0, x, 0, Nat.zero_le _, rfl, rfl, rfl, by omega, hx, rfl, by rw [HX0.out]; simp, Below.refl _ _, own_nil0 _ _ _ _⟩
  case round =>
    obtain ⟨i, y, t, hi, rfl, rfl, rfl, ht, hy, HR⟩ := hrel
    by_cases hlt : i < m
    · obtain ⟨n, hp⟩ := some_at (l := ws) (i := i) (by rw [← HN.out]; exact hlt)
      obtain ⟨a, rfl, hq, e1⟩ := (H.out.below HR.out.2.2.1) i _ (ints_get hp)
      have hn1 := HLO.out n (List.mem_of_getElem? hp)
      have hsum : t + n = (ws.take (i + 1)).sum := by rw [take_next hp, List.sum_append, ← HR.out.1]; simp
      have hle : t + n ≤ 64 := by
        have : ws.sum = (ws.take (i + 1)).sum + (ws.drop (i + 1)).sum := by rw [← List.sum_append, List.take_append_drop]
        have := HSU.out
        omega
      have HP := Lib.hid (And.intro hp hsum)
      clear hp hsum hq
      have hc1 : ((64 - t : Nat) : Int) = 64 - (t : Int) := by omega
      have HOW := Lib.hid (fun o => own_kp (W' := wr.alloc o) HR.out.2.2.2 (fun k _ hk => Below.heap_alloc _ _ k hk))
      have hv := shl_shr y n hy (by omega)
      have hv2 : (y : Int) / 2 ^ n = ((y / 2 ^ n : Nat) : Int) := by norm_cast
      have hy2 : y / 2 ^ n < 18446744073709551616 := Nat.lt_of_le_of_lt (Nat.div_le_self _ _) hy
      have hm : y % 2 ^ n < 18446744073709551616 := Nat.lt_of_le_of_lt (Nat.mod_le _ _) hy
      have HS : Hid (spl x0 (ws.take (i + 1)) = spl x0 (ws.take i) ++ [y % 2 ^ n] ∧ y / 2 ^ n = x0 / 2 ^ (t + n)) := by
        refine ⟨?_, ?_⟩
        · rw [take_next HP.out.1, spl_snoc, ← HR.out.1, ← HR.out.2.1]
        · rw [HR.out.2.1, Nat.div_div_eq_div_mul, Nat.pow_add]
      generalize y % 2 ^ n = r at *
      generalize y / 2 ^ n = y2 at *
      go_wp2_with (at_builtin; refine wpList_append_own _ rfl (.tmp 23) (.tmp 31) 22 rfl w.heap.size 60 i0 (.int .u64 0) 1 8 Tryz.underlying22 hinf hz0 hz1 hz2 rfl (by decide) _ i _ rfl (HOW.out _) ⟨wr.heap.size, 0, none⟩ 1 1 [.int .u64 r] rfl rfl (one_at _ _ _) (by intro u hu; simp at hu; subst hu; rfl) (by unfold maxLen; omega) (by omega) (by have h1 := HR.out.2.2.1.size; simp; omega) ?_; intro v' w7 hown' hgrow _; (have HO := Lib.hid hown'); (have HG := Lib.hid hgrow); clear hown' hgrow)
      have HZ : Hid (Below w.heap.size w w7 ∧ w7.ownsRow w.heap.size 60 1 v' (i + 1) (ivs .u64 (ints (spl x0 (ws.take (i + 1)))))) := by
        refine ⟨bl_grown (bl_alloc HR.out.2.2.1 _) HG.out (own_lo HR.out.2.2.2), ?_⟩
        rw [HS.out.1, ints_append, ivs_append]
        exact HO.out
      go_roundw
      case rel => exact ⟨i + 1, y2, t + n, by omega, by go_num, rfl, congrArg (Value.int IntKind.i64) (by omega), hle, hy2, HP.out.2, HS.out.2, HZ.out⟩
      case measure => simp [intOf]; omega
    · obtain rfl : i = m := by omega
      have e : ws.take i = ws := List.take_of_length_le (by rw [← HN.out]; omega)
      have h2 := HR.out
      rw [e] at h2
      have HE := Lib.hid h2
      clear h2 e
      by_cases hz : y = 0
      · have e1 : ((y : Int) != 0) = false := by simp [hz]
        have HZ : Hid (x / 2 ^ ws.sum = 0) := by
          show _ = _
          rw [← HX0.out, ← HE.out.1, ← HE.out.2.1]; exact hz
        clear hz
        go_wp2_with fail
        go_ret2
        refine ⟨_, by rw [decide_eq_true HZ.out]; rfl, fun _ => ?_, HE.out.2.2.1⟩
        have := HE.out.2.2.2
        rw [HX0.out] at this
        exact this
      · have e1 : ((y : Int) != 0) = true := by rw [bne_iff_ne]; omega
        have HZ : Hid (x / 2 ^ ws.sum ≠ 0) := by
          show _ ≠ _
          rw [← HX0.out, ← HE.out.1, ← HE.out.2.1]; exact hz
        clear hz
        go_wp2_with fail
        go_ret2
        exact ⟨_, by rw [decide_eq_false HZ.out]; rfl, fun h => absurd h HZ.out, HE.out.2.2.1⟩

end Go.Proofs.YtichcdoijieddaaGreat.Pk
end

/- The fifth chapter's functions: a superblock's words. -/
section
set_option linter.unusedVariables false
set_option linter.unusedSimpArgs false
set_option maxHeartbeats 2000000
set_option maxRecDepth 100000
namespace Go.Proofs.YtichcdoijieddaaGreat.Su
open Go Go.RowKit
open Go.Proofs.YtichcdoijieddaaGreat.Ob Go.Proofs.YtichcdoijieddaaGreat.Ba Go.Proofs.YtichcdoijieddaaGreat.Ko Go.Proofs.YtichcdoijieddaaGreat.Ge Go.Proofs.YtichcdoijieddaaGreat.Cr Go.Proofs.YtichcdoijieddaaGreat.Cc Go.Proofs.YtichcdoijieddaaGreat.Oc Go.Proofs.YtichcdoijieddaaGreat.Pk

/-- a line: two numbers, and the sum behind noughts -/
def head7 (a b : Nat) : List Nat := [a, b, 0, 0, 0, 0, 0]
def sum7 (a b : Nat) : Nat := 4294967295 - sumB 4294967295 (octs (head7 a b))
def line (a b : Nat) : List Nat := [a, b, 0, 0, 0, 0, 0, sum7 a b]
theorem sum7_lt (a b : Nat) : sum7 a b < 4294967296 := by unfold sum7; omega
theorem sumB_le (l : List Nat) : sumB 4294967295 (octs l) < 4294967296 := sumB_lt _ _ (by decide) (octs_lt l)
theorem sum7_int (a b : Nat) : (4294967295 - (sumB 4294967295 (octs (head7 a b)) : Nat) : Int) = (sum7 a b : Nat) := by
  have := sumB_le (head7 a b)
  unfold sum7
  omega

def magic : Nat := 3544409100874826051
def word1 (n m s : Nat) : Nat := n + 65536 * m + 4294967296 * s
def enc (n m s : Nat) : List Nat := line magic (word1 n m s)

theorem geo_small {n m s : Int} (h : geoOk n m s = true) : ∃ a b c : Nat, n = a ∧ m = b ∧ s = c ∧ a < 65536 ∧ b < 65536 ∧ c < 65536 := by
  obtain ⟨h1, h2, h3⟩ := ok_out h
  obtain ⟨i1, i2, i3, i4⟩ := inB_out h1
  obtain ⟨p1, p2, _⟩ := pows_in h2
  exact ⟨n.toNat, m.toNat, s.toNat, by omega, by omega, by omega, by omega, by omega, by omega⟩

/-- the block of a line that is filled -/
theorem fill_line {W : World} {k T : Nat} {a b : Nat} (h : W.heap[k]? = some (.cells #[.int .u64 a, .int .u64 b, .int .u64 0, .int .u64 0, .int .u64 0, .int .u64 0, .int .u64 0, .int .u64 0] T (0, 0))) : Rk .u64 W (some ⟨k, 0, none⟩) (ints (head7 a b)) := by
  refine blk_rk h fun i x hx => ?_
  match i with
  | 0 => simpa [ints, head7] using hx
  | 1 => simpa [ints, head7] using hx
  | 2 => simpa [ints, head7] using hx
  | 3 => simpa [ints, head7] using hx
  | 4 => simpa [ints, head7] using hx
  | 5 => simpa [ints, head7] using hx
  | 6 => simpa [ints, head7] using hx
  | i + 7 => simp [ints, head7] at hx

theorem head7_lt {a b : Nat} (ha : a < 18446744073709551616) (hb : b < 18446744073709551616) : ∀ x ∈ head7 a b, x < 18446744073709551616 := by
  intro x hx
  simp only [head7, List.mem_cons, List.not_mem_nil, or_false] at hx
  omega

theorem fields_at {W : World} {q T : Nat} {l : List (Nat × Nat)} {fr : Nat × Nat} (h : W.heap[q]? = some (.cells ((l.flatMap fun p => [Value.int .i64 p.1, Value.int .u64 p.2])).toArray T fr)) (ho : ∀ p ∈ l, FOk p.1 p.2) : FsAt W (some ⟨q, 0, none⟩) l := by
  have key : ∀ (l : List (Nat × Nat)) (i : Nat) p, l[i]? = some p → (l.flatMap fun p => [Value.int .i64 p.1, Value.int .u64 p.2])[i * 2]? = some (.int .i64 p.1) ∧ (l.flatMap fun p => [Value.int .i64 p.1, Value.int .u64 p.2])[i * 2 + 1]? = some (.int .u64 p.2) := by
    intro l
    induction l with
    | nil => intro i p h; simp at h
    | cons a l ih =>
      intro i p h
      cases i with
      | zero => simp at h; subst h; simp
      | succ i =>
        rw [List.getElem?_cons_succ] at h
        obtain ⟨h1, h2⟩ := ih i p h
        rw [List.flatMap_cons]
        rw [show (i + 1) * 2 = i * 2 + 2 from by omega, show i * 2 + 2 + 1 = (i * 2 + 1) + 2 from by omega]
        simp only [List.cons_append, List.nil_append, List.getElem?_cons_succ]
        exact ⟨h1, h2⟩
  intro i p hi
  obtain ⟨k1, k2⟩ := key l i p hi
  refine ⟨ho p (List.mem_of_getElem? hi), q, 0, rfl, lt_of h, ?_, ?_⟩
  · rw [cell_of h, Nat.zero_add]; simpa using k1
  · rw [cell_of h, Nat.zero_add]; simpa using k2

theorem magic_wds : wds [67, 65, 78, 84, 76, 69, 48, 49] = [magic] := by decide

theorem f16 {v : Nat} (h : v < 65536) : FOk 16 v := ⟨by omega, by omega, h⟩

end Go.Proofs.YtichcdoijieddaaGreat.Su
end

/- The document's superblock (cantleref05.Encode). -/
section
set_option linter.unusedVariables false
set_option linter.unusedSimpArgs false
set_option maxHeartbeats 2000000
set_option maxRecDepth 100000
namespace Go.Proofs.YtichcdoijieddaaGreat.Su
open Go Go.RowKit
open Go.Proofs.YtichcdoijieddaaGreat.Ob Go.Proofs.YtichcdoijieddaaGreat.Ba Go.Proofs.YtichcdoijieddaaGreat.Ko Go.Proofs.YtichcdoijieddaaGreat.Ge Go.Proofs.YtichcdoijieddaaGreat.Cr Go.Proofs.YtichcdoijieddaaGreat.Cc Go.Proofs.YtichcdoijieddaaGreat.Oc Go.Proofs.YtichcdoijieddaaGreat.Pk

def mname : List Nat := [67, 65, 78, 84, 76, 69, 48, 49]
def mg : Nat → Nat
  | 0 => 0
  | k + 1 => 256 * mg k + mname.getD (7 - k) 0
theorem mg_lt (k : Nat) (h : k ≤ 7) : mg k < 72057594037927936 := by
  match k, h with
  | 0, _ | 1, _ | 2, _ | 3, _ | 4, _ | 5, _ | 6, _ | 7, _ => decide
theorem mg8 : mg 8 = magic := by decide

theorem rhead {w : World} (a b : Nat) : Rk .u64 (w.alloc (.cells #[.int .u64 a, .int .u64 b, .int .u64 0, .int .u64 0, .int .u64 0, .int .u64 0, .int .u64 0] 60)) (some ⟨w.heap.size, 0, none⟩) (ints (head7 a b)) := by
  refine blk_rk (alloc_new w (.cells #[.int .u64 a, .int .u64 b, .int .u64 0, .int .u64 0, .int .u64 0, .int .u64 0, .int .u64 0] 60)) fun i z hz => ?_
  match i with
  | 0 | 1 | 2 | 3 | 4 | 5 | 6 => simpa [ints, head7] using hz
  | i + 7 => simp [ints, head7] at hz

theorem rencode_yes (n m s : Nat) (h : geoOk n m s = true) (hn : n < 65536) (hm : m < 65536) (hs : s < 65536) (w : World) :
    Calls Tryz.prog 88 #[.int .i64 n, .int .i64 m, .int .i64 s] w fun e w' => ∃ v, e = .returned (.tuple #[v, .bool true]) ∧ w'.ownsRow w.heap.size 60 1 v 8 (ivs .u64 (ints (enc n m s))) ∧ Below w.heap.size w w' := by
  have hof := of_any n m s
  have hp : (parts n m s).2.2.2.2.2 = true := by unfold parts; rw [h]; rfl
  rw [hp] at hof
  have HOF := Lib.hid hof
  generalize parts n m s = pp at *
  obtain ⟨p1, p2, p3, p4, p5, p6⟩ := pp
  have hix : Hid (∀ {i x : Nat} (hx : mname[i]? = some x) (w : World), (Instr.index 9 (.string ⟨#[67, 65, 78, 84, 76, 69, 48, 49]⟩) (.int .i64 (i : Int))).run Tryz.prog w = .ok (.int .u8 x) w) := fun hx w =>
    index_txt 9 Tryz.underlying9 (l := mname) (by decide) hx w
  obtain ⟨i0, hinf, hz0, hz1, hz2⟩ := info_parts info_u64
  clear h hof hp
  go_enter Tryz.func88, Tryz.ntmps88
  go_wp2_with (go_at_call 117; refine (HOF.out _).mono ?_; rintro e w1 ⟨rfl, hb⟩; (have HB := Lib.hid hb); clear hb)
  generalize hw2 : w1.alloc (.cells #[.int .i64 p1, .int .i64 p2, .int .i64 p3, .int .i64 p4, .int .i64 p5] 31) = w2
  have HB2 : Hid (Below w.heap.size w w2) := by rw [← hw2]; exact bl_alloc HB.out _
  clear hw2 HB
  go_loop [10, 11] (fun c10 c11 => ∃ (k y : Nat) (z : Int), k ≤ 8 ∧ z = 7 - (k : Int) ∧ c11 = .int .i64 z ∧ c10 = .int .u64 y ∧ Hid (y = mg k)) (fun _ c11 => (intOf c11 + 1).toNat)
  case atStart => exact ⟨0, 0, 7, Nat.zero_le _, rfl, rfl, rfl, rfl⟩
  case round =>
    obtain ⟨k, y, z, hk, hz, rfl, rfl, HY⟩ := hrel
    by_cases hlt : k < 8
    · obtain ⟨x, hx⟩ := some_at (l := mname) (i := 7 - k) (by simp [mname]; omega)
      have hx9 : x < 256 := (by decide : ∀ x ∈ mname, x < 256) x (List.mem_of_getElem? hx)
      have hy9 : y < 72057594037927936 := by rw [HY.out]; exact mg_lt k (by omega)
      have hi := hix.out hx
      rw [show ((7 - k : Nat) : Int) = z from by omega] at hi
      have hz0 : 0 ≤ z := by omega
      have hz7 : z ≤ 7 := by omega
      have HS : Hid (mg (k + 1) = 256 * y + x) := by
        show 256 * mg k + mname.getD (7 - k) 0 = _
        rw [HY.out, List.getD_eq_getElem?_getD, hx]
        rfl
      have HK := Lib.hid (And.intro hz hlt)
      clear hx hk hz hlt
      go_wp2_with fail
      go_round
      case rel => exact ⟨k + 1, 256 * y + x, z - 1, HK.out.2, by have := HK.out.1; omega, rfl, by go_num, HS.out.symm⟩
      case measure => simp [intOf]; omega
    · obtain rfl : k = 8 := by omega
      obtain rfl : z = -1 := by omega
      have hy : y = magic := HY.out.trans mg8
      have HM := Lib.hid hy
      have hy9 : y < 18446744073709551616 := by rw [hy]; decide
      clear hy hk HY
      go_wp2_with fail
      obtain ⟨x, hx⟩ : ∃ x, x = word1 n m s := ⟨_, rfl⟩
      have hxi : (n : Int) + 65536 * m + 4294967296 * s = (x : Nat) := by rw [hx]; unfold word1; omega
      have hx9 : x < 18446744073709551616 := by rw [hx]; unfold word1; omega
      have HX := Lib.hid hx
      rw [hxi]
      have hrb := rbytes_ (rhead (w := w2) y x) (head7_lt hy9 hx9) 7 (by simp [head7])
      rw [show (head7 y x).length = 7 from rfl] at hrb
      have HSM : Hid (∀ w, Calls Tryz.prog 54 #[.string (txt (octs (head7 y x)))] w fun e w' => e = .returned (.int .u32 (sum7 y x : Nat)) ∧ w = w') := fun w => rsum32_ (octs_lt _) (by rw [octs_length]; simp [head7]) w
      have hrow : (w2.alloc (.cells #[.int .u64 y, .int .u64 x, .int .u64 0, .int .u64 0, .int .u64 0, .int .u64 0, .int .u64 0] 60)).ownsRow w.heap.size 60 1 (.slice (some ⟨w2.heap.size, 0, none⟩) 7 7) 7 (ivs .u64 (ints (head7 y x))) :=
        own_new (k := .u64) (l := ints (head7 y x)) (alloc_new w2 _) HB2.out.size rfl (by unfold maxLen; omega)
      have HROW := Lib.hid hrow
      have hs9 := sum7_lt y x
      have HBA := Lib.hid (bl_alloc HB2.out (.cells #[.int .u64 y, .int .u64 x, .int .u64 0, .int .u64 0, .int .u64 0, .int .u64 0, .int .u64 0] 60))
      clear hx hxi hrow
      generalize txt (octs (head7 y x)) = S at *
      have HSE : Hid (line y x = head7 y x ++ [sum7 y x]) := rfl
      generalize sum7 y x = t at *
      refine hrb.mono ?_
      clear hrb
      rintro e w3 ⟨rfl, hb3⟩
      have hrow3 := own_bl HROW.out hb3
      have HB3 := Lib.hid (bl_then HBA.out hb3)
      have HOW := Lib.hid (fun o => own_kp (W' := w3.alloc o) hrow3 (fun k _ hk => Below.heap_alloc _ _ k hk))
      have HR3 := Lib.hid hrow3
      clear hb3 hrow3
      go_wp2_with (first | (go_at_call 54; refine (HSM.out _).mono ?_; rintro e w4 ⟨rfl, rfl⟩) |
        (at_builtin; refine wpList_append_own _ rfl (.tmp 44) (.tmp 49) 22 rfl w.heap.size 60 i0 (.int .u64 0) 1 8 Tryz.underlying22 hinf hz0 hz1 hz2 rfl (by decide) _ 7 _ rfl (HOW.out _) ⟨w3.heap.size, 0, none⟩ 1 1 [.int .u64 t] rfl rfl (one_at _ _ _) (by intro u hu; simp at hu; subst hu; rfl) (by unfold maxLen; omega) (by omega) (by have h1 := HB3.out.size; simp; omega) ?_; intro v' w7 hown' hgrow _; (have HO := Lib.hid hown'); (have HG := Lib.hid hgrow); clear hown' hgrow))
      go_ret2
      refine ⟨_, rfl, ?_, bl_grown (bl_alloc HB3.out _) HG.out (own_lo HR3.out)⟩
      unfold enc
      rw [← HX.out, ← HM.out, HSE.out, ints_append, ivs_append]
      exact HO.out

end Go.Proofs.YtichcdoijieddaaGreat.Su
end
