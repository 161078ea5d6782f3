/- The fourth chapter's reference: where the parts of an image begin. -/
import Derived.Test.YtlokklfkiechdaaOb
import Derived.Test.YtlokklfkiechdaaProg
import Derived.WalkKit
import Derived.WalkSpells
import Derived.LoopTactic
import Derived.Lib.Hide
import Derived.Deep.RegionWith
set_option linter.unusedVariables false
set_option linter.unusedSimpArgs false
set_option maxHeartbeats 400000
namespace Go.Proofs.Ytlokklfkiechdaa.Ko
open Go Go.RowKit
open Go.Proofs.Ytlokklfkiechdaa.Ob

def pows : List Int := [64, 128, 256, 512, 1024, 2048, 4096]
def up8 (x : Int) : Int := (x + 7) / 8 * 8
def tot (n m s : Int) : Int := 16 + 8 * m + up8 n + up8 ((n + 63) / 64) + n * (s / 8)
def inB (n m : Int) : Bool := decide (1 ≤ n) && decide (n ≤ 65534) && decide (1 ≤ m) && decide (m ≤ 65534)
def geoOk (n m s : Int) : Bool := inB n m && decide (s ∈ pows) && decide (tot n m s ≤ 4194304)
/-- the parts' beginnings, and where they end -/
def parts (n m s : Int) : Int × Int × Int × Int × Int × Bool :=
  if geoOk n m s then (16, 16 + 8 * m, 16 + 8 * m + up8 n, 16 + 8 * m + up8 n + up8 ((n + 63) / 64), tot n m s, true) else (0, 0, 0, 0, 0, false)

theorem fill_any (x : Int) (h0 : 0 ≤ x) (h1 : x < 1000000000) (w : World) :
    Calls Try.prog 48 #[.int .i64 x] w fun e w' => e = .returned (.int .i64 (up8 x)) ∧ w = w' := by
  have hu : x ≤ up8 x ∧ up8 x ≤ x + 7 := by unfold up8; omega
  go_enter Try.func48, Try.ntmps48
  go_wp2_with fail
  go_loop [0] (fun c => ∃ y : Int, x ≤ y ∧ Hid (up8 y = up8 x) ∧ Hid (y ≤ up8 y) ∧ y ≤ 1000000007 ∧ c = .int .i64 y) (fun c => (up8 x - intOf c).toNat)
  case atStart => exact ⟨x, Int.le_refl _, rfl, hu.1, by omega, rfl⟩
  case round =>
    obtain ⟨y, hy0, hy1, hy2, hy3, rfl⟩ := hrel
    by_cases hm : y % 8 = 0
    · have hmb : (y % 8 == 0) = true := by simpa using hm
      have hmb2 : (y % 8 != 0) = false := by simpa using hm
      have e : up8 x = y := by rw [← hy1.out]; unfold up8; omega
      have HE := Lib.hid e
      clear hm e
      go_wp2_with fail
      go_ret
      exact ⟨by rw [HE.out]; rfl, rfl⟩
    · have hmb : (y % 8 == 0) = false := by simpa using hm
      have hmb2 : (y % 8 != 0) = true := by simpa using hm
      have e : up8 (y + 1) = up8 x := by rw [← hy1.out]; unfold up8; omega
      have e2 : y + 1 ≤ up8 (y + 1) := by unfold up8; omega
      have e3 : y + 1 ≤ up8 x := by rw [← e]; exact e2
      have HE := Lib.hid (And.intro e (And.intro e2 e3))
      clear hm e e2
      go_wp2_with fail
      go_round
      case rel => exact ⟨y + 1, by omega, HE.out.1, HE.out.2.1, by omega, rfl⟩
      case measure => simp [intOf]; omega

theorem pows_in {s : Int} (h : s ∈ pows) : 64 ≤ s ∧ s ≤ 4096 ∧ s % 8 = 0 := by
  simp only [pows, List.mem_cons, List.not_mem_nil, or_false] at h
  omega

def zero5 : Value := .tuple #[.agg #[.int .i64 0, .int .i64 0, .int .i64 0, .int .i64 0, .int .i64 0], .bool false]

theorem of_out (n m s : Int) (hb : inB n m = false) (w : World) :
    Calls Try.prog 22 #[.int .i64 n, .int .i64 m, .int .i64 s] w fun e w' => e = .returned zero5 ∧ Below w.heap.size w w' := by
  simp only [inB, Bool.and_eq_false_iff, decide_eq_false_iff_not] at hb
  by_cases h1 : n < 1
  · clear hb
    go_enter Try.func22, Try.ntmps22
    go_wp2_with fail
    exact bodyPost_ret (v := zero5) (by simp [zero5, results, Try.results22, go_sem]) rfl ⟨rfl, by first | exact (((Upd.refl [] w).alloc _).setCell (a := _) (.inr (by simp)) _).below (by simp) | exact ((Upd.refl [] w).alloc _).below (by simp)⟩
  by_cases h2 : 65534 < n
  · clear hb
    go_enter Try.func22, Try.ntmps22
    go_wp2_with fail
    exact bodyPost_ret (v := zero5) (by simp [zero5, results, Try.results22, go_sem]) rfl ⟨rfl, by first | exact (((Upd.refl [] w).alloc _).setCell (a := _) (.inr (by simp)) _).below (by simp) | exact ((Upd.refl [] w).alloc _).below (by simp)⟩
  by_cases h3 : m < 1
  · clear hb
    go_enter Try.func22, Try.ntmps22
    go_wp2_with fail
    exact bodyPost_ret (v := zero5) (by simp [zero5, results, Try.results22, go_sem]) rfl ⟨rfl, by first | exact (((Upd.refl [] w).alloc _).setCell (a := _) (.inr (by simp)) _).below (by simp) | exact ((Upd.refl [] w).alloc _).below (by simp)⟩
  · have h4 : 65534 < m := by omega
    clear hb
    go_enter Try.func22, Try.ntmps22
    go_wp2_with fail
    exact bodyPost_ret (v := zero5) (by simp [zero5, results, Try.results22, go_sem]) rfl ⟨rfl, by first | exact (((Upd.refl [] w).alloc _).setCell (a := _) (.inr (by simp)) _).below (by simp) | exact ((Upd.refl [] w).alloc _).below (by simp)⟩

/-- the power behind the loop -/
def PowRel (s p : Int) : Prop := p ∈ pows ∧ ∀ q ∈ pows, q < p → q < s
theorem pow_start (s : Int) : PowRel s 64 := ⟨by decide, by intro q hq h; simp only [pows, List.mem_cons, List.not_mem_nil, or_false] at hq; omega⟩
theorem pow_next {s p : Int} (h : PowRel s p) (h1 : p < 4096) (h2 : p < s) : PowRel s (2 * p) := by
  obtain ⟨hp, hl⟩ := h
  refine ⟨?_, fun q hq hqp => ?_⟩
  · simp only [pows, List.mem_cons, List.not_mem_nil, or_false] at hp ⊢
    omega
  · simp only [pows, List.mem_cons, List.not_mem_nil, or_false] at hp hq
    omega
theorem pow_end {s p : Int} (h : PowRel s p) (h1 : ¬ (p < 4096 ∧ p < s)) : p = s ↔ s ∈ pows := by
  obtain ⟨hp, hl⟩ := h
  refine ⟨fun e => by rw [← e]; exact hp, fun hs => ?_⟩
  have := hl s hs
  have hp' := pows_in hp
  have hs' := pows_in hs
  simp only [pows, List.mem_cons, List.not_mem_nil, or_false] at hp hs
  by_cases h4 : p < 4096
  · omega
  · have h5 := hl 2048 (by decide) (by omega)
    omega

set_option maxRecDepth 100000 in
theorem of_no (n m s : Int) (hb : inB n m = true) (hs : ¬ s ∈ pows) (w : World) :
    Calls Try.prog 22 #[.int .i64 n, .int .i64 m, .int .i64 s] w fun e w' => e = .returned zero5 ∧ Below w.heap.size w w' := by
  have hb' := hb
  simp only [inB, Bool.and_eq_true, decide_eq_true_eq] at hb'
  obtain ⟨⟨⟨h1, h2⟩, h3⟩, h4⟩ := hb'
  have HB := Lib.hid hb
  have HS := Lib.hid hs
  clear hb hs
  go_enter Try.func22, Try.ntmps22
  go_wp2_with fail
  go_loop [8] (fun c => ∃ p : Int, 64 ≤ p ∧ p ≤ 4096 ∧ Hid (PowRel s p) ∧ c = .int .i64 p) (fun c => (8192 - intOf c).toNat)
  case atStart => exact ⟨64, by omega, by omega, pow_start s, rfl⟩
  case round =>
    obtain ⟨p, hp0, hp1, hp, rfl⟩ := hrel
    by_cases hc : p < 4096 ∧ p < s
    · obtain ⟨hc1, hc2⟩ := hc
      have hn := pow_next hp.out hc1 hc2
      have hnn := pows_in hn.1
      have HN := Lib.hid hn
      clear hn
      go_wp2_with fail
      go_round
      case rel => exact ⟨2 * p, by omega, by omega, HN.out, rfl⟩
      case measure => simp [intOf]; omega
    · have he := pow_end hp.out hc
      have HE := Lib.hid he
      have hc' : (p < 4096 ∧ s ≤ p) ∨ Hid (p = 4096) := by
        by_cases h : p = 4096
        · exact .inr h
        · exact .inl (by omega)
      clear he hc
      have hps : p ≠ s := fun e => HS.out (HE.out.1 e)
      have hpb : (p == s) = false := beq_eq_false_iff_ne.2 hps
      have hpb2 : (p != s) = true := by simp [hps]
      rcases hc' with ⟨hc1, hc2⟩ | hc1
      · go_wp2_with fail
        exact bodyPost_ret (v := zero5) (by simp [zero5, results, Try.results22, go_sem]) rfl ⟨rfl, ((Upd.refl [] w).alloc _).below (by simp)⟩
      · obtain rfl := hc1.out
        go_wp2_with fail
        exact bodyPost_ret (v := zero5) (by simp [zero5, results, Try.results22, go_sem]) rfl ⟨rfl, ((Upd.refl [] w).alloc _).below (by simp)⟩

theorem fill_at (x : Int) (h0 : 0 ≤ x) (h1 : x < 1000000000) (y : Int) (hy : Hid (up8 x = y)) (w : World) :
    Calls Try.prog 48 #[.int .i64 x] w fun e w' => e = .returned (.int .i64 y) ∧ w = w' := by
  have := fill_any x h0 h1 w
  rw [hy.out] at this
  exact this

set_option maxRecDepth 100000 in
theorem of_yes (n m s b1 b2 : Int) (hb : inB n m = true) (hs : s ∈ pows) (hb1 : Hid (b1 = 16 + 8 * m + up8 n)) (hb2 : Hid (b2 = b1 + up8 ((n + 63) / 64))) (hle : b2 + n * s / 8 ≤ 4194304) (w : World) :
    Calls Try.prog 22 #[.int .i64 n, .int .i64 m, .int .i64 s] w fun e' w' => e' = .returned (.tuple #[.agg #[.int .i64 16, .int .i64 (16 + 8 * m), .int .i64 b1, .int .i64 b2, .int .i64 (b2 + n * s / 8)], .bool true]) ∧ Below w.heap.size w w' := by
  have hb' := hb
  simp only [inB, Bool.and_eq_true, decide_eq_true_eq] at hb'
  obtain ⟨⟨⟨h1, h2⟩, h3⟩, h4⟩ := hb'
  have hsp := pows_in hs
  have hp0 : 0 ≤ n * s := Int.mul_nonneg (by omega) (by omega)
  have hp1 : n * s ≤ 65534 * 4096 := Int.mul_le_mul h2 (by omega) (by omega) (by omega)
  have q1 : 0 ≤ b1 ∧ b1 ≤ 600000 := by have := hb1.out; unfold up8 at this; omega
  have q2 : 0 ≤ b2 ∧ b2 ≤ 700000 := by have := hb2.out; unfold up8 at this; omega
  have w1 : Hid (up8 (16 + 8 * m + n) = b1) := by show up8 (16 + 8 * m + n) = b1; rw [hb1.out]; unfold up8; omega
  have w2 : Hid (up8 (b1 + (n + 63) / 64) = b2) := by show up8 (b1 + (n + 63) / 64) = b2; rw [hb2.out, hb1.out]; unfold up8; omega
  obtain ⟨q1a, q1b⟩ := q1
  obtain ⟨q2a, q2b⟩ := q2
  have HB := Lib.hid hb
  have HS := Lib.hid (And.intro hs hsp)
  clear hb hs hsp hb1 hb2
  go_enter Try.func22, Try.ntmps22
  go_wp2_with fail
  go_loop [8] (fun c => ∃ p : Int, 64 ≤ p ∧ p ≤ 4096 ∧ Hid (PowRel s p) ∧ c = .int .i64 p) (fun c => (8192 - intOf c).toNat)
  case atStart => exact ⟨64, by omega, by omega, pow_start s, rfl⟩
  case round =>
    obtain ⟨p, hp0, hp1, hp, rfl⟩ := hrel
    by_cases hc : p < 4096 ∧ p < s
    · obtain ⟨hc1, hc2⟩ := hc
      have hn := pow_next hp.out hc1 hc2
      have hnn := pows_in hn.1
      have HN := Lib.hid hn
      clear hn
      go_wp2_with fail
      go_round
      case rel => exact ⟨2 * p, by omega, by omega, HN.out, rfl⟩
      case measure => simp [intOf]; omega
    · obtain rfl : p = s := (pow_end hp.out hc).2 HS.out.1
      clear hc
      clear hp
      by_cases h4096 : p < 4096
      all_goals
        go_wp2_with fail
        refine (fill_at _ (by omega) (by omega) b1 w1 _).mono ?_
        rintro e9 w9 ⟨rfl, rfl⟩
        go_wp2_with fail
        refine (fill_at _ (by omega) (by omega) b2 w2 _).mono ?_
        rintro e9 w9 ⟨rfl, rfl⟩
        go_wp2_with fail
        exact bodyPost_ret (v := .tuple #[.agg #[.int .i64 16, .int .i64 (16 + 8 * m), .int .i64 b1, .int .i64 b2, .int .i64 (b2 + n * p / 8)], .bool true]) (by simp [zero5, results, Try.results22, go_sem]) rfl ⟨rfl, (((Upd.refl [] w).alloc _).alloc _).below (by simp)⟩

set_option maxRecDepth 100000 in
theorem of_big (n m s b1 b2 : Int) (hb : inB n m = true) (hs : s ∈ pows) (hb1 : Hid (b1 = 16 + 8 * m + up8 n)) (hb2 : Hid (b2 = b1 + up8 ((n + 63) / 64))) (hle : 4194304 < b2 + n * s / 8) (w : World) :
    Calls Try.prog 22 #[.int .i64 n, .int .i64 m, .int .i64 s] w fun e' w' => e' = .returned zero5 ∧ Below w.heap.size w w' := by
  have hb' := hb
  simp only [inB, Bool.and_eq_true, decide_eq_true_eq] at hb'
  obtain ⟨⟨⟨h1, h2⟩, h3⟩, h4⟩ := hb'
  have hsp := pows_in hs
  have hp0 : 0 ≤ n * s := Int.mul_nonneg (by omega) (by omega)
  have hp1 : n * s ≤ 65534 * 4096 := Int.mul_le_mul h2 (by omega) (by omega) (by omega)
  have q1 : 0 ≤ b1 ∧ b1 ≤ 600000 := by have := hb1.out; unfold up8 at this; omega
  have q2 : 0 ≤ b2 ∧ b2 ≤ 700000 := by have := hb2.out; unfold up8 at this; omega
  have w1 : Hid (up8 (16 + 8 * m + n) = b1) := by show up8 (16 + 8 * m + n) = b1; rw [hb1.out]; unfold up8; omega
  have w2 : Hid (up8 (b1 + (n + 63) / 64) = b2) := by show up8 (b1 + (n + 63) / 64) = b2; rw [hb2.out, hb1.out]; unfold up8; omega
  obtain ⟨q1a, q1b⟩ := q1
  obtain ⟨q2a, q2b⟩ := q2
  have HB := Lib.hid hb
  have HS := Lib.hid (And.intro hs hsp)
  clear hb hs hsp hb1 hb2
  go_enter Try.func22, Try.ntmps22
  go_wp2_with fail
  go_loop [8] (fun c => ∃ p : Int, 64 ≤ p ∧ p ≤ 4096 ∧ Hid (PowRel s p) ∧ c = .int .i64 p) (fun c => (8192 - intOf c).toNat)
  case atStart => exact ⟨64, by omega, by omega, pow_start s, rfl⟩
  case round =>
    obtain ⟨p, hp0, hp1, hp, rfl⟩ := hrel
    by_cases hc : p < 4096 ∧ p < s
    · obtain ⟨hc1, hc2⟩ := hc
      have hn := pow_next hp.out hc1 hc2
      have hnn := pows_in hn.1
      have HN := Lib.hid hn
      clear hn
      go_wp2_with fail
      go_round
      case rel => exact ⟨2 * p, by omega, by omega, HN.out, rfl⟩
      case measure => simp [intOf]; omega
    · obtain rfl : p = s := (pow_end hp.out hc).2 HS.out.1
      clear hc
      clear hp
      by_cases h4096 : p < 4096
      all_goals
        go_wp2_with fail
        refine (fill_at _ (by omega) (by omega) b1 w1 _).mono ?_
        rintro e9 w9 ⟨rfl, rfl⟩
        go_wp2_with fail
        refine (fill_at _ (by omega) (by omega) b2 w2 _).mono ?_
        rintro e9 w9 ⟨rfl, rfl⟩
        go_wp2_with fail
        exact bodyPost_ret (v := zero5) (by simp [zero5, results, Try.results22, go_sem]) rfl ⟨rfl, (((Upd.refl [] w).alloc _).alloc _).below (by simp)⟩

theorem of_any (n m s : Int) (w : World) :
    Calls Try.prog 22 #[.int .i64 n, .int .i64 m, .int .i64 s] w fun e w' => e = .returned (.tuple #[.agg #[.int .i64 (parts n m s).1, .int .i64 (parts n m s).2.1, .int .i64 (parts n m s).2.2.1, .int .i64 (parts n m s).2.2.2.1, .int .i64 (parts n m s).2.2.2.2.1], .bool (parts n m s).2.2.2.2.2]) ∧ Below w.heap.size w w' := by
  cases hb : inB n m with
  | false =>
    have hg : parts n m s = (0, 0, 0, 0, 0, false) := by unfold parts geoOk; rw [hb]; rfl
    rw [hg]
    exact of_out n m s hb w
  | true =>
    by_cases hs : s ∈ pows
    · have ht : tot n m s = 16 + 8 * m + up8 n + up8 ((n + 63) / 64) + n * s / 8 := by
        have hp := pows_in hs
        have : n * s = 8 * (n * (s / 8)) := by
          have e : s = 8 * (s / 8) := by omega
          calc n * s = n * (8 * (s / 8)) := by rw [← e]
            _ = 8 * (n * (s / 8)) := by rw [Int.mul_left_comm]
        unfold tot
        rw [this]
        omega
      by_cases hl : tot n m s ≤ 4194304
      · have hg : parts n m s = (16, 16 + 8 * m, 16 + 8 * m + up8 n, 16 + 8 * m + up8 n + up8 ((n + 63) / 64), tot n m s, true) := by unfold parts geoOk; rw [hb, decide_eq_true hs, decide_eq_true hl]; rfl
        rw [hg, ht]
        exact of_yes n m s _ _ hb hs rfl rfl (by omega) w
      · have hg : parts n m s = (0, 0, 0, 0, 0, false) := by unfold parts geoOk; rw [hb, decide_eq_true hs, decide_eq_false hl]; rfl
        rw [hg]
        exact of_big n m s _ _ hb hs rfl rfl (by omega) w
    · have hg : parts n m s = (0, 0, 0, 0, 0, false) := by unfold parts geoOk; rw [decide_eq_false hs]; simp
      rw [hg]
      exact of_no n m s hb hs w

end Go.Proofs.Ytlokklfkiechdaa.Ko
