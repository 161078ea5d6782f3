/- Parts of the proof, one behind the other: Jg, Qg, Od, Ra, Qh, Rb, Ry, Vl. -/
import Derived.Test.YtgnagbbdnlmgeaaGreatG11
import Derived.Test.YtgnagbbdnlmgeaaGreatG04
import Derived.Test.YtgnagbbdnlmgeaaGreatG07
import Derived.Test.YtgnagbbdnlmgeaaGreatG02
import Derived.Deep.QuietTactic
import Derived.BigQuiet
import Derived.Deep.RegionWith

/- The laws' look at a bitmap (cantlelaw10.Same), of one word. -/
section
set_option linter.unusedVariables false
set_option linter.unusedSimpArgs false
set_option maxHeartbeats 2000000
set_option maxRecDepth 100000
namespace Go.Proofs.YtgnagbbdnlmgeaaGreat.Je
open Go Go.RowKit
open Go.Proofs.YtgnagbbdnlmgeaaGreat.Ob Go.Proofs.YtgnagbbdnlmgeaaGreat.Ba Go.Proofs.YtgnagbbdnlmgeaaGreat.Oc Go.Proofs.YtgnagbbdnlmgeaaGreat.Pk Go.Proofs.YtgnagbbdnlmgeaaGreat.R0 Go.Proofs.YtgnagbbdnlmgeaaGreat.Jd Go.Proofs.YtgnagbbdnlmgeaaGreat.Bm

theorem bwr_bits (x : Nat) : ∀ n, bwr (bitsOf x n) = x % 2 ^ n
  | 0 => by simp [bitsOf, bwr, Nat.mod_one]
  | n + 1 => by
    rw [bitsOf, bwr_snoc, bwr_bits x n, bitsOf_length, Nat.mod_pow_succ, Nat.testBit_eq_decide_div_mod_eq]
    have hm : x / 2 ^ n % 2 < 2 := Nat.mod_lt _ (by decide)
    by_cases h : x / 2 ^ n % 2 = 1
    · simp [h]
    · have h0 : x / 2 ^ n % 2 = 0 := by omega
      simp [h0]
theorem bget_bits (x n i : Nat) (hi : i < n) (hn : n ≤ 63) : bget [x] i = x.testBit i := by
  unfold bget
  rw [Nat.div_eq_of_lt (by omega), Nat.mod_eq_of_lt (by omega)]
  rfl

theorem lsame_ {W : World} {B b n x : Nat} {A : Option Addr} {c : Nat} (h : Bm W B b n [x] A c) (hx : x < 2 ^ n) (hn1 : 1 ≤ n) (hn : n ≤ 24) {D : Option Addr} (hD : RB W D (bitsOf x n)) (cd : Nat) :
    Calls Tryz.prog 31 #[.pointer (some ⟨b, 0, none⟩), .slice D n cd] W fun e w' => e = .returned (.bool true) ∧ Below W.heap.size W w' := by
  have HH : Hid (∀ i : Int, Calls Tryz.prog 94 #[.pointer (some ⟨b, 0, none⟩), .int .i64 i] W fun e w' => e = .returned (.bool (bhas n [x] i)) ∧ w' = W) := fun i => has_ h i
  have HD := Lib.hid hD
  have HL := Lib.hid (len_ h)
  have HC := Lib.hid (count_ h hx hn)
  have HF := Lib.hid (free_ h hx hn)
  have hx64 : x < 18446744073709551616 := Nat.lt_of_lt_of_le hx (show 2 ^ n ≤ 2 ^ 64 from Nat.pow_le_pow_right (by decide) (by omega))
  have HRC : Hid (∀ {W' : World}, Below W.heap.size W W' → Calls Tryz.prog 96 #[.slice D n cd] W' fun e w' => e = .returned (.int .i64 (cnt (bitsOf x n) : Nat)) ∧ w' = W') := fun {W'} hb => by
    have := rcount_ (hD.below hb) cd (by rw [bitsOf_length]; omega)
    rw [bitsOf_length] at this
    exact this
  have HWO : Hid (∀ {W' : World}, Below W.heap.size W W' → _) := fun {W'} hb => words_of (h.keep hb)
  have HRW : Hid (∀ {W' : World}, Below W.heap.size W W' → Calls Tryz.prog 99 #[.slice D n cd] W' fun e w' => ∃ v, e = .returned v ∧ w'.ownsRow W'.heap.size 94 1 v 1 (ivs .u64 (ints [x])) ∧ Below W'.heap.size W' w') := fun {W'} hb => by
    have := rwords1 (hD.below hb) cd (by rw [bitsOf_length]; omega) (by rw [bitsOf_length]; omega)
    rw [bitsOf_length, bwr_bits, Nat.mod_eq_of_lt hx] at this
    exact this
  have HSM : Hid (∀ {W' : World} {A1 A2 : Option Addr} (c1 c2 : Nat), Rk .u64 W' A1 (ints [x]) → Rk .u64 W' A2 (ints [x]) → Calls Tryz.prog 17 #[.slice A1 1 c1, .slice A2 1 c2] W' fun e w' => e = .returned (.bool true) ∧ ∃ q, w' = W'.drewN q) := fun {W'} {A1} {A2} c1 c2 h1 h2 => by
    have := Pm.same_words (w := W') (l := ints [x]) (m := ints [x]) (show Pm.Rd W' A1 (ints [x]) from h1) (show Pm.Rd W' A2 (ints [x]) from h2) c1 c2 (by rw [ints_length]; exact (by decide : (1 : Nat) ≤ 9223372036854775807)) (by rw [ints_length]; exact (by decide : (1 : Nat) ≤ 9223372036854775807))
    rw [decide_eq_true rfl] at this
    exact this
  have hcl := cnt_le (bitsOf x n)
  rw [bitsOf_length] at hcl
  have HBG : Hid (∀ i : Nat, i < n → bhas n [x] (i : Int) = x.testBit i ∧ (bitsOf x n)[i]? = some (x.testBit i)) := fun i hi => ⟨by
    unfold bhas
    rw [decide_eq_true (by omega : (0 : Int) ≤ i), decide_eq_true (by omega : (i : Int) < n)]
    exact bget_bits x n i hi (by omega), bitsOf_get x n i hi⟩
  have HB0 : Hid (∀ s : Int, ¬ (0 ≤ s ∧ s < n) → bhas n [x] s = false) := fun s hs => by
    unfold bhas
    by_cases h1 : 0 ≤ s
    · rw [decide_eq_false (by omega : ¬ s < (n : Int))]; simp
    · rw [decide_eq_false h1]; rfl
  generalize cnt (bitsOf x n) = r at *
  clear h hx hD hx64
  go_enter Tryz.func31, Tryz.ntmps31
  go_wp2_with fail
  go_loop [5] (fun c5 => ∃ s : Int, c5 = .int .i64 s ∧ -1 ≤ s ∧ s ≤ n + 1) (fun c5 => n + 2 - (intOf c5 + 1).toNat)
  case atStart => exact ⟨-1, rfl, by omega, by omega⟩
  case round =>
    obtain ⟨s, rfl, hs0, hs1⟩ := hrel
    by_cases hlt : s ≤ n
    · by_cases hin : 0 ≤ s ∧ s < n
      · obtain ⟨i, rfl⟩ : ∃ i : Nat, s = i := ⟨s.toNat, by omega⟩
        obtain ⟨hi0, hi1⟩ := hin
        have hi2 : i < n := by omega
        obtain ⟨q1, q2⟩ := HBG.out i hi2
        have HI := Lib.hid (HH.out (i : Int))
        rw [q1] at HI
        obtain ⟨a, rfl, -, ha⟩ := HD.out i _ q2
        generalize x.testBit i = tb at *
        have e1 : (tb != tb) = false := by cases tb <;> rfl
        clear q1 q2
        go_wp2_with (go_at_call 94; refine HI.out.mono ?_; rintro e w1 ⟨rfl, rfl⟩)
        go_round
        case rel => exact ⟨(i : Int) + 1, by go_num, by omega, by omega⟩
        case measure => simp [intOf]; omega
      · have HI := Lib.hid (HH.out s)
        rw [HB0.out s hin] at HI
        by_cases h0 : 0 ≤ s
        · obtain rfl : s = n := by omega
          clear hin
          go_wp2_with (go_at_call 94; refine HI.out.mono ?_; rintro e w1 ⟨rfl, rfl⟩)
          go_round
          case rel => exact ⟨(n : Int) + 1, by go_num, by omega, by omega⟩
          case measure => simp [intOf]; omega
        · obtain rfl : s = -1 := by omega
          clear hin
          go_wp2_with (go_at_call 94; refine HI.out.mono ?_; rintro e w1 ⟨rfl, rfl⟩)
          go_round
          case rel => exact ⟨0, by go_num, by omega, by omega⟩
          case measure => simp [intOf] <;> omega
    · obtain rfl : s = n + 1 := by omega
      clear hlt hs0 hs1
      go_wp2_with (first | (go_at_call 95; refine HL.out.mono ?_; rintro e w1 ⟨rfl, rfl⟩) |
        (go_at_call 55; refine HC.out.mono ?_; rintro e w1 ⟨rfl, rfl⟩) |
        (go_at_call 97; refine HF.out.mono ?_; rintro e w3 ⟨rfl, hb3⟩; (have HB3 := Lib.hid hb3); clear hb3) |
        (go_at_call 96; refine (HRC.out (by first | exact HB3.out | exact Below.refl _ _)).mono ?_; rintro e w2 ⟨rfl, rfl⟩) |
        (go_at_call 98; refine (HWO.out HB3.out).mono ?_; rintro e w4 ⟨v4, rfl, hown, hb4⟩; (obtain ⟨A4, c4, rfl⟩ := own_slice hown); (have HB4 := Lib.hid (bl_then HB3.out hb4)); (have HR4 := Lib.hid (own_rk (k := .u64) hown).1); clear hown hb4) |
        (go_at_call 99; refine (HRW.out HB4.out).mono ?_; rintro e w5 ⟨v5, rfl, hown, hb5⟩; (obtain ⟨A5, c5, rfl⟩ := own_slice hown); (have HB5 := Lib.hid (bl_then HB4.out hb5)); (have HR5 := Lib.hid (own_rk (k := .u64) hown).1); (have HR45 := Lib.hid (HR4.out.below hb5)); clear hown hb5) |
        (go_at_call 17; refine (HSM.out _ _ HR45.out HR5.out).mono ?_; rintro e w6 ⟨rfl, q, hq⟩; (have HQ := Lib.hid hq); clear hq))
      go_ret
      exact ⟨rfl, by rw [HQ.out]; exact bl_drewN HB5.out _⟩

theorem code_ (i n : Int) (w : World) : Calls Tryz.prog 24 #[.int .i64 i, .int .i64 n] w fun e w' => e = .returned (.int .i64 (if i < 0 ∨ n ≤ i then 9 else 2)) ∧ w' = w := by
  by_cases h0 : i < 0
  · rw [if_pos (.inl h0)]
    go_enter Tryz.func24, Tryz.ntmps24
    go_wp2_with fail
    go_ret
    exact ⟨rfl, rfl⟩
  · by_cases h1 : n ≤ i
    · rw [if_pos (.inr h1)]
      go_enter Tryz.func24, Tryz.ntmps24
      go_wp2_with fail
      go_ret
      exact ⟨rfl, rfl⟩
    · rw [if_neg (by omega)]
      go_enter Tryz.func24, Tryz.ntmps24
      go_wp2_with fail
      go_ret
      exact ⟨rfl, rfl⟩

end Go.Proofs.YtgnagbbdnlmgeaaGreat.Je
end

/- The document's volume: cantleref15.Of. -/
section
set_option linter.unusedVariables false
set_option linter.unusedSimpArgs false
set_option maxHeartbeats 2000000
set_option maxRecDepth 100000
namespace Go.Proofs.YtgnagbbdnlmgeaaGreat.Rf
open Go Go.RowKit
open Go.Proofs.YtgnagbbdnlmgeaaGreat.Ob Go.Proofs.YtgnagbbdnlmgeaaGreat.Ba Go.Proofs.YtgnagbbdnlmgeaaGreat.Ko Go.Proofs.YtgnagbbdnlmgeaaGreat.Ge Go.Proofs.YtgnagbbdnlmgeaaGreat.Oc Go.Proofs.YtgnagbbdnlmgeaaGreat.Pk Go.Proofs.YtgnagbbdnlmgeaaGreat.Su

/-- the document's volume, of a geometry, over a slice of words -/
def vcells (n m s : Int) (W : Value) : Array Value := #[.int .i64 n, .int .i64 m, .int .i64 s, .int .i64 16, .int .i64 (16 + 8 * m), .int .i64 (bmAt n m), .int .i64 (bkAt n m), .int .i64 (tot n m s), W]

theorem put9 {W : World} {k T : Nat} {x0 x1 x2 x3 x4 x5 x6 x7 x8 : Value} (h : W.heap[k]? = some (.cells #[x0, x1, x2, x3, x4, x5, x6, x7, x8] T (0, 0))) (y0 y1 y2 y3 y4 y5 y6 y7 y8 : Value) :
    (((((((((W.setCell ⟨k, 0, none⟩ y0).setCell ⟨k, 1, none⟩ y1).setCell ⟨k, 2, none⟩ y2).setCell ⟨k, 3, none⟩ y3).setCell ⟨k, 4, none⟩ y4).setCell ⟨k, 5, none⟩ y5).setCell ⟨k, 6, none⟩ y6).setCell ⟨k, 7, none⟩ y7).setCell ⟨k, 8, none⟩ y8).heap[k]? = some (.cells #[y0, y1, y2, y3, y4, y5, y6, y7, y8] T (0, 0)) := by
  have h0 : (W.setCell ⟨k, 0, none⟩ y0).heap[k]? = some (.cells #[y0, x1, x2, x3, x4, x5, x6, x7, x8] T (0, 0)) := set_same h 0 y0
  have h1 : ((W.setCell ⟨k, 0, none⟩ y0).setCell ⟨k, 1, none⟩ y1).heap[k]? = some (.cells #[y0, y1, x2, x3, x4, x5, x6, x7, x8] T (0, 0)) := set_same h0 1 y1
  have h2 : (((W.setCell ⟨k, 0, none⟩ y0).setCell ⟨k, 1, none⟩ y1).setCell ⟨k, 2, none⟩ y2).heap[k]? = some (.cells #[y0, y1, y2, x3, x4, x5, x6, x7, x8] T (0, 0)) := set_same h1 2 y2
  have h3 : ((((W.setCell ⟨k, 0, none⟩ y0).setCell ⟨k, 1, none⟩ y1).setCell ⟨k, 2, none⟩ y2).setCell ⟨k, 3, none⟩ y3).heap[k]? = some (.cells #[y0, y1, y2, y3, x4, x5, x6, x7, x8] T (0, 0)) := set_same h2 3 y3
  have h4 : (((((W.setCell ⟨k, 0, none⟩ y0).setCell ⟨k, 1, none⟩ y1).setCell ⟨k, 2, none⟩ y2).setCell ⟨k, 3, none⟩ y3).setCell ⟨k, 4, none⟩ y4).heap[k]? = some (.cells #[y0, y1, y2, y3, y4, x5, x6, x7, x8] T (0, 0)) := set_same h3 4 y4
  have h5 : ((((((W.setCell ⟨k, 0, none⟩ y0).setCell ⟨k, 1, none⟩ y1).setCell ⟨k, 2, none⟩ y2).setCell ⟨k, 3, none⟩ y3).setCell ⟨k, 4, none⟩ y4).setCell ⟨k, 5, none⟩ y5).heap[k]? = some (.cells #[y0, y1, y2, y3, y4, y5, x6, x7, x8] T (0, 0)) := set_same h4 5 y5
  have h6 : (((((((W.setCell ⟨k, 0, none⟩ y0).setCell ⟨k, 1, none⟩ y1).setCell ⟨k, 2, none⟩ y2).setCell ⟨k, 3, none⟩ y3).setCell ⟨k, 4, none⟩ y4).setCell ⟨k, 5, none⟩ y5).setCell ⟨k, 6, none⟩ y6).heap[k]? = some (.cells #[y0, y1, y2, y3, y4, y5, y6, x7, x8] T (0, 0)) := set_same h5 6 y6
  have h7 : ((((((((W.setCell ⟨k, 0, none⟩ y0).setCell ⟨k, 1, none⟩ y1).setCell ⟨k, 2, none⟩ y2).setCell ⟨k, 3, none⟩ y3).setCell ⟨k, 4, none⟩ y4).setCell ⟨k, 5, none⟩ y5).setCell ⟨k, 6, none⟩ y6).setCell ⟨k, 7, none⟩ y7).heap[k]? = some (.cells #[y0, y1, y2, y3, y4, y5, y6, y7, x8] T (0, 0)) := set_same h6 7 y7
  have h8 : (((((((((W.setCell ⟨k, 0, none⟩ y0).setCell ⟨k, 1, none⟩ y1).setCell ⟨k, 2, none⟩ y2).setCell ⟨k, 3, none⟩ y3).setCell ⟨k, 4, none⟩ y4).setCell ⟨k, 5, none⟩ y5).setCell ⟨k, 6, none⟩ y6).setCell ⟨k, 7, none⟩ y7).setCell ⟨k, 8, none⟩ y8).heap[k]? = some (.cells #[y0, y1, y2, y3, y4, y5, y6, y7, y8] T (0, 0)) := set_same h7 8 y8
  exact h8

theorem bl_put9 {w W : World} {k : Nat} (h : Below w.heap.size w W) (hk : w.heap.size ≤ k) (y0 y1 y2 y3 y4 y5 y6 y7 y8 : Value) :
    Below w.heap.size w (((((((((W.setCell ⟨k, 0, none⟩ y0).setCell ⟨k, 1, none⟩ y1).setCell ⟨k, 2, none⟩ y2).setCell ⟨k, 3, none⟩ y3).setCell ⟨k, 4, none⟩ y4).setCell ⟨k, 5, none⟩ y5).setCell ⟨k, 6, none⟩ y6).setCell ⟨k, 7, none⟩ y7).setCell ⟨k, 8, none⟩ y8) :=
  bl_set (bl_set (bl_set (bl_set (bl_set (bl_set (bl_set (bl_set (bl_set h hk _) hk _) hk _) hk _) hk _) hk _) hk _) hk _) hk _


theorem of15_ (n m s : Int) (h : geoOk n m s = true) (A : Option Addr) (len c : Nat) (w : World) :
    Calls Tryz.prog 123 #[.int .i64 n, .int .i64 m, .int .i64 s, .slice A len c] w fun e w' => e = .returned (.agg (vcells n m s (.slice A len c))) ∧ Below w.heap.size w w' := by
  have hu := Tryz.underlying30
  have hof := of_any n m s
  have hp : parts n m s = (16, 16 + 8 * m, bmAt n m, bkAt n m, tot n m s, true) := by unfold parts; rw [h]; rfl
  rw [hp] at hof
  have HOF := Lib.hid hof
  have HV : Hid (vcells n m s (.slice A len c) = #[.int .i64 n, .int .i64 m, .int .i64 s, .int .i64 16, .int .i64 (16 + 8 * m), .int .i64 (bmAt n m), .int .i64 (bkAt n m), .int .i64 (tot n m s), .slice A len c]) := rfl
  generalize bmAt n m = p3 at *
  generalize bkAt n m = p4 at *
  generalize tot n m s = p5 at *
  generalize 16 + 8 * m = p2 at *
  clear h hof hp
  go_enter Tryz.func123, Tryz.ntmps123
  go_wp2_with (go_at_call 160; refine (HOF.out _).mono ?_; rintro e w1 ⟨rfl, hb⟩; (have hq := blk_bl (alloc_new w (.cells #[.int .i64 0, .int .i64 0, .int .i64 0, .int .i64 0, .int .i64 0, .int .i64 0, .int .i64 0, .int .i64 0, .slice none 0 0] 30)) hb); (have HQ := Lib.hid hq); (have HB := Lib.hid (bl_then (bl_alloc (Below.refl _ _) _) hb)); (have hsz := hb.size); (have hz1 : w.heap.size < w1.heap.size := by (simp only [World.size_alloc] at hsz; omega)); (have l0 := cell_of hq 0); (have l1 := cell_of hq 1); (have l2 := cell_of hq 2); (have l3 := cell_of hq 3); (have l4 := cell_of hq 4); (have l5 := cell_of hq 5); (have l6 := cell_of hq 6); (have l7 := cell_of hq 7); (have l8 := cell_of hq 8); (have f0 := free_of hq 0); (have f1 := free_of hq 1); (have f2 := free_of hq 2); (have f3 := free_of hq 3); (have f4 := free_of hq 4); (have f5 := free_of hq 5); (have f6 := free_of hq 6); (have f7 := free_of hq 7); (have f8 := free_of hq 8); clear hb hq hsz)
  have hp9 := put9 HQ.out (.int .i64 n) (.int .i64 m) (.int .i64 s) (.int .i64 16) (.int .i64 p2) (.int .i64 p3) (.int .i64 p4) (.int .i64 p5) (.slice A len c)
  have hb9 := bl_put9 HB.out (Nat.le_refl _) (.int .i64 n) (.int .i64 m) (.int .i64 s) (.int .i64 16) (.int .i64 p2) (.int .i64 p3) (.int .i64 p4) (.int .i64 p5) (.slice A len c)
  rw [HV.out]
  refine bodyPost_ret (res_c rfl _ _ w.heap.size 30 _ (0, 0) _ rfl (alloc_old hp9 _) hu rfl ?_) rfl ⟨rfl, bl_alloc hb9 _⟩
  kernel_rfl

end Go.Proofs.YtgnagbbdnlmgeaaGreat.Rf
end

/- pm.Of: a device of given words. -/
section
set_option linter.unusedVariables false
set_option linter.unusedSimpArgs false
set_option maxHeartbeats 2000000
set_option maxRecDepth 100000
namespace Go.Proofs.YtgnagbbdnlmgeaaGreat.Pm
open Go Go.RowKit
open Go.Proofs.YtgnagbbdnlmgeaaGreat.Ob Go.Proofs.YtgnagbbdnlmgeaaGreat.Mp Go.Proofs.YtgnagbbdnlmgeaaGreat.Dv Go.Proofs.YtgnagbbdnlmgeaaGreat.Wl Go.Proofs.YtgnagbbdnlmgeaaGreat.Ba

def devOf (l : List Int) : Dev := ⟨0, 0, l, [], none⟩
theorem devOf_wf (l : List Int) (h : l.length ≤ 4194304) : (devOf l).Wf :=
  ⟨h, by simp [devOf], by simp [devOf], by simp [devOf], by simp [devOf], by simp [devOf], by simp [devOf], by simp [devOf], by simp [devOf], by simp [devOf]⟩

theorem of_dev {B : Nat} {W : World} {l : List Int} {A : Option Addr} {c : Nat} (hB : B ≤ W.heap.size) (h : W.ownsRow B 94 1 (.slice A l.length c) l.length (u64s l)) (hl : l.length ≤ 4194304) :
    ∃ g, DevIs ((W.alloc (.map #[] 0)).alloc (.cells #[.int .i64 0, .int .i64 0, .slice A l.length c, .map (some W.heap.size), .bool false, .int .i64 0] 146 (0, 0))) (W.heap.size + 1) (devOf l) g ∧ (∀ k ∈ g.foot (W.heap.size + 1), B ≤ k) := by
  obtain ⟨A', c', qs, hv, hsl, hqs⟩ := Sl.of_own h
  simp only [Value.slice.injEq, true_and] at hv
  obtain ⟨rfl, rfl⟩ := hv
  have hlt : ∀ q ∈ qs, q < W.heap.size := by
    obtain ⟨_, ⟨_, rfl⟩ | ⟨q', o', cs', _, rfl, hb', _⟩⟩ := hsl
    · simp
    · intro q hq
      simp at hq
      subst hq
      exact lt_of hb'
  have hnd : qs.Nodup := by
    obtain ⟨_, ⟨_, rfl⟩ | ⟨q', o', cs', _, rfl, hb', _⟩⟩ := hsl <;> simp
  have b2 := alloc_new (W.alloc (.map #[] 0)) (.cells #[.int .i64 0, .int .i64 0, .slice A l.length c, .map (some W.heap.size), .bool false, .int .i64 0] 146 (0, 0))
  simp only [World.size_alloc] at b2
  refine ⟨⟨A, c, qs, W.heap.size, 0, []⟩, ⟨b2, hsl.keep (fun q hq => ?_), alloc_old (alloc_new W _) _, by simp, rfl, ?_, by simp, by simp, devOf_wf l hl⟩, ?_⟩
  · have := hlt q hq
    rw [Below.heap_alloc _ _ q (by simp; omega), Below.heap_alloc _ _ q this]
  · simp only [Lay.foot, Lay.ents, List.flatMap_nil, List.append_nil, List.nodup_cons, List.mem_cons, not_or]
    refine ⟨⟨by omega, fun hq => ?_⟩, fun hq => ?_, hnd⟩
    · have := hlt _ hq; omega
    · have := hlt _ hq; omega
  · intro k hk
    simp only [Lay.foot, Lay.ents, List.flatMap_nil, List.append_nil, List.mem_cons] at hk
    rcases hk with rfl | rfl | hk
    · omega
    · exact hB
    · exact hqs k hk

theorem of_any {w : World} {a : Addr} {l : List Int} (h : Rd w (some a) l) (c : Nat) (hc : l.length ≤ c) (hl : l.length ≤ 4194304) :
    Calls Tryz.prog 124 #[.slice (some a) l.length c] w fun e w' => ∃ v, e = .returned v ∧ DevNew w w' v (devOf l) := by
  have HCL := Lib.hid (clone_any h c hl (by simp))
  have HL := Lib.hid hl
  obtain ⟨n, hn⟩ : ∃ n, n = l.length := ⟨_, rfl⟩
  rw [← hn]
  rw [← hn] at hc hl HCL
  have HN := Lib.hid hn
  have hmin : min (n : Int) 4194304 = n := by omega
  have hc1 : ¬ ((c : Int) < n) := by omega
  have hmm := @run_makeMap Tryz.prog
  clear h hn
  go_enter Tryz.func124, Tryz.ntmps124
  go_wp2_with fail
  refine HCL.out.mono ?_
  rintro e w2 ⟨v2, rfl, hown, hb⟩
  have HO := Lib.hid hown
  have HB := Lib.hid hb
  obtain ⟨A2, c2, rfl⟩ := own_slice hown
  clear hown hb HCL
  go_wp2_with fail
  go_ret
  have ho := HO.out
  rw [HN.out] at ho
  obtain ⟨g, h1, h2⟩ := of_dev HB.out.size ho HL.out
  rw [← HN.out] at h1
  exact ⟨_, rfl, _, g, rfl, h1, h2, bl_alloc (bl_alloc HB.out _) _⟩

end Go.Proofs.YtgnagbbdnlmgeaaGreat.Pm
end

/- The laws' raw images: their geometry. -/
section
set_option linter.unusedVariables false
set_option linter.unusedSimpArgs false
set_option maxHeartbeats 2000000
set_option maxRecDepth 100000
namespace Go.Proofs.YtgnagbbdnlmgeaaGreat.Ra
open Go Go.RowKit
open Go.Proofs.YtgnagbbdnlmgeaaGreat.Ob Go.Proofs.YtgnagbbdnlmgeaaGreat.Ba Go.Proofs.YtgnagbbdnlmgeaaGreat.Ko Go.Proofs.YtgnagbbdnlmgeaaGreat.Ge Go.Proofs.YtgnagbbdnlmgeaaGreat.Oc Go.Proofs.YtgnagbbdnlmgeaaGreat.Pk Go.Proofs.YtgnagbbdnlmgeaaGreat.Su Go.Proofs.YtgnagbbdnlmgeaaGreat.Rf

def gB (r : Nat) : Nat := 1 + r % 20
def gS (r : Nat) : Nat := if r % 2 = 0 then 64 else 128
theorem gS_or (r : Nat) : gS r = 64 ∨ gS r = 128 := by unfold gS; split <;> simp
theorem gB_in (r : Nat) : 1 ≤ gB r ∧ gB r ≤ 20 := by unfold gB; omega
theorem g_ok (a b c : Nat) : geoOk (gB a) (gB b) (gS c) = true := by
  obtain ⟨h1, h2⟩ := gB_in a
  obtain ⟨h3, h4⟩ := gB_in b
  generalize gB a = n at *
  generalize gB b = m at *
  rcases gS_or c with h | h
  all_goals
    rw [h]
    simp only [geoOk, inB, Bool.and_eq_true, decide_eq_true_eq]
    refine ⟨⟨⟨⟨⟨by omega, by omega⟩, by omega⟩, by omega⟩, by decide⟩, ?_⟩
    unfold tot up8
    omega
theorem g_tot (a b c : Nat) : 40 ≤ tot (gB a) (gB b) (gS c) ∧ tot (gB a) (gB b) (gS c) ≤ 1000 := by
  obtain ⟨h1, h2⟩ := gB_in a
  obtain ⟨h3, h4⟩ := gB_in b
  generalize gB a = n at *
  generalize gB b = m at *
  rcases gS_or c with h | h
  all_goals
    rw [h]
    unfold tot up8
    omega

theorem geometry_ (r0 r1 r2 : Nat) (h0 : r0 < 256) (h1 : r1 < 256) (h2 : r2 < 256) (A : Option Addr) (len c : Nat) (w : World) :
    Calls Tryz.prog 15 #[.agg #[.int .u8 r0, .int .u8 r1, .int .u8 r2, .slice A len c]] w fun e w' => e = .returned (.agg #[.int .i64 (gB r0), .int .i64 (gB r1), .int .i64 (gS r2)]) ∧ Below w.heap.size w w' := by
  have hu := Tryz.underlying34
  have hur := Tryz.underlying24
  have q0 : 1 + (r0 : Int) % 20 = (gB r0 : Nat) := by unfold gB; omega
  have q1 : 1 + (r1 : Int) % 20 = (gB r1 : Nat) := by unfold gB; omega
  have Q := Lib.hid (And.intro q0 q1)
  clear q0 q1
  obtain ⟨q, hq⟩ : ∃ q, q = r2 % 2 := ⟨_, rfl⟩
  have hq1 : (r2 : Int) % 2 = (q : Int) := by omega
  have hS : Hid (gS r2 = if q = 0 then 64 else 128) := by rw [hq]; rfl
  rcases (by omega : q = 0 ∨ q = 1) with rfl | rfl
  all_goals
    clear hq
    go_enter Tryz.func15, Tryz.ntmps15
    go_wp2_with fail
    rw [Q.out.1, Q.out.2]
    have hal := alloc_new (w.alloc (.cells #[.int .u8 r0, .int .u8 r1, .int .u8 r2, .slice A len c] 24)) (.cells #[.int .i64 (gB r0 : Nat), .int .i64 (gB r1 : Nat), .int .i64 (gS r2 : Nat)] 34)
    rw [World.size_alloc] at hal
    have hs := hS.out
    simp at hs
    rw [hs] at hal ⊢
    refine bodyPost_ret (res_c rfl _ _ (w.heap.size + 1) 34 _ (0, 0) _ rfl hal hu rfl ?_) rfl ⟨rfl, bl_alloc (bl_alloc (Below.refl _ _) _) _⟩
    kernel_rfl

end Go.Proofs.YtgnagbbdnlmgeaaGreat.Ra
end

/- The document's volume written: cantleref15.Put. -/
section
set_option linter.unusedVariables false
set_option linter.unusedSimpArgs false
set_option maxHeartbeats 2000000
set_option maxRecDepth 100000
namespace Go.Proofs.YtgnagbbdnlmgeaaGreat.Rf
open Go Go.RowKit
open Go.Proofs.YtgnagbbdnlmgeaaGreat.Ob Go.Proofs.YtgnagbbdnlmgeaaGreat.Ba Go.Proofs.YtgnagbbdnlmgeaaGreat.Oc Go.Proofs.YtgnagbbdnlmgeaaGreat.Pk

/-- words written from one on -/
def wput (l : List Int) (a : Nat) : List Int → List Int
  | [] => l
  | x :: r => wput (l.set a x) (a + 1) r
def nline (a : Nat) : Nat → Nat
  | 0 => 0
  | i + 1 => nline a i + (if i = 0 ∨ (a + i) % 8 = 0 then 1 else 0)
theorem wput_snoc (l : List Int) (a : Nat) (xs : List Int) (x : Int) : wput l a (xs ++ [x]) = (wput l a xs).set (a + xs.length) x := by
  induction xs generalizing l a with
  | nil => rfl
  | cons y r ih =>
    show wput (l.set a y) (a + 1) (r ++ [x]) = _
    rw [ih]
    show _ = (wput (l.set a y) (a + 1) r).set _ x
    rw [show a + 1 + r.length = a + (y :: r).length from by simp; omega]
theorem wput_length (l : List Int) (a : Nat) (xs : List Int) : (wput l a xs).length = l.length := by
  induction xs generalizing l a with
  | nil => rfl
  | cons y r ih => show (wput (l.set a y) (a + 1) r).length = _; rw [ih, List.length_set]
theorem nline_le (a : Nat) : ∀ i, nline a i ≤ i
  | 0 => Nat.le_refl _
  | i + 1 => by have := nline_le a i; show nline a i + _ ≤ _; split <;> omega
theorem ivs_set (k : IntKind) (l : List Int) (i : Nat) (x : Int) : ivs k (l.set i x) = (ivs k l).set i (.int k x) := by simp [ivs, List.map_set]

def vint (y : List Int) : List Value := y.map (.int .i64)

theorem own_low {W : World} {B T s n : Nat} {v : Value} {xs : List Value} (h : W.ownsRow B T s v n xs) {q : Nat} (hq : q < B) (o : Nat) (u : Value) : (W.setCell ⟨q, o, none⟩ u).ownsRow B T s v n xs :=
  own_kp h (fun k hk _ => Below.heap_setCell _ _ _ k (by show k ≠ q; omega))
theorem own_low9 {W : World} {B T s n : Nat} {v : Value} {xs : List Value} (h : W.ownsRow B T s v n xs) {q : Nat} (hq : q < B) (u0 u1 u2 u3 u4 u5 u6 u7 u8 : Value) : (((((((((W.setCell ⟨q, 0, none⟩ u0).setCell ⟨q, 1, none⟩ u1).setCell ⟨q, 2, none⟩ u2).setCell ⟨q, 3, none⟩ u3).setCell ⟨q, 4, none⟩ u4).setCell ⟨q, 5, none⟩ u5).setCell ⟨q, 6, none⟩ u6).setCell ⟨q, 7, none⟩ u7).setCell ⟨q, 8, none⟩ u8).ownsRow B T s v n xs :=
  own_low (own_low (own_low (own_low (own_low (own_low (own_low (own_low (own_low h hq _ _) hq _ _) hq _ _) hq _ _) hq _ _) hq _ _) hq _ _) hq _ _) hq _ _

end Go.Proofs.YtgnagbbdnlmgeaaGreat.Rf
end

/- The laws' raw images: a device of their words. -/
section
set_option linter.unusedVariables false
set_option linter.unusedSimpArgs false
set_option maxHeartbeats 2000000
set_option maxRecDepth 100000
namespace Go.Proofs.YtgnagbbdnlmgeaaGreat.Ra
open Go Go.RowKit
open Go.Proofs.YtgnagbbdnlmgeaaGreat.Ob Go.Proofs.YtgnagbbdnlmgeaaGreat.Ba Go.Proofs.YtgnagbbdnlmgeaaGreat.Ko Go.Proofs.YtgnagbbdnlmgeaaGreat.Ge Go.Proofs.YtgnagbbdnlmgeaaGreat.Oc Go.Proofs.YtgnagbbdnlmgeaaGreat.Pk Go.Proofs.YtgnagbbdnlmgeaaGreat.Su Go.Proofs.YtgnagbbdnlmgeaaGreat.Rf Go.Proofs.YtgnagbbdnlmgeaaGreat.Dv

def rwd (l : List Int) (i : Nat) : Int := if l.length = 0 then 0 else l.getD (i % l.length) 0
def dws (h l : List Int) (T : Nat) : List Int := h ++ (List.range (T - 8)).map fun j => rwd l (8 + j)
theorem dws_length (h l : List Int) (T : Nat) (hh : h.length = 8) (hT : 8 ≤ T) : (dws h l T).length = T := by simp [dws, hh]; omega
theorem dws_at (h l : List Int) (T i : Nat) (hh : h.length = 8) (hi : 8 ≤ i) (hT : i < T) : (dws h l T)[i]? = some (rwd l i) := by
  unfold dws
  rw [List.getElem?_append_right (by omega), hh, List.getElem?_map, List.getElem?_range (by omega)]
  show some (rwd l (8 + (i - 8))) = _
  rw [show 8 + (i - 8) = i from by omega]
theorem dws_take8 (h l : List Int) (T : Nat) (hh : h.length = 8) : (dws h l T).take 8 = h := by
  unfold dws
  rw [← hh, List.take_left]

theorem res_tc {P : Program} {fn : Func} {p u : Tmp} {ty : TypeId} (h : fn.results = #[.tmp u, .cell p ty]) (tmps : Array Value) (w : World) (g : Nat) (t : TypeId) (cs : Array Value) (fr : Nat × Nat) (d : TypeDesc)
    (hp : tmps.getD p undef = .pointer (some ⟨g, 0, none⟩)) (hg : w.heap[g]? = some (.cells cs t fr))
    (hu : P.underlying ty = some d) (hd : (match d with | .struct _ | .array _ _ => true | _ => false) = true) (hi : (P.info? ty).map (·.size) = some cs.size) :
    (results fn tmps).run P w = .ok (.tuple #[tmps.getD u undef, .agg cs]) w := by
  have hp' : tmps[p]?.getD undef = .pointer (some ⟨g, 0, none⟩) := by simpa using hp
  simp [results, h, hp', asAddr, run_loadVar_row w g t ty cs fr d hg hu hd hi]
theorem put9_other {W : World} {q k : Nat} (h : k ≠ q) {u0 u1 u2 u3 u4 u5 u6 u7 u8 : Value} :
    (((((((((W.setCell ⟨q, 0, none⟩ u0).setCell ⟨q, 1, none⟩ u1).setCell ⟨q, 2, none⟩ u2).setCell ⟨q, 3, none⟩ u3).setCell ⟨q, 4, none⟩ u4).setCell ⟨q, 5, none⟩ u5).setCell ⟨q, 6, none⟩ u6).setCell ⟨q, 7, none⟩ u7).setCell ⟨q, 8, none⟩ u8).heap[k]? = W.heap[k]? := by
  have h1 : ∀ (V : World) (o : Nat) (u : Value), (V.setCell ⟨q, o, none⟩ u).heap[k]? = V.heap[k]? := fun V o u => Below.heap_setCell _ _ _ k h
  rw [h1, h1, h1, h1, h1, h1, h1, h1, h1]

theorem device_ (r0 r1 r2 : Nat) (h0 : r0 < 256) (h1 : r1 < 256) (h2 : r2 < 256) {A : Option Addr} {l : List Int} (c : Nat) {w : World} (h : Rk .u64 w A l) (hl9 : l.length ≤ 9223372036854775807) (n m s T : Nat) (hn : n = gB r0) (hm : m = gB r1) (hs : s = gS r2) (hT : (T : Int) = tot n m s) :
    Calls Tryz.prog 68 #[.agg #[.int .u8 r0, .int .u8 r1, .int .u8 r2, .slice A l.length c]] w fun e w' => ∃ b g v, e = .returned (.tuple #[.pointer (some ⟨b, 0, none⟩), .agg (vcells n m s v)]) ∧
      DevIs w' b (Pm.devOf (dws (ints (enc n m s)) l T)) g ∧ (∀ k ∈ g.foot b, w.heap.size ≤ k) ∧ w'.ownsRow w.heap.size 94 1 v T (ivs .u64 (dws (ints (enc n m s)) l T)) ∧ (∀ k, v.ownBlock = some k → k ∉ g.foot b) ∧ Below w.heap.size w w' := by
  have hu := Tryz.underlying30
  have hok : geoOk n m s = true := by rw [hn, hm, hs]; exact g_ok r0 r1 r2
  have htt := g_tot r0 r1 r2
  rw [← hn, ← hm, ← hs, ← hT] at htt
  have hgeo := geometry_ r0 r1 r2 h0 h1 h2 A l.length c
  rw [← hn, ← hm, ← hs] at hgeo
  have hn9 : n < 65536 := by have := gB_in r0; omega
  have hm9 : m < 65536 := by have := gB_in r1; omega
  have hs9 : s < 65536 := by have := gS_or r2; omega
  have HGEO := Lib.hid hgeo
  have HENC := Lib.hid (Su.rencode_yes n m s hok hn9 hm9 hs9)
  have HOF := Lib.hid (of15_ n m s hok none 0 0)
  have HV : Hid (∀ v, vcells n m s v = #[.int .i64 n, .int .i64 m, .int .i64 s, .int .i64 16, .int .i64 (16 + 8 * m), .int .i64 (bmAt n m), .int .i64 (bkAt n m), .int .i64 (tot n m s), v]) := fun _ => rfl
  rw [← hT] at HV
  have HH8 : Hid ((ints (enc n m s)).length = 8) := rfl
  have H := Lib.hid h
  have hv0 : vcells n m s (.slice none 0 0) = _ := HV.out _
  rw [hv0] at HOF
  generalize vcells n m s = vc at *
  generalize ints (enc n m s) = hd at *
  obtain ⟨len, hlen⟩ : ∃ len, len = l.length := ⟨_, rfl⟩
  rw [← hlen] at HGEO
  rw [← hlen]
  have HLEN := Lib.hid hlen
  have hlen9 : len ≤ 9223372036854775807 := by omega
  obtain ⟨i0, hinf, hz0, hz1, hz2⟩ := info_parts info_u64
  clear h hl9 hn hm hs hT hok hgeo hlen h0 h1 h2 hv0
  generalize bmAt n m = p3 at *
  generalize bkAt n m = p4 at *
  generalize (16 + 8 * m : Int) = p2 at *
  go_enter Tryz.func68, Tryz.ntmps68
  go_wp2_with fail
  refine (HGEO.out _).mono ?_
  rintro e w1 ⟨rfl, hb1⟩
  have hqr := blk_bl (alloc_old (alloc_new w (.cells #[.int .u8 r0, .int .u8 r1, .int .u8 r2, .slice A len c] 24)) (.cells #[.int .i64 0, .int .i64 0, .int .i64 0, .int .i64 0, .int .i64 0, .int .i64 0, .int .i64 0, .int .i64 0, .slice none 0 0] 30)) hb1
  have hqz := alloc_new (w.alloc (.cells #[.int .u8 r0, .int .u8 r1, .int .u8 r2, .slice A len c] 24)) (.cells #[.int .i64 0, .int .i64 0, .int .i64 0, .int .i64 0, .int .i64 0, .int .i64 0, .int .i64 0, .int .i64 0, .slice none 0 0] 30)
  rw [World.size_alloc] at hqz
  have HR1 := Lib.hid hqr
  have HZ1 := Lib.hid (blk_bl hqz hb1)
  have HB1 := Lib.hid (bl_then (bl_alloc (bl_alloc (Below.refl _ _) _) _) hb1)
  have hs1 := hb1.size
  simp only [World.size_alloc] at hs1
  have HS1 : Hid (w.heap.size + 2 ≤ w1.heap.size) := hs1
  clear hqr hqz hb1 hs1
  go_wp2_with fail
  refine (HENC.out _).mono ?_
  rintro e w2 ⟨v5, rfl, hown5, hb2⟩
  have hq4 := blk_bl (alloc_new w1 (.cells #[.int .i64 n, .int .i64 m, .int .i64 s] 34)) hb2
  have c40 := cell_of hq4 0
  have c41 := cell_of hq4 1
  have c42 := cell_of hq4 2
  have HB2 := Lib.hid (bl_then (bl_alloc (Below.refl _ _) _) hb2)
  have HBG := Lib.hid hb2
  obtain ⟨A5, c5, rfl⟩ := own_slice hown5
  have HO5 := Lib.hid hown5
  clear hown5 hb2 hq4
  go_wp2_with fail
  refine (HOF.out _).mono ?_
  rintro e w3 ⟨rfl, hb3⟩
  have HB3 := Lib.hid hb3
  clear hb3
  have hrk5 := (own_rk HO5.out).1
  obtain ⟨y5, hy5⟩ := some_at (l := hd) (i := 0) (by rw [HH8.out]; decide)
  obtain ⟨q5, rfl, -, -⟩ := own_at HO5.out hy5
  clear hy5
  obtain ⟨wA, hwA⟩ : ∃ wA, wA = w3.alloc (.cells #[.int .i64 n, .int .i64 m, .int .i64 s, .int .i64 16, .int .i64 p2, .int .i64 p3, .int .i64 p4, .int .i64 T, .slice none 0 0] 30) := ⟨_, rfl⟩
  obtain ⟨wB, hwB⟩ : ∃ wB, wB = (w3.alloc (.cells #[.int .i64 n, .int .i64 m, .int .i64 s, .int .i64 16, .int .i64 p2, .int .i64 p3, .int .i64 p4, .int .i64 T, .slice none 0 0] 30)).alloc (.cells #[] 94) := ⟨_, rfl⟩
  have HSA : Hid (wA.heap.size = w3.heap.size + 1) := by rw [hwA]; show _ = _; simp
  have HSB : Hid (wB.heap.size = w3.heap.size + 2) := by rw [hwB]; show _ = _; simp
  have HQ7 : Hid (wA.heap[w3.heap.size]? = some (.cells #[.int .i64 n, .int .i64 m, .int .i64 s, .int .i64 16, .int .i64 p2, .int .i64 p3, .int .i64 p4, .int .i64 T, .slice none 0 0] 30 (0, 0))) := by rw [hwA]; exact alloc_new _ _
  have HAB : Hid (Below wA.heap.size wA wB) := by rw [hwB, ← hwA]; exact bl_alloc (Below.refl _ _) _
  have HE : Hid (wB.ownsRow wA.heap.size 94 1 (.slice (some ⟨w3.heap.size + 1, 0, none⟩) 0 0) 0 []) := by
    have := alloc_new wA (.cells #[] 94)
    rw [HSA.out] at this
    rw [hwB, ← hwA]
    exact own_nil _ _ _ _ (by rw [HSA.out]; exact Nat.le_refl _) this 1
  have HWB := Lib.hid hwB
  have h1A : Below w1.heap.size w1 wA := by rw [hwA]; exact bl_alloc (bl_then HB2.out HB3.out) _
  have HWA1 := Lib.hid (bl_then HB1.out h1A)
  have HR : Hid (wA.heap[w.heap.size]? = some (.cells #[.int .u8 r0, .int .u8 r1, .int .u8 r2, .slice A len c] 24 (0, 0))) := blk_bl HR1.out h1A
  have HZ : Hid (wA.heap[w.heap.size + 1]? = some (.cells #[.int .i64 0, .int .i64 0, .int .i64 0, .int .i64 0, .int .i64 0, .int .i64 0, .int .i64 0, .int .i64 0, .slice none 0 0] 30 (0, 0))) := blk_bl HZ1.out h1A
  have HL5 : Hid (Rk .u64 wB (some ⟨q5, 0, none⟩) hd) := (hrk5.below (by
    have : Below w2.heap.size w2 wA := by rw [hwA]; exact bl_alloc HB3.out _
    exact bl_then this HAB.out))
  have HA := Lib.hid (H.out.below HWA1.out)
  have HS3 : Hid (w.heap.size + 3 ≤ wA.heap.size) := by
    have h5 := HB2.out.size
    have h6 := HB3.out.size
    have h7 := HS1.out
    have h8 := HSA.out
    show _ ≤ _
    have h9 : w1.heap.size + 1 ≤ w2.heap.size := by
      have := lt_of (blk_bl (W' := w2) (alloc_new w1 (.cells #[.int .i64 n, .int .i64 m, .int .i64 s] 34)) HBG.out)
      omega
    omega
  clear hwA hwB h1A hrk5 HO5 HB1 HB2 HB3 HR1 HZ1 HGEO HENC HOF c40 c41 c42
  go_wp2_with (rw [← HWB.out]; at_builtin; refine wpList_append_own _ rfl (.tmp 30) (.tmp 31) 22 rfl wA.heap.size 94 i0 (.int .u64 0) 1 8 Tryz.underlying22 hinf hz0 hz1 hz2 rfl (by decide) _ 0 [] rfl HE.out ⟨q5, 0, none⟩ 8 c5 (ivs .u64 hd) rfl (by rw [ivs_length, HH8.out]) (by intro j u hj; simp only [ivs, List.getElem?_map, Option.map_eq_some_iff] at hj; obtain ⟨z, hz, rfl⟩ := hj; exact HL5.out.at_ hz) (ivs_oneCell _ _) (by unfold maxLen; omega) (by omega) (by rw [HSA.out, HSB.out]; omega) ?_; intro v8 w4 hown hgrow _; (have HO : Hid (w4.ownsRow wA.heap.size 94 1 v8 8 (ivs .u64 hd)) := hown); (have HG : Hid (wB.grownBy w4 (some (w3.heap.size + 1))) := hgrow); clear hown hgrow)
  have hI : w4.ownsRow wA.heap.size 94 1 v8 8 (ivs .u64 ((dws hd l T).take 8)) ∧ Below wA.heap.size wA w4 := by
    refine ⟨by rw [dws_take8 hd l T HH8.out]; exact HO.out, bl_grown HAB.out HG.out (fun b hb => by simp at hb; rw [← hb, HSA.out]; exact Nat.le_refl _)⟩
  have HI := Lib.hid hI
  have HL2 : Hid (∀ i, 8 ≤ i → i < T → (dws hd l T)[i]? = some (rwd l i)) := fun i hi hT => dws_at hd l T i HH8.out hi hT
  have HLT : Hid ((dws hd l T).length = T) := dws_length hd l T HH8.out (by omega)
  generalize hLL : dws hd l T = L at *
  have HLL := Lib.hid hLL
  clear hLL
  have hT9 : T ≤ 1000 := by omega
  have hT8 : 8 ≤ T := by omega
  clear hI HO HG HE HL5 HAB HSB HWB htt
  go_loopw [8, 9] (fun c8 c9 wr => ∃ i : Nat, 8 ≤ i ∧ i ≤ T ∧ c9 = .int .i64 i ∧ Hid (wr.ownsRow wA.heap.size 94 1 c8 i (ivs .u64 (L.take i)) ∧ Below wA.heap.size wA wr)) (fun _ c9 _ => T - (intOf c9).toNat)
  case atStart => exact ⟨8, Nat.le_refl _, hT8, rfl, HI.out⟩
  case round =>
    obtain ⟨i, hi8, hiT, rfl, HJ⟩ := hrel
    have HBW := Lib.hid HJ.out.2
    have hq7 := blk_bl HQ7.out HBW.out
    have c7 := cell_of hq7 7
    have hqr := blk_bl HR.out HBW.out
    have r3 := cell_of hqr 3
    obtain ⟨A8, c8, e8⟩ := own_slice HJ.out.1
    subst e8
    by_cases hlt : i < T
    · have HX := Lib.hid (HL2.out i hi8 hlt)
      by_cases hl0 : len = 0
      · have HRW : Hid (rwd l i = 0) := by show (if l.length = 0 then _ else _) = _; rw [if_pos (by rw [← HLEN.out]; exact hl0)]
        have e0 : ¬ ((len : Int) > 0) := by omega
        have HOW := Lib.hid (fun o => own_kp (W' := wr.alloc o) HJ.out.1 (fun k _ hk => Below.heap_alloc _ _ k hk))
        go_wp2_with (at_builtin; refine wpList_append_own _ rfl (.tmp 55) (.tmp 57) 22 rfl wA.heap.size 94 i0 (.int .u64 0) 1 8 Tryz.underlying22 hinf hz0 hz1 hz2 rfl (by decide) _ i _ rfl (HOW.out _) ⟨wr.heap.size, 0, none⟩ 1 1 [.int .u64 0] rfl rfl (one_at _ _ _) (by intro u hu; simp at hu; subst hu; rfl) (by unfold maxLen; omega) (by omega) (by have h1 := HBW.out.size; simp; omega) ?_; intro v' w7 hown' hgrow _; (have HO7 := Lib.hid hown'); (have HG7 := Lib.hid hgrow); clear hown' hgrow)
        go_roundw
        case rel => exact ⟨i + 1, by omega, hlt, by go_num, by rw [take_next HX.out, HRW.out, ivs_append]; exact HO7.out, bl_grown (bl_alloc HBW.out _) HG7.out (own_lo HJ.out.1)⟩
        case measure => simp [intOf]; omega
      · have hk9 : i % len < len := Nat.mod_lt _ (by omega)
        obtain ⟨x, hx⟩ := some_at (l := l) (i := i % len) (by rw [← HLEN.out]; exact hk9)
        have HRW : Hid (rwd l i = x) := by show (if l.length = 0 then _ else _) = _; rw [if_neg (by rw [← HLEN.out]; exact hl0), ← HLEN.out, List.getD_eq_getElem?_getD, hx]; rfl
        obtain ⟨p, rfl, hp0, hp⟩ := (HA.out.below HBW.out) _ x hx
        have e0 : (len : Int) > 0 := by omega
        obtain ⟨k, hk⟩ : ∃ k, k = i % len := ⟨_, rfl⟩
        have em : (i : Int) % len = (k : Int) := by omega
        have et : (i : Int).tmod len = (k : Int) := by rw [Int.tmod_eq_emod_of_nonneg (by omega)]; exact em
        rw [← hk] at hp hk9
        clear hk hx
        go_wp2_with fail
        go_quiet (fail)
        have hown : (wr.drewN nq).ownsRow wA.heap.size 94 1 (.slice A8 i c8) i (ivs .u64 (L.take i)) := own_kp HJ.out.1 (fun _ _ _ => rfl)
        have hbq := bl_drewN HBW.out nq
        generalize wr.drewN nq = wq at *
        have HBQ := Lib.hid hbq
        have HOQ := Lib.hid hown
        have HOW := Lib.hid (fun o => own_kp (W' := wq.alloc o) hown (fun k _ hk => Below.heap_alloc _ _ k hk))
        clear hown hbq hp hqr hq7
        go_wp2_with (at_builtin; refine wpList_append_own _ rfl (.tmp 55) (.tmp 57) 22 rfl wA.heap.size 94 i0 (.int .u64 0) 1 8 Tryz.underlying22 hinf hz0 hz1 hz2 rfl (by decide) _ i _ rfl (HOW.out _) ⟨wq.heap.size, 0, none⟩ 1 1 [.int .u64 x] rfl rfl (one_at _ _ _) (by intro u hu; simp at hu; subst hu; rfl) (by unfold maxLen; omega) (by omega) (by have h1 := HBQ.out.size; simp; omega) ?_; intro v' w7 hown' hgrow _; (have HO7 := Lib.hid hown'); (have HG7 := Lib.hid hgrow); clear hown' hgrow)
        go_roundw
        case rel => exact ⟨i + 1, by omega, hlt, by go_num, by rw [take_next HX.out, HRW.out, ivs_append]; exact HO7.out, bl_grown (bl_alloc HBQ.out _) HG7.out (own_lo HOQ.out)⟩
        case measure => simp [intOf]; omega
    · obtain rfl : i = T := by omega
      have hown := HJ.out.1
      rw [List.take_of_length_le (by rw [HLT.out]; exact Nat.le_refl _)] at hown
      obtain ⟨y8, hy8⟩ := some_at (l := L) (i := 0) (by rw [HLT.out]; omega)
      obtain ⟨q8, rfl, -, -⟩ := own_at hown hy8
      have hq8 : wA.heap.size ≤ q8 := own_lo hown q8 rfl
      have hsz := HBW.out.size
      have f78 := free_of hq7 8
      have c78 := cell_of hq7 8
      have hW1 := set_same hq7 8 (.slice (some ⟨q8, 0, none⟩) i c8)
      have hown2 := own_low hown (q := w3.heap.size) (by rw [HSA.out]; omega) 8 (.slice (some ⟨q8, 0, none⟩) i c8)
      have hzz := set_other (a := ⟨w3.heap.size, 8, none⟩) (blk_bl HZ.out HBW.out) (by show _ ≠ w3.heap.size; have := HSA.out; have := HS3.out; omega) (.slice (some ⟨q8, 0, none⟩) i c8)
      have hbz : Below w.heap.size w (wr.setCell ⟨w3.heap.size, 8, none⟩ (.slice (some ⟨q8, 0, none⟩) i c8)) := bl_set (bl_then HWA1.out HBW.out) (by have := HSA.out; have := HS3.out; omega) _
      have hrk := (own_rk hown2).1
      have HPO : Hid (∀ W, Rk .u64 W (some ⟨q8, 0, none⟩) L → Calls Tryz.prog 124 #[.slice (some ⟨q8, 0, none⟩) i c8] W fun e w' => ∃ v, e = .returned v ∧ Pm.DevNew W w' v (Pm.devOf L)) := by
        intro W hW
        have h9 := Pm.of_any (a := ⟨q8, 0, none⟩) hW c8 (by rw [HLT.out]; exact (own_rk hown).2.2) (by rw [HLT.out]; omega)
        rw [HLT.out] at h9
        exact h9
      have HALL := Lib.hid (And.intro hW1 (And.intro hown2 (And.intro hzz (And.intro hbz hrk))))
      clear hown hy8 hq7 hqr hW1 hown2 hzz hbz hrk hlt HJ
      go_wp2_with fail
      generalize wr.setCell ⟨w3.heap.size, 8, none⟩ (.slice (some ⟨q8, 0, none⟩) i c8) = wX at *
      have hx7 : wX.heap[w3.heap.size]? = some (.cells #[.int .i64 n, .int .i64 m, .int .i64 s, .int .i64 16, .int .i64 p2, .int .i64 p3, .int .i64 p4, .int .i64 i, .slice (some ⟨q8, 0, none⟩) i c8] 30 (0, 0)) := HALL.out.1
      have hxz := HALL.out.2.2.1
      have HX7 := Lib.hid hx7
      have HXZ := Lib.hid hxz
      clear c7 c78 f78 r3
      have m0 := cell_of hx7 0
      have m1 := cell_of hx7 1
      have m2 := cell_of hx7 2
      have m3 := cell_of hx7 3
      have m4 := cell_of hx7 4
      have m5 := cell_of hx7 5
      have m6 := cell_of hx7 6
      have m7 := cell_of hx7 7
      have m8 := cell_of hx7 8
      have z0 := cell_of hxz 0
      have z1 := cell_of hxz 1
      have z2 := cell_of hxz 2
      have z3 := cell_of hxz 3
      have z4 := cell_of hxz 4
      have z5 := cell_of hxz 5
      have z6 := cell_of hxz 6
      have z7 := cell_of hxz 7
      have z8 := cell_of hxz 8
      have f0 := free_of hxz 0
      have f1 := free_of hxz 1
      have f2 := free_of hxz 2
      have f3 := free_of hxz 3
      have f4 := free_of hxz 4
      have f5 := free_of hxz 5
      have f6 := free_of hxz 6
      have f7 := free_of hxz 7
      have f8 := free_of hxz 8
      clear hx7 hxz
      go_region_with (go_at_call 124; refine (HPO.out _ ?hX).mono ?_; (case hX => exact HALL.out.2.2.2.2); rintro e w5 ⟨_, rfl, bd, gd, rfl, hd5, hf5, hb5⟩; (have hx5 := blk_bl (W := wX.drew) HX7.out hb5); (have hz5 := blk_bl (W := wX.drew) HXZ.out hb5); (have mm0 := cell_of hx5 0); (have mm1 := cell_of hx5 1); (have mm2 := cell_of hx5 2); (have mm3 := cell_of hx5 3); (have mm4 := cell_of hx5 4); (have mm5 := cell_of hx5 5); (have mm6 := cell_of hx5 6); (have mm7 := cell_of hx5 7); (have mm8 := cell_of hx5 8); (have zz0 := cell_of hz5 0); (have zz1 := cell_of hz5 1); (have zz2 := cell_of hz5 2); (have zz3 := cell_of hz5 3); (have zz4 := cell_of hz5 4); (have zz5 := cell_of hz5 5); (have zz6 := cell_of hz5 6); (have zz7 := cell_of hz5 7); (have zz8 := cell_of hz5 8); (have ff0 := free_of hz5 0); (have ff1 := free_of hz5 1); (have ff2 := free_of hz5 2); (have ff3 := free_of hz5 3); (have ff4 := free_of hz5 4); (have ff5 := free_of hz5 5); (have ff6 := free_of hz5 6); (have ff7 := free_of hz5 7); (have ff8 := free_of hz5 8); (have HZ5 := Lib.hid hz5); (have HN5 := Lib.hid (And.intro hd5 (And.intro hf5 hb5))); clear hd5 hf5 hb5 hx5 hz5)
      all_goals
        go_wp2
        have hp9 := put9 HZ5.out (.int .i64 n) (.int .i64 m) (.int .i64 s) (.int .i64 16) (.int .i64 p2) (.int .i64 p3) (.int .i64 p4) (.int .i64 i) (.slice (some ⟨q8, 0, none⟩) i c8)
        have hs3 := HS3.out
        have hszx := HALL.out.2.1
        obtain ⟨xx, hxx⟩ := some_at (l := L) (i := 0) (by rw [HLT.out]; omega)
        have hqlt : q8 < wX.heap.size := by
          obtain ⟨a9, e9, h9, -⟩ := HALL.out.2.2.2.2 0 xx hxx
          cases e9
          exact h9
        have hwx : wA.heap.size ≤ wX.heap.size := Nat.le_trans hq8 (Nat.le_of_lt hqlt)
        have ho5 : w5.ownsRow wA.heap.size 94 1 (.slice (some ⟨q8, 0, none⟩) i c8) i (ivs .u64 L) := own_bl (W := wX) HALL.out.2.1 ⟨HN5.out.2.2.os, HN5.out.2.2.tape, HN5.out.2.2.output, HN5.out.2.2.size, HN5.out.2.2.block⟩
        have ho9 := own_low9 ho5 (q := w.heap.size + 1) (by omega) (.int .i64 n) (.int .i64 m) (.int .i64 s) (.int .i64 16) (.int .i64 p2) (.int .i64 p3) (.int .i64 p4) (.int .i64 i) (.slice (some ⟨q8, 0, none⟩) i c8)
        have hbx5 : Below w.heap.size w w5 := bl_then (bl_drew HALL.out.2.2.2.1) HN5.out.2.2
        have hb9 := bl_put9 hbx5 (Nat.le_succ _) (.int .i64 n) (.int .i64 m) (.int .i64 s) (.int .i64 16) (.int .i64 p2) (.int .i64 p3) (.int .i64 p4) (.int .i64 i) (.slice (some ⟨q8, 0, none⟩) i c8)
        rw [HLL.out]
        refine bodyPost_ret (res_tc (u := 2) rfl _ _ (w.heap.size + 1) 30 _ (0, 0) _ rfl hp9 hu rfl ?_) rfl ⟨bd, gd, .slice (some ⟨q8, 0, none⟩) i c8, by rw [HV.out]; rfl, ?_, ?_, own_base ho9 (by omega), ?_, hb9⟩
        · kernel_rfl
        · refine HN5.out.1.keep fun k hk => put9_other ?_
          have h9 := HN5.out.2.1 k hk
          have h8 : wX.heap.size ≤ k := h9
          omega
        · intro k hk
          have h9 : wX.heap.size ≤ k := HN5.out.2.1 k hk
          omega
        · intro k hk hm
          simp only [Value.ownBlock, Option.some.injEq] at hk
          have h9 : wX.heap.size ≤ k := HN5.out.2.1 k hm
          omega

end Go.Proofs.YtgnagbbdnlmgeaaGreat.Ra
end

/- super.Read of a device that is one. -/
section
set_option linter.unusedVariables false
set_option linter.unusedSimpArgs false
set_option maxHeartbeats 2000000
set_option maxRecDepth 100000
namespace Go.Proofs.YtgnagbbdnlmgeaaGreat.Su
open Go Go.RowKit
open Go.Proofs.YtgnagbbdnlmgeaaGreat.Ob Go.Proofs.YtgnagbbdnlmgeaaGreat.Ba Go.Proofs.YtgnagbbdnlmgeaaGreat.Ko Go.Proofs.YtgnagbbdnlmgeaaGreat.Ge Go.Proofs.YtgnagbbdnlmgeaaGreat.Cr Go.Proofs.YtgnagbbdnlmgeaaGreat.Cc Go.Proofs.YtgnagbbdnlmgeaaGreat.Oc Go.Proofs.YtgnagbbdnlmgeaaGreat.Pk Go.Proofs.YtgnagbbdnlmgeaaGreat.Dv

theorem enc_len (n m s : Nat) : (enc n m s).length = 8 := rfl
theorem enc_at1 (n m s : Nat) : (enc n m s).getD 1 0 = word1 n m s := rfl
theorem enc_lt {n m s : Nat} (hn : n < 65536) (hm : m < 65536) (hs : s < 65536) : ∀ x ∈ enc n m s, x < 18446744073709551616 := by
  intro x hx
  have h1 : word1 n m s < 18446744073709551616 := by unfold word1; omega
  have h2 : sum7 magic (word1 n m s) < 18446744073709551616 := Nat.lt_trans (sum7_lt _ _) (by decide)
  have h3 : magic < 18446744073709551616 := by decide
  unfold enc line at hx
  simp only [List.cons_append, List.nil_append, List.mem_cons, List.not_mem_nil, or_false] at hx
  rcases hx with rfl | rfl | rfl | rfl | rfl | rfl | rfl | rfl
  · exact h3
  · exact h1
  all_goals first | exact h2 | decide

theorem dec_enc {w : World} {A : Option Addr} {n m s : Nat} (h : Rk .u64 w A (ints (enc n m s))) (c : Nat) (hok : geoOk n m s = true) (hn : n < 65536) (hm : m < 65536) (hs : s < 65536) :
    Calls Tryz.prog 171 #[.slice A 8 c] w fun e w' => e = .returned (.tuple #[.agg #[.int .i64 n, .int .i64 m, .int .i64 s], .int .i64 0]) ∧ Below w.heap.size w w' := by
  have hp : pa (word1 n m s) = n ∧ pb (word1 n m s) = m ∧ pc (word1 n m s) = s ∧ word1 n m s < 281474976710656 := by unfold pa pb pc word1; omega
  have := dec_rest h c (enc_len n m s) (enc_lt hn hm hs) (word1 n m s) (enc_at1 n m s) hp.2.2.2 n m s hp.1.symm hp.2.1.symm hp.2.2.1.symm
  rw [enc_len] at this
  refine this.mono ?_
  rintro e w' ⟨hd, hb⟩
  unfold DecIs at hd
  rw [if_pos ⟨hok, rfl⟩] at hd
  exact ⟨hd, hb⟩

theorem own_drewN {W : World} {B T s n : Nat} {v : Value} {xs : List Value} (h : W.ownsRow B T s v n xs) (q : Nat) : (W.drewN q).ownsRow B T s v n xs := own_kp h (fun _ _ _ => rfl)

theorem read_ok {w : World} {b : Nat} {d : Dev} {g : Lay} (h : DevIs w b d g) (n m s : Nat) (hok : geoOk n m s = true) (hn : n < 65536) (hm : m < 65536) (hs : s < 65536) (hlen : (d.las.length : Int) = tot n m s) (h8 : 8 ≤ d.las.length)
    (hl : ∀ (i : Nat) x, (enc n m s)[i]? = some x → d.load i = (x : Int)) :
    Calls Tryz.prog 131 #[.pointer (some ⟨b, 0, none⟩)] w fun e w' => e = .returned (.tuple #[.agg #[.int .i64 n, .int .i64 m, .int .i64 s], .int .i64 0]) ∧ Below w.heap.size w w' := by
  have hu := Tryz.underlying34
  have HD := Lib.hid h
  have HL : Hid (∀ W, DevIs W b d g → Calls Tryz.prog 170 #[.pointer (some ⟨b, 0, none⟩)] W fun e w' => e = .returned (.int .i64 (tot n m s)) ∧ W = w') := by
    intro W hW
    rw [← hlen]
    exact Go.Proofs.YtgnagbbdnlmgeaaGreat.Pm.len_any hW
  have HLD := Lib.hid hl
  have HW := Lib.hid (words_ n m s hok)
  have HDE : Hid (∀ {w : World} {A : Option Addr} (h : Rk .u64 w A (ints (enc n m s))) (c : Nat), _) := fun h c => dec_enc h c hok hn hm hs
  have ht : (8 : Int) ≤ tot n m s := by omega
  have HE8 := Lib.hid (enc_len n m s)
  have HLT := Lib.hid (enc_lt hn hm hs)
  generalize enc n m s = l at *
  generalize ht0 : tot n m s = t at *
  clear h hok hn hm hs hlen h8 hl ht0
  have hinf0 : True := trivial
  obtain ⟨i0, hinf, hz0, hz1, hz2⟩ := info_parts info_u64
  go_enter Tryz.func131, Tryz.ntmps131
  go_wp2_with fail
  refine (HL.out _ (HD.out.below (bl_alloc (Below.refl _ _) _))).mono ?_
  rintro e w1 ⟨rfl, hw1⟩
  have HB1 : Hid (Below w.heap.size w w1) := by rw [← hw1]; exact bl_alloc (Below.refl _ _) _
  have HQ1 : Hid (w1.heap[w.heap.size]? = some (.cells #[.int .i64 0, .int .i64 0, .int .i64 0] 34 (0, 0))) := by rw [← hw1]; exact alloc_new _ _
  have HD1 : Hid (DevIs w1 b d g) := HD.out.below HB1.out
  clear hw1 HD
  go_wp2_with fail
  go_loopw [4, 11] (fun c4 c11 wr => ∃ i : Nat, i ≤ 8 ∧ c11 = .int .i64 i ∧ Hid (wr.ownsRow w1.heap.size 94 1 c4 i (ivs .u64 (ints (l.take i)))) ∧ Hid (Below w1.heap.size w1 wr)) (fun _ c11 _ => 8 - (intOf c11).toNat)
  case atStart => exact ⟨0, Nat.zero_le _, rfl, by show World.ownsRow _ _ _ _ _ _ _; have := own_nil0 w1 w1.heap.size 94 1; simpa [ints, ivs] using this, Below.refl _ _⟩
  case round =>
    obtain ⟨i, hi, rfl, HR, HB⟩ := hrel
    obtain ⟨A4, c4, e4⟩ := own_slice HR.out
    subst e4
    by_cases hlt : i < 8
    · obtain ⟨x, hx⟩ := some_at (l := l) (i := i) (by rw [HE8.out]; exact hlt)
      have hld := Go.Proofs.YtgnagbbdnlmgeaaGreat.Pm.load_any (HD1.out.below HB.out) (i : Int)
      rw [HLD.out i x hx] at hld
      have HX := Lib.hid hx
      have HLO := Lib.hid hld
      clear hx hld hi
      go_wp2_with fail
      refine HLO.out.mono ?_
      rintro e w3 ⟨rfl, q, rfl⟩
      have HB3 : Hid (Below w1.heap.size w1 (wr.drewN q)) := bl_drewN HB.out q
      have hown0 := own_drewN HR.out q
      generalize wr.drewN q = w3 at *
      have HR3 := Lib.hid hown0
      have HOW := Lib.hid (fun o => own_kp (W' := w3.alloc o) hown0 (fun k _ hk => Below.heap_alloc _ _ k hk))
      clear hown0 HR HB HLO
      go_wp2_with (at_builtin; refine wpList_append_own _ rfl (.tmp 14) (.tmp 18) 22 rfl w1.heap.size 94 i0 (.int .u64 0) 1 8 Tryz.underlying22 hinf hz0 hz1 hz2 rfl (by decide) _ i _ rfl (HOW.out _) ⟨w3.heap.size, 0, none⟩ 1 1 [.int .u64 x] rfl rfl (one_at _ _ _) (by intro u hu; simp at hu; subst hu; rfl) (by unfold maxLen; omega) (by omega) (by have h1 := HB3.out.size; simp; omega) ?_; intro v' w7 hown' hgrow _; (obtain ⟨A7, c7, rfl⟩ := own_slice hown'); (have HO := Lib.hid hown'); (have HG := Lib.hid hgrow); clear hown' hgrow)
      go_roundw
      case rel => exact ⟨i + 1, hlt, by go_num, by show World.ownsRow _ _ _ _ _ _ _; rw [take_next HX.out, ints_append, ivs_append]; exact HO.out, bl_grown (bl_alloc HB3.out _) HG.out (own_lo HR3.out)⟩
      case measure => simp [intOf]; omega
    · obtain rfl : i = 8 := by omega
      have hown := HR.out
      rw [List.take_of_length_le (by rw [HE8.out]; omega)] at hown
      have HDC := Lib.hid (HDE.out (own_rk hown).1 c4)
      clear hown HR hlt hi
      go_wp2_with fail
      refine HDC.out.mono ?_
      rintro e w5 ⟨rfl, hb5⟩
      have HB5 := Lib.hid (bl_then HB.out hb5)
      have HD5 : Hid (DevIs w5 b d g) := HD1.out.below HB5.out
      have HQ5 : Hid (w5.heap[w.heap.size]? = some (.cells #[.int .i64 0, .int .i64 0, .int .i64 0] 34 (0, 0))) := blk_bl HQ1.out HB5.out
      have HA5 : Hid (Below w.heap.size w w5) := bl_then HB1.out HB5.out
      clear hb5 HDC HB HB5 HDE HLT HE8 HLD
      go_wp2_with fail
      go_region_held3 (fun w' => w'.cell? ⟨w5.heap.size, 0, none⟩ = some (.int .i64 n) ∧ w'.cell? ⟨w5.heap.size, 1, none⟩ = some (.int .i64 m) ∧ w'.cell? ⟨w5.heap.size, 2, none⟩ = some (.int .i64 s) ∧ Ge.Bx w5 w')
        (first | assumption | exact Ge.bx_start rfl | exact Ge.bx_keep ‹_› ‹_›)
        (first | (go_at_call 170; refine (HL.out _ (HD5.out.below (Ge.bx_of ‹_›).below)).mono ?_; rintro e w6 ⟨rfl, rfl⟩) | (go_at_call 167; refine (HW.out _).mono ?_; rintro e w7 ⟨rfl, hb⟩))
      rename_i hS
      obtain ⟨m0, m1, m2, hbx⟩ := hS
      have hq7 := blk_bl HQ5.out hbx.below
      have l0 := cell_of hq7 0
      have l1 := cell_of hq7 1
      have l2 := cell_of hq7 2
      have f0 := free_of hq7 0
      have f1 := free_of hq7 1
      have f2 := free_of hq7 2
      have HR7 := Lib.hid hq7
      have HB7 := Lib.hid (bl_then HA5.out hbx.below)
      clear hq7 hb hbx
      go_wp2_with fail
      exact bodyPost_ret (res_ct (u := 3) rfl _ _ w.heap.size 34 #[.int .i64 n, .int .i64 m, .int .i64 s] (0, 0) _ rfl (put3 HR7.out _ _ _) hu rfl (by kernel_rfl)) rfl ⟨rfl, bl_put3 HB7.out (Nat.le_refl _) _ _ _⟩

end Go.Proofs.YtgnagbbdnlmgeaaGreat.Su
end

/- volume.line: words from one on. -/
section
set_option linter.unusedVariables false
set_option linter.unusedSimpArgs false
set_option maxHeartbeats 2000000
set_option maxRecDepth 100000
namespace Go.Proofs.YtgnagbbdnlmgeaaGreat.Vo
open Go Go.RowKit
open Go.Proofs.YtgnagbbdnlmgeaaGreat.Ob Go.Proofs.YtgnagbbdnlmgeaaGreat.Ba Go.Proofs.YtgnagbbdnlmgeaaGreat.Oc Go.Proofs.YtgnagbbdnlmgeaaGreat.Pk Go.Proofs.YtgnagbbdnlmgeaaGreat.Dv Go.Proofs.YtgnagbbdnlmgeaaGreat.Su

def lds (d : Dev) (a n : Nat) : List Int := (List.range n).map fun i : Nat => d.load ((a + i : Nat) : Int)
theorem lds_succ (d : Dev) (a n : Nat) : lds d a (n + 1) = lds d a n ++ [d.load ((a + n : Nat) : Int)] := by
  unfold lds
  rw [List.range_succ, List.map_append]
  rfl
theorem lds_length (d : Dev) (a n : Nat) : (lds d a n).length = n := by simp [lds]

theorem line_ {w : World} {b : Nat} {d : Dev} {g : Lay} (h : DevIs w b d g) (a n : Nat) (ha : a ≤ 1000000000) (hn : n ≤ 1000000) :
    Calls Tryz.prog 78 #[.agg #[.pointer (some ⟨b, 0, none⟩)], .int .i64 a, .int .i64 n] w fun e w' => ∃ v, e = .returned v ∧ w'.ownsRow w.heap.size 94 1 v n (ivs .u64 (lds d a n)) ∧ Below w.heap.size w w' := by
  have hu := Tryz.underlying138
  have HD := Lib.hid h
  clear h
  obtain ⟨z, hz⟩ : ∃ z : Nat, z = a + n := ⟨_, rfl⟩
  have HZ := Lib.hid hz
  have hz9 : z ≤ 2000000000 := by omega
  clear hz
  obtain ⟨i0, hinf, hz0, hz1, hz2⟩ := info_parts info_u64
  go_enter Tryz.func78, Tryz.ntmps78
  go_wp2_with fail
  generalize hw1 : w.alloc (.cells #[.pointer (some ⟨b, 0, none⟩)] 138) = w1
  have HB1 : Hid (Below w.heap.size w w1) := by rw [← hw1]; exact bl_alloc (Below.refl _ _) _
  have HQ1 : Hid (w1.heap[w.heap.size]? = some (.cells #[.pointer (some ⟨b, 0, none⟩)] 138 (0, 0))) := by rw [← hw1]; exact alloc_new _ _
  have HD1 : Hid (DevIs w1 b d g) := HD.out.below HB1.out
  clear hw1 HD
  go_loopw [7, 8] (fun c7 c8 wr => ∃ i : Nat, i ≤ n ∧ c8 = .int .i64 (a + i : Nat) ∧ Hid (wr.ownsRow w1.heap.size 94 1 c7 i (ivs .u64 (lds d a i))) ∧ Hid (Below w1.heap.size w1 wr)) (fun _ c8 _ => z - (intOf c8).toNat)
  case atStart => exact ⟨0, Nat.zero_le _, rfl, by show World.ownsRow _ _ _ _ _ _ _; have := own_nil0 w1 w1.heap.size 94 1; simpa [lds, ivs] using this, Below.refl _ _⟩
  case round =>
    obtain ⟨i, hi, rfl, HR, HB⟩ := hrel
    obtain ⟨A7, c7, e7⟩ := own_slice HR.out
    subst e7
    by_cases hlt : i < n
    · obtain ⟨k, hk⟩ : ∃ k, k = a + i := ⟨_, rfl⟩
      rw [← hk]
      have hkz : (k : Int) < (a : Int) + n := by omega
      have hld := Go.Proofs.YtgnagbbdnlmgeaaGreat.Pm.load_any (HD1.out.below HB.out) (k : Int)
      obtain ⟨y, hy⟩ : ∃ y, y = d.load (k : Int) := ⟨_, rfl⟩
      rw [← hy] at hld
      have HY := Lib.hid hy
      have HLO := Lib.hid hld
      have hbq := blk_bl HQ1.out HB.out
      have hbc : wr.cell? ⟨w.heap.size, 0, none⟩ = some (.pointer (some ⟨b, 0, none⟩)) := cell_of hbq 0
      have HK := Lib.hid hk
      clear hy hld hi hbq hk
      go_wp2_with fail
      refine HLO.out.mono ?_
      rintro e w3 ⟨rfl, q, rfl⟩
      have HB3 : Hid (Below w1.heap.size w1 (wr.drewN q)) := bl_drewN HB.out q
      have hown0 := own_drewN HR.out q
      generalize wr.drewN q = w3 at *
      have HR3 := Lib.hid hown0
      have HOW := Lib.hid (fun o => own_kp (W' := w3.alloc o) hown0 (fun k _ hk => Below.heap_alloc _ _ k hk))
      clear hown0 HR HB HLO
      go_wp2_with (at_builtin; refine wpList_append_own _ rfl (.tmp 17) (.tmp 22) 22 rfl w1.heap.size 94 i0 (.int .u64 0) 1 8 Tryz.underlying22 hinf hz0 hz1 hz2 rfl (by decide) _ i _ rfl (HOW.out _) ⟨w3.heap.size, 0, none⟩ 1 1 [.int .u64 y] rfl rfl (one_at _ _ _) (by intro u hu; simp at hu; subst hu; rfl) (by unfold maxLen; omega) (by omega) (by have h1 := HB3.out.size; simp; omega) ?_; intro v' w7 hown' hgrow _; (obtain ⟨A9, c9, rfl⟩ := own_slice hown'); (have HO := Lib.hid hown'); (have HG := Lib.hid hgrow); clear hown' hgrow)
      go_roundw
      case rel => exact ⟨i + 1, hlt, by have := HK.out; go_num, by show World.ownsRow _ _ _ _ _ _ _; rw [lds_succ, ivs_append, ← HK.out, ← HY.out]; exact HO.out, bl_grown (bl_alloc HB3.out _) HG.out (own_lo HR3.out)⟩
      case measure => have := HZ.out; simp [intOf]; omega
    · obtain rfl : i = n := by omega
      rw [← HZ.out]
      have hkz : (a : Int) + i ≤ (z : Int) := by have := HZ.out; omega
      go_wp2_with fail
      go_ret
      exact ⟨_, rfl, own_base HR.out HB1.out.size, bl_then HB1.out HB.out⟩

end Go.Proofs.YtgnagbbdnlmgeaaGreat.Vo
end
