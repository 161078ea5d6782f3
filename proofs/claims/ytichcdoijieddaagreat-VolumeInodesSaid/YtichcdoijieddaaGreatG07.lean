/- Parts of the proof, one behind the other: In, Lp, By, Sl, Lw, Rj, Rk, Lq. -/
import Derived.Test.YtichcdoijieddaaGreatG03
import Derived.Deep.QuietTactic
import Derived.BigQuiet
import Derived.Test.YtichcdoijieddaaGreatG06
import Derived.Test.YtichcdoijieddaaGreatG02

/- package inode: what a file is, in a line. -/
section
set_option linter.unusedVariables false
set_option linter.unusedSimpArgs false
set_option maxHeartbeats 2000000
set_option maxRecDepth 100000
namespace Go.Proofs.YtichcdoijieddaaGreat.In
open Go Go.RowKit
open Go.Proofs.YtichcdoijieddaaGreat.Ob Go.Proofs.YtichcdoijieddaaGreat.Ba Go.Proofs.YtichcdoijieddaaGreat.Oc Go.Proofs.YtichcdoijieddaaGreat.Pk Go.Proofs.YtichcdoijieddaaGreat.Su Go.Proofs.YtichcdoijieddaaGreat.Cc Go.Proofs.YtichcdoijieddaaGreat.Cr

/-- a file or a directory may be -/
def iOk (k h z : Int) : Prop := (k = 1 ∨ k = 2) ∧ 0 ≤ z ∧ z ≤ 268435456 ∧ -1 ≤ h ∧ h < 65534 ∧ (h < 0 ↔ z = 0) ∧ (k = 1 ∨ z % 64 = 0)

theorem may_yes (k h z : Int) (hk : iOk k h z) (w : World) : Calls Tryz.prog 100 #[.agg #[.int .i64 k, .int .i64 h, .int .i64 z]] w fun e w' => e = .returned (.bool true) ∧ Below w.heap.size w w' := by
  have hu := Tryz.underlying27
  obtain ⟨h1, h2, h3, h4, h5, h6, h7⟩ := hk
  have he : ((decide (h < 0)) == (z == 0)) = true := by
    by_cases hn : h < 0
    · have := h6.1 hn; simp [hn, this]
    · have h8 : ¬ z = 0 := fun e => hn (h6.2 e)
      simp [hn, h8]
  rcases h1 with rfl | rfl
  · clear h7 h6
    go_enter Tryz.func100, Tryz.ntmps100
    go_wp2
    go_ret
    exact ⟨rfl, bl_alloc (Below.refl _ _) _⟩
  · have h8 : z % 64 = 0 := by omega
    clear h7 h6
    go_enter Tryz.func100, Tryz.ntmps100
    go_wp2
    go_ret
    exact ⟨rfl, bl_alloc (Below.refl _ _) _⟩

theorem encode_file (k p z : Nat) (h : Int) (hp : (p : Int) = h + 1) (hk : iOk k h z) (w : World) :
    Calls Tryz.prog 57 #[.agg #[.int .i64 k, .int .i64 h, .int .i64 z]] w fun e w' => ∃ v, e = .returned (.tuple #[v, .int .i64 0]) ∧ w'.ownsRow w.heap.size 60 1 v 8 (ivs .u64 (ints (line (k + 65536 * p) z))) ∧ Below w.heap.size w w' := by
  have hu := Tryz.underlying27
  have HM := Lib.hid (may_yes k h z hk)
  obtain ⟨h1, h2, h3, h4, h5, h6, h7⟩ := hk
  have hk9 : k < 65536 := by omega
  have hp9 : p < 65536 := by omega
  have hz9 : z < 18446744073709551616 := by omega
  have e0 : ((k : Int) == 0) = false := by rw [beq_eq_false_iff_ne]; omega
  have HF := Lib.hid (And.intro (f16 hk9) (f16 hp9))
  obtain ⟨x, hx⟩ : ∃ x, x = k + 65536 * p := ⟨_, rfl⟩
  have hpv : pv [(16, k), (16, p)] = x := by simp [pv, hx]
  have hx9 : x < 18446744073709551616 := by omega
  have HPV := Lib.hid hpv
  have HP := Lib.hid hp
  rw [← hx]
  have hzz : (z : Int) ≤ 268435456 := h3
  clear h1 h2 h6 h7 hpv hx
  go_enter Tryz.func57, Tryz.ntmps57
  go_wp2_with (first | (at_make; refine Go.Proofs.YtichcdoijieddaaGreat.Wl.wpl_make rfl _ 22 60 rfl (.int .u64 0) 8 Tryz.underlying22 info_u64 rfl 8 .i64 _ rfl rfl (by decide) (by decide) ?_) | (go_at_call 100; refine (HM.out _).mono ?_; rintro e w1 ⟨rfl, hb⟩; (have hq := blk_bl (alloc_new w (.cells #[.int .i64 k, .int .i64 h, .int .i64 z] 27)) hb); (have HQ := Lib.hid hq); (have k0 := cell_of hq 0); (have k1 := cell_of hq 1); (have k2 := cell_of hq 2); (have hlt := lt_of hq); (have HB := Lib.hid (bl_then (bl_alloc (Below.refl _ _) _) hb)); clear hb hq))
  rw [← HP.out]
  have hfs : FsAt ((w1.alloc (.cells (Array.replicate 8 (.int .u64 0)) 60)).alloc (.cells #[.int .i64 16, .int .u64 k, .int .i64 16, .int .u64 p] 163)) (some ⟨w1.heap.size + 1, 0, none⟩) [(16, k), (16, p)] := by
    have := alloc_new (w1.alloc (.cells (Array.replicate 8 (.int .u64 0)) 60)) (.cells #[.int .i64 16, .int .u64 k, .int .i64 16, .int .u64 p] 163)
    rw [World.size_alloc] at this
    refine fields_at (T := 163) (fr := (0, 0)) this ?_
    intro u hu
    simp only [List.mem_cons, List.not_mem_nil, or_false] at hu
    rcases hu with rfl | rfl
    · exact HF.out.1
    · exact HF.out.2
  have hpk := pack_ hfs 2 (by simp [wid]) (by simp)
  rw [HPV.out] at hpk
  refine (show Calls _ _ #[.slice (some ⟨w1.heap.size + 1, 0, none⟩) 2 2] _ _ from hpk).mono ?_
  rintro e w3 ⟨rfl, hb3⟩
  have hL3 : w3.heap[w1.heap.size]? = some (.cells (Array.replicate 8 (.int .u64 0)) 60 (0, 0)) := blk_bl (alloc_old (alloc_new w1 _) _) hb3
  have hz3 := hb3.size
  simp only [World.size_alloc] at hz3
  have HB3 := Lib.hid (bl_then (bl_alloc (bl_alloc (Below.refl _ _) _) _) hb3)
  have hq3 := blk_bl HQ.out HB3.out
  clear k0 k1 k2
  have k0 := cell_of hq3 0
  have k1 := cell_of hq3 1
  have k2 := cell_of hq3 2
  have l0 := cell_of hL3 0
  have l1 := cell_of hL3 1
  have f0 := free_of hL3 0
  have f1 := free_of hL3 1
  simp only [Array.getElem?_replicate] at l0 l1
  have hL4 := set_same (set_same hL3 0 (.int .u64 x)) 1 (.int .u64 z)
  have hr4 := fill_line hL4
  have hr5 := words32_ hr4 (head7_lt (a := x) (b := z) hx9 hz9) 8 (by simp [head7])
  rw [show (head7 x z).length = 7 from rfl] at hr5
  have HR4 := Lib.hid hr5
  have HL4 := Lib.hid hL4
  have HB := Lib.hid HB.out
  clear hfs hpk hb3 hL3 hL4 hr4 hr5 hq3
  go_wp2_with fail
  refine HR4.out.mono ?_
  rw [sum7_int]
  rintro e w5 ⟨rfl, hb5⟩
  have hL5 := (hb5.block _ (lt_of HL4.out)).trans HL4.out
  have l7 : w5.cell? ⟨w1.heap.size, 7, none⟩ = some (.int .u64 0) := cell_of hL5 7
  have f7 := free_of hL5 7
  have hs7 := sum7_lt x z
  have HL5 := Lib.hid hL5
  have HB5 := Lib.hid hb5
  clear hL5 hb5 l0 l1 f0 f1
  go_wp2_with fail
  go_ret2
  have hfin := set_same HL5.out 7 (.int .u64 (sum7 x z : Nat))
  have h1 := HB.out.size
  refine ⟨_, rfl, own_new (q := w1.heap.size) hfin h1 rfl (by unfold maxLen; omega), ?_⟩
  have u1 : Below w.heap.size w w3 := bl_then HB.out HB3.out
  have u2 := bl_set (o := 1) (bl_set (o := 0) u1 h1 (.int .u64 x)) h1 (.int .u64 z)
  exact bl_set (o := 7) (bl_then u2 HB5.out) h1 _

end Go.Proofs.YtichcdoijieddaaGreat.In
end

/- The sixth chapter's example. -/
section
set_option linter.unusedVariables false
set_option linter.unusedSimpArgs false
set_option maxHeartbeats 2000000
set_option maxRecDepth 100000
namespace Go.Proofs.YtichcdoijieddaaGreat.Li
open Go Go.RowKit
open Go.Proofs.YtichcdoijieddaaGreat.Ob Go.Proofs.YtichcdoijieddaaGreat.Ba Go.Proofs.YtichcdoijieddaaGreat.Oc Go.Proofs.YtichcdoijieddaaGreat.Pk

theorem lives06 (w : World) : Calls Tryz.prog 47 #[] w fun e w' => e = .returned (.bool true) ∧ Below w.heap.size w w' := by
  have hen := In.encode_file 1 3 5 2 (by decide) ⟨.inl rfl, by decide, by decide, by decide, by decide, by decide, .inl rfl⟩ w
  have hl0 : (ints (Su.line (1 + 65536 * 3) 5))[0]? = some 196609 := by decide
  have HL := Lib.hid hl0
  generalize Su.line (1 + 65536 * 3) 5 = l at *
  have HE := Lib.hid hen
  clear hen hl0
  go_enter Tryz.func47, Tryz.ntmps47
  go_wp2_with (first | (go_at_call 57; refine (show Calls _ _ #[.agg #[.int .i64 1, .int .i64 2, .int .i64 5]] _ _ from HE.out).mono ?_; rintro e w1 ⟨v, rfl, hown, hb1⟩; (obtain ⟨A1, c1, rfl⟩ := own_slice hown); (obtain ⟨q1, rfl, -, -⟩ := own_at hown HL.out); (have HO := Lib.hid hown); (have HB1 := Lib.hid hb1); clear hb1 hown) |
    (go_at_call 93; refine (lives02 _).mono ?_; rintro e w3 ⟨rfl, hb3⟩; (have HB3 := Lib.hid hb3); clear hb3) |
    (go_at_call 94; refine (lives03 _).mono ?_; rintro e w4 ⟨rfl, hb4⟩; (have HB4 := Lib.hid (bl_then HB3.out hb4)); clear hb4; (obtain ⟨_, e5, hc5, -⟩ := own_at (own_bl HO.out HB4.out) HL.out); cases e5))
  go_ret
  exact ⟨rfl, bl_then HB1.out HB4.out⟩

end Go.Proofs.YtichcdoijieddaaGreat.Li
end

/- Words in bytes: the third chapter's function. -/
section
set_option linter.unusedVariables false
set_option linter.unusedSimpArgs false
set_option maxHeartbeats 1000000
set_option maxRecDepth 100000
namespace Go.Proofs.YtichcdoijieddaaGreat.Cc
open Go Go.RowKit
open Go.Proofs.YtichcdoijieddaaGreat.Ob Go.Proofs.YtichcdoijieddaaGreat.Ba Go.Proofs.YtichcdoijieddaaGreat.Cr Go.Proofs.YtichcdoijieddaaGreat.C6 Go.Proofs.YtichcdoijieddaaGreat.Oc

set_option maxHeartbeats 2000000 in
theorem bytes_ {w : World} {A : Option Addr} {l : List Nat} (h : Rk .u64 w A (ints l)) (hl : ∀ x ∈ l, x < 18446744073709551616) (c : Nat) (hn : l.length ≤ 1000000000) :
    Calls Tryz.prog 80 #[.slice A l.length c] w fun e w' => ∃ v, e = .returned v ∧ w'.ownsRow w.heap.size 5 1 v (8 * l.length) (ivs .u8 (ints (octs l))) ∧ Below w.heap.size w w' := by
  have H := Lib.hid h
  have HL := Lib.hid hl
  obtain ⟨n, hnn⟩ : ∃ n, n = l.length := ⟨_, rfl⟩
  rw [← hnn]
  rw [← hnn] at hn
  have HN := Lib.hid hnn
  clear h hl hnn
  obtain ⟨i0, hinf, hz0, hz1, hz2⟩ := info_parts (show (Tryz.prog.info? 5).map (fun i => (i.zero, i.size, i.bytes)) = some (some (.int .u8 0), 1, 1) by kernel_rfl)
  go_enter Tryz.func80, Tryz.ntmps80
  go_wp2_with fail
  go_loopw [9, 3] (fun c9 c3 wr => ∃ i : Nat, i ≤ n ∧ c9 = .int .i64 i ∧ Hid (Below w.heap.size w wr ∧ wr.ownsRow w.heap.size 5 1 c3 (8 * i) (ivs .u8 (ints (octs (l.take i)))))) (fun c9 _ _ => n - (intOf c9).toNat)
  case atStart => exact ⟨0, Nat.zero_le _, rfl, Below.refl _ _, own_nil0 _ _ _ _⟩
  case round =>
    obtain ⟨i, hi, rfl, HR⟩ := hrel
    by_cases hlt : i < n
    · obtain ⟨x, hx⟩ := some_at (l := l) (i := i) (by rw [← HN.out]; exact hlt)
      obtain ⟨a, rfl, -, ha⟩ := (H.out.below HR.out.1) i x (ints_get hx)
      have HX := Lib.hid (And.intro hx (HL.out x (List.mem_of_getElem? hx)))
      clear hx
      generalize wr = wA at *
      go_wp2_with fail
      go_loopw [13, 3] (fun c13 c3 wq => ∃ j : Nat, j ≤ 8 ∧ c13 = .int .i64 j ∧ Hid (Below w.heap.size w wq ∧ wq.ownsRow w.heap.size 5 1 c3 (8 * i + j) (ivs .u8 (ints (octs (l.take i) ++ (oct x).take j))))) (fun c13 _ _ => 8 - (intOf c13).toNat)
      case atStart => exact ⟨0, Nat.zero_le _, rfl, HR.out.1, by simpa using HR.out.2⟩
      case round =>
        obtain ⟨j, hj, rfl, HQ⟩ := hrel
        by_cases hl8 : j < 8
        · have hv := shr_at x j hl8
          have HB := Lib.hid (oct_at x j hl8)
          have hlt2 : x / 256 ^ j % 256 < 256 := Nat.mod_lt _ (by decide)
          generalize x / 256 ^ j % 256 = y at *
          have HOW := Lib.hid (fun o => own_kp (W' := wr.alloc o) HQ.out.2 (fun k _ hk => Below.heap_alloc _ _ k hk))
          go_wp2_with (at_builtin; refine wpList_append_own _ rfl (.tmp 16) (.tmp 22) 95 rfl w.heap.size 5 i0 (.int .u8 0) 1 1 Tryz.underlying95 hinf hz0 hz1 hz2 rfl (by decide) _ (8 * i + j) _ rfl (HOW.out _) ⟨wr.heap.size, 0, none⟩ 1 1 [.int .u8 y] rfl rfl (one_at _ _ _) (by intro u hu; simp at hu; subst hu; rfl) (by unfold maxLen; omega) (by omega) (by have h1 := HQ.out.1.size; simp; omega) ?_; intro v' w7 hown' hgrow _; (have HO := Lib.hid hown'); (have HG := Lib.hid hgrow); clear hown' hgrow)
          have hx1 : Below w.heap.size w w7 := bl_grown (bl_alloc HQ.out.1 _) HG.out (own_lo HQ.out.2)
          have hx2 : w7.ownsRow w.heap.size 5 1 v' (8 * i + (j + 1)) (ivs .u8 (ints (octs (l.take i) ++ (oct x).take (j + 1)))) := by
            rw [take_next HB.out, ← List.append_assoc, ints_append, ivs_append]
            exact HO.out
          have HZ := Lib.hid (And.intro hx1 hx2)
          clear hx1 hx2
          go_roundw
          case rel => exact ⟨j + 1, by omega, by go_num, HZ.out⟩
          case measure => simp [intOf]; omega
        · obtain rfl : j = 8 := by omega
          have hz : Below w.heap.size w wr ∧ wr.ownsRow w.heap.size 5 1 u3 (8 * (i + 1)) (ivs .u8 (ints (octs (l.take (i + 1))))) := by
            refine ⟨HQ.out.1, ?_⟩
            have := HQ.out.2
            rw [List.take_of_length_le (l := oct x) (by rw [oct_len]; omega), ← octs_snoc, ← take_next HX.out.1] at this
            exact this
          have HZ := Lib.hid hz
          clear hz
          go_wp2_with fail
          go_roundw
          case rel => exact ⟨i + 1, by omega, by go_num, HZ.out⟩
          case measure => simp [intOf]; omega
    · obtain rfl : i = n := by omega
      go_wp2_with fail
      go_ret
      have h2 := HR.out.2
      rw [List.take_of_length_le (by rw [← HN.out]; omega)] at h2
      exact ⟨_, rfl, h2, HR.out.1⟩

end Go.Proofs.YtichcdoijieddaaGreat.Cc
end

/- package slot: a stretch of blocks in a word. -/
section
set_option linter.unusedVariables false
set_option linter.unusedSimpArgs false
set_option maxHeartbeats 2000000
set_option maxRecDepth 100000
namespace Go.Proofs.YtichcdoijieddaaGreat.Lo
open Go Go.RowKit
open Go.Proofs.YtichcdoijieddaaGreat.Ob Go.Proofs.YtichcdoijieddaaGreat.Ba Go.Proofs.YtichcdoijieddaaGreat.Cr Go.Proofs.YtichcdoijieddaaGreat.C6 Go.Proofs.YtichcdoijieddaaGreat.Cc Go.Proofs.YtichcdoijieddaaGreat.Oc Go.Proofs.YtichcdoijieddaaGreat.Pk Go.Proofs.YtichcdoijieddaaGreat.Su

def sMay (s c n : Int) : Bool := decide (0 ≤ s ∧ s < 65534 ∧ 1 ≤ c ∧ c ≤ 65534 - s ∧ -1 ≤ n ∧ n < 65534)
def nx (n : Int) : Nat := if 0 ≤ n then n.toNat else 65535
def sSum (x : Nat) : Nat := sum6 65535 ((oct x).take 6)
def sEnc (s c n : Int) : Nat := word1 s.toNat c.toNat (nx n) + 281474976710656 * sSum (word1 s.toNat c.toNat (nx n))
theorem sSum_lt (x : Nat) : sSum x < 65536 := sum6_lt _ _ (by decide) fun y hy => oct_lt x y (List.mem_of_mem_take hy)

theorem may_ (s c n : Int) (w : World) : Calls Tryz.prog 124 #[.agg #[.int .i64 s, .int .i64 c, .int .i64 n]] w fun e w' => e = .returned (.bool (sMay s c n)) ∧ Below w.heap.size w w' := by
  have hu := Tryz.underlying88
  by_cases h : sMay s c n = true
  · rw [h]
    obtain ⟨h1, h2, h3, h4, h5, h6⟩ := of_decide_eq_true h
    clear h
    have q : wrap64 (65534 - s) = 65534 - s := w64 _ (by omega) (by omega)
    go_enter Tryz.func124, Tryz.ntmps124
    go_wp2
    go_ret
    exact ⟨rfl, bl_alloc (Below.refl _ _) _⟩
  · have hf : sMay s c n = false := by simpa using h
    rw [hf]
    rcases (by have := of_decide_eq_false hf; omega : s < 0 ∨ (0 ≤ s ∧ 65534 ≤ s) ∨ (0 ≤ s ∧ s < 65534 ∧ c < 1) ∨ (0 ≤ s ∧ s < 65534 ∧ 1 ≤ c ∧ 65534 - s < c) ∨ (0 ≤ s ∧ s < 65534 ∧ 1 ≤ c ∧ c ≤ 65534 - s ∧ n < -1) ∨ (0 ≤ s ∧ s < 65534 ∧ 1 ≤ c ∧ c ≤ 65534 - s ∧ -1 ≤ n ∧ 65534 ≤ n)) with h1 | ⟨h1, h2⟩ | ⟨h1, h2, h3⟩ | ⟨h1, h2, h3, h4⟩ | ⟨h1, h2, h3, h4, h5⟩ | ⟨h1, h2, h3, h4, h5, h6⟩
    all_goals
      clear h hf
      try have q : wrap64 (65534 - s) = 65534 - s := w64 _ (by omega) (by omega)
      try have q2 : decide (n < 65534) = false := decide_eq_false (by omega)
      go_enter Tryz.func124, Tryz.ntmps124
      go_wp2
      go_ret
      exact ⟨rfl, bl_alloc (Below.refl _ _) _⟩

/-- fields of one's own row -/
def fvs (l : List (Nat × Nat)) : List Value := l.flatMap fun p => [Value.int .i64 p.1, Value.int .u64 p.2]
theorem own_fs {W : World} {B T n c : Nat} {A : Option Addr} {l : List (Nat × Nat)} (h : W.ownsRow B T 2 (.slice A n c) n (fvs l)) (ho : ∀ p ∈ l, FOk p.1 p.2) (hl : l ≠ []) : FsAt W A l := by
  have key : ∀ (l : List (Nat × Nat)) (i : Nat) p, l[i]? = some p → (fvs l)[i * 2]? = some (.int .i64 p.1) ∧ (fvs l)[i * 2 + 1]? = some (.int .u64 p.2) := by
    intro l
    induction l with
    | nil => intro i p h; simp at h
    | cons a l ih =>
      intro i p h
      cases i with
      | zero => simp at h; subst h; simp [fvs]
      | succ i =>
        rw [List.getElem?_cons_succ] at h
        obtain ⟨h1, h2⟩ := ih i p h
        unfold fvs at h1 h2 ⊢
        rw [List.flatMap_cons]
        rw [show (i + 1) * 2 = i * 2 + 2 from by omega, show i * 2 + 2 + 1 = (i * 2 + 1) + 2 from by omega]
        simp only [List.cons_append, List.nil_append, List.getElem?_cons_succ]
        exact ⟨h1, h2⟩
  intro i p hi
  obtain ⟨k1, k2⟩ := key l i p hi
  refine ⟨ho p (List.mem_of_getElem? hi), ?_⟩
  obtain ⟨h1, ⟨h2, h3⟩ | ⟨g, cap, cur, hv, hg, hb, hn, hm, hs, ht⟩⟩ := h
  · exfalso
    subst h3
    cases l with
    | nil => exact hl rfl
    | cons a l => simp [fvs] at h1
  · simp only [Value.slice.injEq, true_and] at hv
    obtain ⟨rfl, rfl⟩ := hv
    refine ⟨g, 0, rfl, lt_of hb, ?_, ?_⟩
    · rw [cell_of hb, Nat.zero_add]
      rw [← ht, List.getElem?_take] at k1
      split at k1
      · simpa using k1
      · cases k1
    · rw [cell_of hb, Nat.zero_add]
      rw [← ht, List.getElem?_take] at k2
      split at k2
      · simpa using k2
      · cases k2

theorem encode_no (s c n : Int) (h : sMay s c n = false) (w : World) :
    Calls Tryz.prog 96 #[.agg #[.int .i64 s, .int .i64 c, .int .i64 n]] w fun e w' => e = .returned (.tuple #[.int .u64 0, .int .i64 1]) ∧ Below w.heap.size w w' := by
  have hu := Tryz.underlying88
  have hm := may_ s c n
  rw [h] at hm
  have HM := Lib.hid hm
  clear h hm
  go_enter Tryz.func96, Tryz.ntmps96
  go_wp2_with (go_at_call 124; refine (HM.out _).mono ?_; rintro e w1 ⟨rfl, hb⟩; (have HB := Lib.hid hb); clear hb)
  go_ret2
  exact ⟨rfl, bl_then (bl_alloc (Below.refl _ _) _) HB.out⟩

theorem two_at (w : World) (u v : Value) (T : TypeId) : ∀ (j : Nat) z, [u, v][j]? = some z → (w.alloc (.cells #[u, v] T)).cell? ((⟨w.heap.size, 0, none⟩ : Addr).add j) = some z := by
  intro j z hj
  rw [Addr.add_lit, cell_of (alloc_new w _), Nat.zero_add]
  simpa using hj
theorem info_f : (Tryz.prog.info? 163).map (fun i => (i.zero, i.size, i.bytes)) = some (some (.agg #[.int .i64 0, .int .u64 0]), 2, 16) := by kernel_rfl

theorem encode_nat (a b : Nat) (n : Int) (k : Nat) (hk : k = nx n) (h : sMay a b n = true) (w : World) :
    Calls Tryz.prog 96 #[.agg #[.int .i64 a, .int .i64 b, .int .i64 n]] w fun e w' => e = .returned (.tuple #[.int .u64 (word1 a b k + 281474976710656 * sSum (word1 a b k) : Nat), .int .i64 0]) ∧ Below w.heap.size w w' := by
  have hu := Tryz.underlying88
  have huf := Tryz.underlying163
  have hmay := may_ a b n
  rw [h] at hmay
  have HM := Lib.hid hmay
  obtain ⟨h1, h2, h3, h4, h5, h6⟩ := of_decide_eq_true h
  have ha : a < 65536 := by omega
  have hb : b < 65536 := by omega
  have hc : k < 65536 := by rw [hk]; unfold nx; split <;> omega
  have q1 : IntKind.u64.wrap (a : Int) = a := wu64 _ (by omega) (by omega)
  have q2 : IntKind.u64.wrap (b : Int) = b := wu64 _ (by omega) (by omega)
  have q3 : IntKind.u64.wrap (k : Int) = k := wu64 _ (by omega) (by omega)
  have HF := Lib.hid (And.intro (f16 ha) (And.intro (f16 hb) (f16 hc)))
  have hw1 : word1 a b k < 18446744073709551616 := by unfold word1; omega
  have hpv : pv [(16, a), (16, b), (16, k)] = word1 a b k := by simp [pv, word1]; omega
  generalize hx : word1 a b k = x at *
  have hs6 : sSum x < 65536 := sSum_lt x
  have hpv4 : pv [(16, a), (16, b), (16, k), (16, sSum x)] = x + 281474976710656 * sSum x := by rw [← hpv]; simp [pv]; omega
  have hsi : (sum6 65535 (allOf [⟨none, 0, (oct x).take 6⟩]) : Nat) = sSum x := by simp [allOf, sSum]
  have HPV := Lib.hid (And.intro hpv hpv4)
  have hn : (0 ≤ n ∧ n = (k : Int)) ∨ (n < 0 ∧ k = 65535) := by rw [hk]; unfold nx; split <;> omega
  have q4 : IntKind.u64.wrap (sSum x : Int) = sSum x := wu64 _ (by omega) (by omega)
  clear h hmay h1 h2 h3 h4 h5 h6 hpv hpv4 hk hsi
  generalize hss : sSum x = y at *
  rcases hn with ⟨hn, hn2⟩ | ⟨hn, hn2⟩
  · subst hn2
    have HSS := Lib.hid hss
    have HX := Lib.hid hx
    clear hss hx
    go_enter Tryz.func96, Tryz.ntmps96
    go_wp2_with (go_at_call 124; refine (HM.out _).mono ?_; rintro e w1 ⟨rfl, hb⟩; (obtain ⟨hc, hf⟩ := bcell hb); (have hz := hb.size); simp only [World.size_alloc] at hz; (have hz1 : w.heap.size < w1.heap.size := by omega); (have HB := Lib.hid hb); clear hb hf hz)
    have hfs : FsAt (w1.alloc (.cells #[.int .i64 16, .int .u64 a, .int .i64 16, .int .u64 b, .int .i64 16, .int .u64 k] 163)) (some ⟨w1.heap.size, 0, none⟩) [(16, a), (16, b), (16, k)] := by
      refine fields_at (T := 163) (fr := (0, 0)) (alloc_new _ _) ?_
      intro p hp
      simp only [List.mem_cons, List.not_mem_nil, or_false] at hp
      rcases hp with rfl | rfl | rfl
      · exact HF.out.1
      · exact HF.out.2.1
      · exact HF.out.2.2
    have hpk := pack_ hfs 3 (by simp [wid]) (by simp)
    rw [HPV.out.1] at hpk
    refine (show Calls _ _ #[.slice (some ⟨w1.heap.size, 0, none⟩) 3 3] _ _ from hpk).mono ?_
    clear hfs hpk hc
    rintro e w2 ⟨rfl, hb2⟩
    have hz2 := hb2.size
    simp only [World.size_alloc] at hz2
    have hz3 : w1.heap.size < w2.heap.size := by omega
    have hrow : w2.ownsRow w.heap.size 163 2 (.slice (some ⟨w1.heap.size, 0, none⟩) 3 3) 3 (fvs [(16, a), (16, b), (16, k)]) :=
      ⟨rfl, .inr ⟨w1.heap.size, 3, _, rfl, by omega, blk_bl (alloc_new w1 _) hb2, by omega, by unfold maxLen; omega, rfl, rfl⟩⟩
    have HROW := Lib.hid hrow
    have HB2 := Lib.hid (bl_then (bl_alloc (bl_then (bl_alloc (Below.refl _ _) _) HB.out) _) hb2)
    clear hb2 hz2 hrow
    go_wp2_with fail
    have hone : Rk .u64 (w2.alloc (.cells #[.int .u64 x] 60)) (some ⟨w2.heap.size, 0, none⟩) (ints [x]) := by
      refine blk_rk (alloc_new w2 (.cells #[.int .u64 x] 60)) fun i z hz => ?_
      match i with
      | 0 => simpa [ints] using hz
      | i + 1 => simp [ints] at hz
    refine (bytes_ hone (by intro z hz; simp at hz; subst hz; exact hw1) 1 (by simp)).mono ?_
    rintro e w3 ⟨v3, rfl, hown3, hb3⟩
    obtain ⟨A3, c3, rfl⟩ := own_slice hown3
    obtain ⟨hrk3, -, hc3⟩ := own_rk hown3
    have hb3' : Below w2.heap.size w2 w3 := bl_then (bl_alloc (Below.refl _ _) _) hb3
    obtain ⟨q3a, rfl, -, -⟩ := own_at (i := 0) (x := ((x % 256 : Nat) : Int)) hown3 (by simp [ints, octs, oct])
    have HROW3 := Lib.hid (own_bl HROW.out hb3')
    have HB3 := Lib.hid (bl_then HB2.out hb3')
    have hz4 := hb3'.size
    have hrk6 : Rk .u8 w3 (some ⟨q3a, 0, none⟩) (ints ((oct x).take 6)) := by
      have := hrk3.take 6
      rw [← ints_take, show octs [x] = oct x from by simp [octs]] at this
      exact this
    have HRK := Lib.hid hrk6
    replace hc3 : 8 ≤ c3 := hc3
    have hc4 : ¬ ((c3 : Int) < 6) := by omega
    clear hone hown3 hb3 hb3' hrk3 hrk6
    go_wp2_with fail
    have hps : PsAt (w3.alloc (.cells #[.slice (some ⟨q3a, 0, none⟩) 6 c3] 95)) (some ⟨w3.heap.size, 0, none⟩) [⟨some ⟨q3a, 0, none⟩, c3, (oct x).take 6⟩] := by
      intro i p hp
      match i with
      | 0 =>
        simp at hp
        subst hp
        exact ⟨⟨HRK.out.below (bl_alloc (Below.refl _ _) _), fun z hz => oct_lt x z (List.mem_of_mem_take hz), by simp [oct]⟩, _, rfl, one_at _ _ _ 0 _ rfl⟩
      | i + 1 => simp at hp
    have hsum := sum16_ hps 1 (by simp)
    rw [show allOf [(⟨some ⟨q3a, 0, none⟩, c3, (oct x).take 6⟩ : Part)] = (oct x).take 6 from by simp [allOf], show (sum6 65535 ((oct x).take 6)) = y from HSS.out] at hsum
    have HSM := Lib.hid hsum
    clear hps hsum
    refine HSM.out.mono ?_
    rintro e w4 ⟨rfl, hw4⟩
    have HB4 : Hid (Below w.heap.size w w4) := by rw [← hw4]; exact bl_alloc HB3.out _
    have HROW4 : Hid (w4.ownsRow w.heap.size 163 2 (.slice (some ⟨w1.heap.size, 0, none⟩) 3 3) 3 (fvs [(16, a), (16, b), (16, k)])) := by
      rw [← hw4]; exact own_bl HROW3.out (bl_alloc (Below.refl _ _) _)
    clear hw4 HSM HROW3 HROW HRK
    have HOW := Lib.hid (fun o => own_kp (W' := w4.alloc o) HROW4.out (fun k _ hk => Below.heap_alloc _ _ k hk))
    obtain ⟨i0, hinf, hz0, hz1, hz2⟩ := info_parts info_f
    go_wp2_with (at_builtin; refine wpList_append_own _ rfl (.tmp 41) (.tmp 45) 180 rfl w.heap.size 163 i0 (.agg #[.int .i64 0, .int .u64 0]) 2 16 Tryz.underlying180 hinf hz0 hz1 hz2 rfl (by decide) _ 3 _ rfl (HOW.out _) ⟨w4.heap.size, 0, none⟩ 1 1 [.int .i64 16, .int .u64 y] rfl rfl (two_at _ _ _ _) (by intro u hu; simp at hu; rcases hu with rfl | rfl <;> rfl) (by unfold maxLen; omega) (by omega) (by have h1 := HB4.out.size; simp; omega) ?_; intro v5 w5 hown5 hgrow5 _; (obtain ⟨A5, c5, rfl⟩ := own_slice hown5); (have HO := Lib.hid hown5); (have HG := Lib.hid hgrow5); clear hown5 hgrow5)
    have hfs4 : FsAt w5 A5 [(16, a), (16, b), (16, k), (16, y)] := by
      refine own_fs (l := [(16, a), (16, b), (16, k), (16, y)]) HO.out ?_ (by simp)
      intro p hp
      simp only [List.mem_cons, List.not_mem_nil, or_false] at hp
      rcases hp with rfl | rfl | rfl | rfl
      · exact HF.out.1
      · exact HF.out.2.1
      · exact HF.out.2.2
      · exact f16 hs6
    have hpk4 := pack_ hfs4 c5 (by simp [wid]) (by simp)
    rw [HPV.out.2] at hpk4
    refine (show Calls _ _ #[.slice A5 4 c5] _ _ from hpk4).mono ?_
    rintro e w6 ⟨rfl, hb6⟩
    have HB6 := Lib.hid (bl_then (bl_grown (bl_alloc HB4.out _) HG.out (own_lo HROW4.out)) hb6)
    clear hfs4 hpk4 hb6
    go_wp2_with fail
    go_ret2
    exact ⟨rfl, HB6.out⟩
  · subst hn2
    have HSS := Lib.hid hss
    have HX := Lib.hid hx
    clear hss hx
    go_enter Tryz.func96, Tryz.ntmps96
    go_wp2_with (go_at_call 124; refine (HM.out _).mono ?_; rintro e w1 ⟨rfl, hb⟩; (obtain ⟨hc, hf⟩ := bcell hb); (have hz := hb.size); simp only [World.size_alloc] at hz; (have hz1 : w.heap.size < w1.heap.size := by omega); (have HB := Lib.hid hb); clear hb hf hz)
    have hfs : FsAt (w1.alloc (.cells #[.int .i64 16, .int .u64 a, .int .i64 16, .int .u64 b, .int .i64 16, .int .u64 65535] 163)) (some ⟨w1.heap.size, 0, none⟩) [(16, a), (16, b), (16, 65535)] := by
      refine fields_at (T := 163) (fr := (0, 0)) (alloc_new _ _) ?_
      intro p hp
      simp only [List.mem_cons, List.not_mem_nil, or_false] at hp
      rcases hp with rfl | rfl | rfl
      · exact HF.out.1
      · exact HF.out.2.1
      · exact HF.out.2.2
    have hpk := pack_ hfs 3 (by simp [wid]) (by simp)
    rw [HPV.out.1] at hpk
    refine (show Calls _ _ #[.slice (some ⟨w1.heap.size, 0, none⟩) 3 3] _ _ from hpk).mono ?_
    clear hfs hpk hc
    rintro e w2 ⟨rfl, hb2⟩
    have hz2 := hb2.size
    simp only [World.size_alloc] at hz2
    have hz3 : w1.heap.size < w2.heap.size := by omega
    have hrow : w2.ownsRow w.heap.size 163 2 (.slice (some ⟨w1.heap.size, 0, none⟩) 3 3) 3 (fvs [(16, a), (16, b), (16, 65535)]) :=
      ⟨rfl, .inr ⟨w1.heap.size, 3, _, rfl, by omega, blk_bl (alloc_new w1 _) hb2, by omega, by unfold maxLen; omega, rfl, rfl⟩⟩
    have HROW := Lib.hid hrow
    have HB2 := Lib.hid (bl_then (bl_alloc (bl_then (bl_alloc (Below.refl _ _) _) HB.out) _) hb2)
    clear hb2 hz2 hrow
    go_wp2_with fail
    have hone : Rk .u64 (w2.alloc (.cells #[.int .u64 x] 60)) (some ⟨w2.heap.size, 0, none⟩) (ints [x]) := by
      refine blk_rk (alloc_new w2 (.cells #[.int .u64 x] 60)) fun i z hz => ?_
      match i with
      | 0 => simpa [ints] using hz
      | i + 1 => simp [ints] at hz
    refine (bytes_ hone (by intro z hz; simp at hz; subst hz; exact hw1) 1 (by simp)).mono ?_
    rintro e w3 ⟨v3, rfl, hown3, hb3⟩
    obtain ⟨A3, c3, rfl⟩ := own_slice hown3
    obtain ⟨hrk3, -, hc3⟩ := own_rk hown3
    have hb3' : Below w2.heap.size w2 w3 := bl_then (bl_alloc (Below.refl _ _) _) hb3
    obtain ⟨q3a, rfl, -, -⟩ := own_at (i := 0) (x := ((x % 256 : Nat) : Int)) hown3 (by simp [ints, octs, oct])
    have HROW3 := Lib.hid (own_bl HROW.out hb3')
    have HB3 := Lib.hid (bl_then HB2.out hb3')
    have hz4 := hb3'.size
    have hrk6 : Rk .u8 w3 (some ⟨q3a, 0, none⟩) (ints ((oct x).take 6)) := by
      have := hrk3.take 6
      rw [← ints_take, show octs [x] = oct x from by simp [octs]] at this
      exact this
    have HRK := Lib.hid hrk6
    replace hc3 : 8 ≤ c3 := hc3
    have hc4 : ¬ ((c3 : Int) < 6) := by omega
    clear hone hown3 hb3 hb3' hrk3 hrk6
    go_wp2_with fail
    have hps : PsAt (w3.alloc (.cells #[.slice (some ⟨q3a, 0, none⟩) 6 c3] 95)) (some ⟨w3.heap.size, 0, none⟩) [⟨some ⟨q3a, 0, none⟩, c3, (oct x).take 6⟩] := by
      intro i p hp
      match i with
      | 0 =>
        simp at hp
        subst hp
        exact ⟨⟨HRK.out.below (bl_alloc (Below.refl _ _) _), fun z hz => oct_lt x z (List.mem_of_mem_take hz), by simp [oct]⟩, _, rfl, one_at _ _ _ 0 _ rfl⟩
      | i + 1 => simp at hp
    have hsum := sum16_ hps 1 (by simp)
    rw [show allOf [(⟨some ⟨q3a, 0, none⟩, c3, (oct x).take 6⟩ : Part)] = (oct x).take 6 from by simp [allOf], show (sum6 65535 ((oct x).take 6)) = y from HSS.out] at hsum
    have HSM := Lib.hid hsum
    clear hps hsum
    refine HSM.out.mono ?_
    rintro e w4 ⟨rfl, hw4⟩
    have HB4 : Hid (Below w.heap.size w w4) := by rw [← hw4]; exact bl_alloc HB3.out _
    have HROW4 : Hid (w4.ownsRow w.heap.size 163 2 (.slice (some ⟨w1.heap.size, 0, none⟩) 3 3) 3 (fvs [(16, a), (16, b), (16, 65535)])) := by
      rw [← hw4]; exact own_bl HROW3.out (bl_alloc (Below.refl _ _) _)
    clear hw4 HSM HROW3 HROW HRK
    have HOW := Lib.hid (fun o => own_kp (W' := w4.alloc o) HROW4.out (fun k _ hk => Below.heap_alloc _ _ k hk))
    obtain ⟨i0, hinf, hz0, hz1, hz2⟩ := info_parts info_f
    go_wp2_with (at_builtin; refine wpList_append_own _ rfl (.tmp 41) (.tmp 45) 180 rfl w.heap.size 163 i0 (.agg #[.int .i64 0, .int .u64 0]) 2 16 Tryz.underlying180 hinf hz0 hz1 hz2 rfl (by decide) _ 3 _ rfl (HOW.out _) ⟨w4.heap.size, 0, none⟩ 1 1 [.int .i64 16, .int .u64 y] rfl rfl (two_at _ _ _ _) (by intro u hu; simp at hu; rcases hu with rfl | rfl <;> rfl) (by unfold maxLen; omega) (by omega) (by have h1 := HB4.out.size; simp; omega) ?_; intro v5 w5 hown5 hgrow5 _; (obtain ⟨A5, c5, rfl⟩ := own_slice hown5); (have HO := Lib.hid hown5); (have HG := Lib.hid hgrow5); clear hown5 hgrow5)
    have hfs4 : FsAt w5 A5 [(16, a), (16, b), (16, 65535), (16, y)] := by
      refine own_fs (l := [(16, a), (16, b), (16, 65535), (16, y)]) HO.out ?_ (by simp)
      intro p hp
      simp only [List.mem_cons, List.not_mem_nil, or_false] at hp
      rcases hp with rfl | rfl | rfl | rfl
      · exact HF.out.1
      · exact HF.out.2.1
      · exact HF.out.2.2
      · exact f16 hs6
    have hpk4 := pack_ hfs4 c5 (by simp [wid]) (by simp)
    rw [HPV.out.2] at hpk4
    refine (show Calls _ _ #[.slice A5 4 c5] _ _ from hpk4).mono ?_
    rintro e w6 ⟨rfl, hb6⟩
    have HB6 := Lib.hid (bl_then (bl_grown (bl_alloc HB4.out _) HG.out (own_lo HROW4.out)) hb6)
    clear hfs4 hpk4 hb6
    go_wp2_with fail
    go_ret2
    exact ⟨rfl, HB6.out⟩

theorem encode_yes (s c n : Int) (h : sMay s c n = true) (w : World) :
    Calls Tryz.prog 96 #[.agg #[.int .i64 s, .int .i64 c, .int .i64 n]] w fun e w' => e = .returned (.tuple #[.int .u64 (sEnc s c n : Nat), .int .i64 0]) ∧ Below w.heap.size w w' := by
  obtain ⟨h1, h2, h3, h4, h5, h6⟩ := of_decide_eq_true h
  obtain ⟨a, rfl⟩ := Int.eq_ofNat_of_zero_le h1
  obtain ⟨b, rfl⟩ := Int.eq_ofNat_of_zero_le (a := c) (by omega)
  exact encode_nat a b n _ rfl h w

end Go.Proofs.YtichcdoijieddaaGreat.Lo
end

/- The seventh chapter's example. -/
section
set_option linter.unusedVariables false
set_option linter.unusedSimpArgs false
set_option maxHeartbeats 2000000
set_option maxRecDepth 100000
namespace Go.Proofs.YtichcdoijieddaaGreat.Li
open Go Go.RowKit
open Go.Proofs.YtichcdoijieddaaGreat.Ob Go.Proofs.YtichcdoijieddaaGreat.Ba Go.Proofs.YtichcdoijieddaaGreat.Oc

theorem lives07 (w : World) : Calls Tryz.prog 48 #[] w fun e w' => e = .returned (.bool true) ∧ Below w.heap.size w w' := by
  have HE := Lib.hid (Lo.encode_yes 1 2 3 (by decide) w)
  have hx : bits .and .u64 ((Lo.sEnc 1 2 3 : Nat) : Int) 281474976710655 = 12885032961 := by decide
  generalize Lo.sEnc 1 2 3 = x at *
  go_enter Tryz.func48, Tryz.ntmps48
  go_wp2_with (first | (go_at_call 96; refine HE.out.mono ?_; rintro e w1 ⟨rfl, hb1⟩; (have HB1 := Lib.hid hb1); clear hb1) |
    (go_at_call 93; refine (lives02 _).mono ?_; rintro e w2 ⟨rfl, hb2⟩; (have HB2 := Lib.hid hb2); clear hb2) |
    (go_at_call 94; refine (lives03 _).mono ?_; rintro e w3 ⟨rfl, hb3⟩; (have HB3 := Lib.hid hb3); clear hb3))
  go_ret
  exact ⟨rfl, bl_then (bl_then HB1.out HB2.out) HB3.out⟩

end Go.Proofs.YtichcdoijieddaaGreat.Li
end

/- package record: numbers of 16 bits each in a word. -/
section
set_option linter.unusedVariables false
set_option linter.unusedSimpArgs false
set_option maxHeartbeats 2000000
set_option maxRecDepth 100000
namespace Go.Proofs.YtichcdoijieddaaGreat.Rj
open Go Go.RowKit
open Go.Proofs.YtichcdoijieddaaGreat.Ob Go.Proofs.YtichcdoijieddaaGreat.Ba Go.Proofs.YtichcdoijieddaaGreat.Oc Go.Proofs.YtichcdoijieddaaGreat.Pk Go.Proofs.YtichcdoijieddaaGreat.Su Go.Proofs.YtichcdoijieddaaGreat.Cc Go.Proofs.YtichcdoijieddaaGreat.Cr

/-- fields' cells -/
def fvs (l : List Nat) : List Value := l.flatMap fun (v : Nat) => [Value.int .i64 16, Value.int .u64 (v : Int)]
theorem fvs_len (l : List Nat) : (fvs l).length = l.length * 2 := by
  induction l with
  | nil => rfl
  | cons a l ih => simp only [fvs, List.flatMap_cons, List.length_append, List.length_cons, List.length_nil] at ih ⊢; omega
theorem fvs_at : ∀ (l : List Nat) (i : Nat) v, l[i]? = some v → (fvs l)[i * 2]? = some (.int .i64 16) ∧ (fvs l)[i * 2 + 1]? = some (.int .u64 v)
  | [], i, v, h => by simp at h
  | a :: l, 0, v, h => by simp at h; subst h; simp [fvs]
  | a :: l, i + 1, v, h => by
    rw [List.getElem?_cons_succ] at h
    obtain ⟨h1, h2⟩ := fvs_at l i v h
    have e : fvs (a :: l) = [Value.int .i64 16, Value.int .u64 a] ++ fvs l := rfl
    rw [e]
    rw [List.getElem?_append_right (by simp; omega), List.getElem?_append_right (by simp; omega)]
    rw [show (i + 1) * 2 - ([Value.int .i64 16, Value.int .u64 (a : Int)]).length = i * 2 from by simp; omega, show (i + 1) * 2 + 1 - ([Value.int .i64 16, Value.int .u64 (a : Int)]).length = i * 2 + 1 from by simp; omega]
    exact ⟨h1, h2⟩

def f16s (l : List Nat) : List (Nat × Nat) := l.map fun v => (16, v)

theorem own_fs {W : World} {B T n c : Nat} {A : Option Addr} {l : List Nat} (h : W.ownsRow B T 2 (.slice A n c) n (fvs l)) (ho : ∀ v ∈ l, v < 65536) : FsAt W A (f16s l) := by
  intro i p hp
  simp only [f16s, List.getElem?_map, Option.map_eq_some_iff] at hp
  obtain ⟨v, hv, rfl⟩ := hp
  obtain ⟨k1, k2⟩ := fvs_at l i v hv
  refine ⟨f16 (ho v (List.mem_of_getElem? hv)), ?_⟩
  obtain ⟨h1, ⟨h2, h3⟩ | ⟨g, cap, cur, hvv, hg, hb, hn, hm, hs, ht⟩⟩ := h
  · subst h3; rw [List.getElem?_eq_none (by omega)] at k1; cases k1
  · simp only [Value.slice.injEq, true_and] at hvv
    obtain ⟨rfl, rfl⟩ := hvv
    refine ⟨g, 0, rfl, lt_of hb, ?_, ?_⟩
    · rw [cell_of hb, Nat.zero_add]
      rw [← ht, List.getElem?_take] at k1
      split at k1
      · simpa using k1
      · cases k1
    · rw [cell_of hb, Nat.zero_add]
      rw [← ht, List.getElem?_take] at k2
      split at k2
      · simpa using k2
      · cases k2

theorem two_at (w : World) (u v : Value) (T : TypeId) : ∀ (j : Nat) x, [u, v][j]? = some x → (w.alloc (.cells #[u, v] T)).cell? ((⟨w.heap.size, 0, none⟩ : Addr).add j) = some x := by
  intro j x hj
  match j, hj with
  | 0, hj => simp at hj; subst hj; simp [Addr.add]
  | 1, hj => simp at hj; subst hj; simp [Addr.add]

theorem fields_ {w : World} {A : Option Addr} {l : List Nat} (h : Rk .i64 w A (ints l)) (hl : ∀ v ∈ l, v < 65536) (c : Nat) (hn : l.length ≤ 4) :
    Calls Tryz.prog 109 #[.slice A l.length c] w fun e w' => e = .returned (.int .u64 (pv (f16s l) : Nat)) ∧ Below w.heap.size w w' := by
  have hu := Tryz.underlying163
  have H := Lib.hid h
  have HL := Lib.hid hl
  obtain ⟨n, hnn⟩ : ∃ n, n = l.length := ⟨_, rfl⟩
  rw [← hnn]
  rw [← hnn] at hn
  have HN := Lib.hid hnn
  clear h hl hnn
  obtain ⟨i0, hinf, hz0, hz1, hz2⟩ := info_parts (show (Tryz.prog.info? 163).map (fun i => (i.zero, i.size, i.bytes)) = some (some (.agg #[.int .i64 0, .int .u64 0]), 2, 16) by kernel_rfl)
  go_enter Tryz.func109, Tryz.ntmps109
  go_wp2_with fail
  go_loopw [10, 3] (fun c10 c3 wr => ∃ i : Nat, i ≤ n ∧ c10 = .int .i64 i ∧ Hid (Below w.heap.size w wr ∧ wr.ownsRow w.heap.size 163 2 c3 i (fvs (l.take i)))) (fun c10 _ _ => n - (intOf c10).toNat)
  case atStart => exact ⟨0, Nat.zero_le _, rfl, Below.refl _ _, own_nil0 _ _ _ _⟩
  case round =>
    obtain ⟨i, hi, rfl, HR⟩ := hrel
    by_cases hlt : i < n
    · obtain ⟨x, hx⟩ := some_at (l := l) (i := i) (by rw [← HN.out]; exact hlt)
      obtain ⟨a, rfl, -, ha⟩ := (H.out.below HR.out.1) i x (ints_get hx)
      have hx16 : x < 65536 := HL.out x (List.mem_of_getElem? hx)
      have HX := Lib.hid hx
      have HOW := Lib.hid (fun o => own_kp (W' := wr.alloc o) HR.out.2 (fun k _ hk => Below.heap_alloc _ _ k hk))
      clear hx
      go_wp2_with (at_builtin; refine wpList_append_own _ rfl (.tmp 14) (.tmp 18) 180 rfl w.heap.size 163 i0 (.agg #[.int .i64 0, .int .u64 0]) 2 16 Tryz.underlying180 hinf hz0 hz1 hz2 rfl (by decide) _ i _ rfl (HOW.out _) ⟨wr.heap.size, 0, none⟩ 1 1 [.int .i64 16, .int .u64 x] rfl rfl (two_at _ _ _ _) (by intro u hu; simp at hu; rcases hu with rfl | rfl <;> rfl) (by unfold maxLen; omega) (by omega) (by have h1 := HR.out.1.size; simp; omega) ?_; intro v' w7 hown' hgrow _; (have HO := Lib.hid hown'); (have HG := Lib.hid hgrow); clear hown' hgrow)
      have hx1 : Below w.heap.size w w7 := bl_grown (bl_alloc HR.out.1 _) HG.out (own_lo HR.out.2)
      have hx2 : w7.ownsRow w.heap.size 163 2 v' (i + 1) (fvs (l.take (i + 1))) := by
        rw [take_next HX.out]
        have e : fvs (l.take i ++ [x]) = fvs (l.take i) ++ [.int .i64 16, .int .u64 x] := by rw [fvs, List.flatMap_append]; rfl
        rw [e]
        exact HO.out
      have HZ := Lib.hid (And.intro hx1 hx2)
      clear hx1 hx2
      go_roundw
      case rel => exact ⟨i + 1, by omega, by go_num, HZ.out⟩
      case measure => simp [intOf]; omega
    · obtain rfl : i = n := by omega
      have h2 := HR.out.2
      rw [List.take_of_length_le (by rw [← HN.out]; omega)] at h2
      obtain ⟨A3, c3, rfl⟩ := own_slice h2
      have hpk := pack_ (own_fs h2 HL.out) c3 (by
        have : ∀ l : List Nat, wid (f16s l) = 16 * l.length := by
          intro l
          induction l with
          | nil => rfl
          | cons a l ih => simp only [wid, f16s, List.map_cons, List.sum_cons, List.length_cons] at ih ⊢; omega
        rw [this, ← HN.out]; omega) (by simp only [f16s, List.length_map]; rw [← HN.out]; omega)
      rw [show (f16s l).length = i from by simp only [f16s, List.length_map]; exact HN.out.symm] at hpk
      have HPK := Lib.hid hpk
      clear h2 hpk
      generalize wr = wA at *
      go_wp2_with fail
      refine HPK.out.mono ?_
      rintro e w5 ⟨rfl, hb5⟩
      have HB5 := Lib.hid hb5
      clear hb5
      go_wp2_with fail
      go_ret
      exact ⟨rfl, bl_then HR.out.1 HB5.out⟩

end Go.Proofs.YtichcdoijieddaaGreat.Rj
end

/- package record: what may be, and its line. -/
section
set_option linter.unusedVariables false
set_option linter.unusedSimpArgs false
set_option maxHeartbeats 2000000
set_option maxRecDepth 100000
namespace Go.Proofs.YtichcdoijieddaaGreat.Rj
open Go Go.RowKit
open Go.Proofs.YtichcdoijieddaaGreat.Ob Go.Proofs.YtichcdoijieddaaGreat.Ba Go.Proofs.YtichcdoijieddaaGreat.Oc Go.Proofs.YtichcdoijieddaaGreat.Pk Go.Proofs.YtichcdoijieddaaGreat.Su Go.Proofs.YtichcdoijieddaaGreat.Cc Go.Proofs.YtichcdoijieddaaGreat.Cr

def bOk (b : Int) : Prop := 0 ≤ b ∧ b < 65534
instance (b : Int) : Decidable (bOk b) := inferInstanceAs (Decidable (_ ∧ _))

theorem block_ (b : Int) (w : World) : Calls Tryz.prog 133 #[.int .i64 b] w fun e w' => e = .returned (.bool (decide (bOk b))) ∧ Below w.heap.size w w' := by
  obtain ⟨r, hr⟩ : ∃ r, r = decide (bOk b) := ⟨_, rfl⟩
  rw [← hr]
  have HR := Lib.hid hr
  clear hr
  have fin : ∀ (W : World) (v : Bool), v = r → Below w.heap.size w W → (Ending.returned (.bool v) = .returned (.bool r) ∧ Below w.heap.size w W) := fun W v h hb => ⟨by rw [h], hb⟩
  go_enter Tryz.func133, Tryz.ntmps133
  by_cases h1 : 0 ≤ b
  · by_cases h2 : b < 65534
    · have hv : true = r := by rw [HR.out]; exact (decide_eq_true ⟨h1, h2⟩).symm
      have HV := Lib.hid hv
      clear hv
      go_wp2
      go_ret
      exact fin _ _ HV.out (Below.refl _ _)
    · have hv : false = r := by rw [HR.out]; exact (decide_eq_false (fun h => h2 h.2)).symm
      have HV := Lib.hid hv
      clear hv
      go_wp2
      go_ret
      exact fin _ _ HV.out (Below.refl _ _)
  · have hv : false = r := by rw [HR.out]; exact (decide_eq_false (fun h => h1 h.1)).symm
    have HV := Lib.hid hv
    clear hv
    go_wp2
    go_ret
    exact fin _ _ HV.out (Below.refl _ _)

def rOk (s f t n : Int) : Prop := bOk s ∧ bOk f ∧ bOk t ∧ 1 ≤ n ∧ n ≤ 65534
instance (s f t n : Int) : Decidable (rOk s f t n) := inferInstanceAs (Decidable (_ ∧ _))

theorem may_ (s f t n : Int) (w : World) : Calls Tryz.prog 108 #[.agg #[.int .i64 s, .int .i64 f, .int .i64 t, .int .i64 n]] w fun e w' => e = .returned (.bool (decide (rOk s f t n))) ∧ Below w.heap.size w w' := by
  have hu := Tryz.underlying50
  obtain ⟨r, hr⟩ : ∃ r, r = decide (rOk s f t n) := ⟨_, rfl⟩
  obtain ⟨b0, hb0⟩ : ∃ r, r = decide (bOk s) := ⟨_, rfl⟩
  obtain ⟨b1, hb1⟩ : ∃ r, r = decide (bOk f) := ⟨_, rfl⟩
  obtain ⟨b2, hb2⟩ : ∃ r, r = decide (bOk t) := ⟨_, rfl⟩
  have hall : decide (rOk s f t n) = (b0 && (b1 && (b2 && (decide (1 ≤ n) && decide (n ≤ 65534))))) := by
    rw [hb0, hb1, hb2]
    by_cases h1 : bOk s <;> by_cases h2 : bOk f <;> by_cases h3 : bOk t <;> by_cases h4 : 1 ≤ n <;> by_cases h5 : n ≤ 65534 <;> simp only [rOk, h1, h2, h3, h4, h5, and_true, and_false, true_and, false_and, decide_true, decide_false, Bool.and_true, Bool.and_false, Bool.true_and, Bool.false_and]
  rw [← hr]
  have HR := Lib.hid (hr.trans hall)
  have H0 := Lib.hid hb0
  have H1 := Lib.hid hb1
  have H2 := Lib.hid hb2
  clear hr hall hb0 hb1 hb2
  go_enter Tryz.func108, Tryz.ntmps108
  go_wp2_with fail
  refine (block_ _ _).mono ?_
  rw [← H0.out]
  rintro e w1 ⟨rfl, hb1⟩
  have hq := blk_bl (alloc_new w (.cells #[.int .i64 s, .int .i64 f, .int .i64 t, .int .i64 n] 50)) hb1
  have k1 := cell_of hq 1
  have k2 := cell_of hq 2
  have k3 := cell_of hq 3
  have HQ := Lib.hid hq
  have HB1 := Lib.hid (bl_then (bl_alloc (Below.refl _ _) _) hb1)
  clear hq hb1
  have fin : ∀ (W : World) (v : Bool), v = r → Below w.heap.size w W → (Ending.returned (.bool v) = .returned (.bool r) ∧ Below w.heap.size w W) := fun W v h hb => ⟨by rw [h], hb⟩
  cases b0
  · go_wp2_with fail
    go_ret
    exact fin _ _ (by rw [HR.out]; rfl) HB1.out
  go_wp2_with fail
  refine (block_ _ _).mono ?_
  rw [← H1.out]
  rintro e w2 ⟨rfl, hb2⟩
  have hq2 := blk_bl HQ.out hb2
  clear k1 k2 k3
  have k2 := cell_of hq2 2
  have k3 := cell_of hq2 3
  have HQ2 := Lib.hid hq2
  have HB2 := Lib.hid (bl_then HB1.out hb2)
  clear hq2 hb2
  cases b1
  · go_wp2_with fail
    go_ret
    exact fin _ _ (by rw [HR.out]; rfl) HB2.out
  go_wp2_with fail
  refine (block_ _ _).mono ?_
  rw [← H2.out]
  rintro e w3 ⟨rfl, hb3⟩
  have hq3 := blk_bl HQ2.out hb3
  clear k2 k3
  have k3 := cell_of hq3 3
  have HB3 := Lib.hid (bl_then HB2.out hb3)
  clear hq3 hb3
  cases b2
  · go_wp2_with fail
    go_ret
    exact fin _ _ (by rw [HR.out]; rfl) HB3.out
  by_cases h1 : 1 ≤ n
  · by_cases h2 : n ≤ 65534
    · have HV : Hid (true = r) := by show _ = _; rw [HR.out]; simp [h1, h2]
      go_wp2_with fail
      go_ret
      exact fin _ _ HV.out HB3.out
    · have HV : Hid (decide (n ≤ 65534) = r) := by show _ = _; rw [HR.out]; simp [h1]
      go_wp2_with fail
      go_ret
      exact fin _ _ HV.out HB3.out
  · have HV : Hid (false = r) := by show _ = _; rw [HR.out]; simp [h1]
    go_wp2_with fail
    go_ret
    exact fin _ _ HV.out HB3.out

theorem encode_no (s f t n : Int) (h : ¬ rOk s f t n) (w : World) : Calls Tryz.prog 70 #[.agg #[.int .i64 s, .int .i64 f, .int .i64 t, .int .i64 n]] w fun e w' => e = .returned (.tuple #[.slice none 0 0, .int .i64 1]) ∧ Below w.heap.size w w' := by
  have hu := Tryz.underlying50
  have HM : Hid (∀ W, Calls Tryz.prog 108 #[.agg #[.int .i64 s, .int .i64 f, .int .i64 t, .int .i64 n]] W fun e w' => e = .returned (.bool false) ∧ Below W.heap.size W w') := by
    intro W
    have := may_ s f t n W
    rw [decide_eq_false h] at this
    exact this
  clear h
  go_enter Tryz.func70, Tryz.ntmps70
  go_wp2_with fail
  refine (HM.out _).mono ?_
  rintro e w1 ⟨rfl, hb⟩
  have HB := Lib.hid (bl_then (bl_alloc (Below.refl _ _) _) hb)
  clear hb
  go_wp2_with fail
  go_ret2
  exact ⟨rfl, HB.out⟩

/-- the record's box, its line (two words not said yet), all else as it was -/
structure Cx (w : World) (b : Nat) (W : World) : Prop where
  below : Below w.heap.size w W
  lo : w.heap.size < b
  row : ∃ cs, W.heap[b]? = some (.cells cs 60 (0, 0)) ∧ ∀ i, 2 ≤ i → i < 8 → cs[i]? = some (Value.int .u64 0)
theorem cx_set {w W : World} {b : Nat} (h : Cx w b W) (o : Nat) (ho : o < 2) (v : Value) : Cx w b (W.setCell ⟨b, o, none⟩ v) := by
  obtain ⟨h1, h2, cs, h3, h4⟩ := h
  exact ⟨bl_set h1 (by omega) v, h2, _, set_same h3 o v, fun i hi h8 => by rw [Array.getElem?_setIfInBounds_ne (by omega)]; exact h4 i hi h8⟩
theorem cx_below {w W W' : World} {b : Nat} (h : Cx w b W) (hb : Below W.heap.size W W') : Cx w b W' := by
  obtain ⟨h1, h2, cs, h3, h4⟩ := h
  exact ⟨bl_then h1 hb, h2, cs, blk_bl h3 hb, h4⟩
theorem cx_drew {w W : World} {b : Nat} (h : Cx w b W) : Cx w b W.drew := ⟨bl_drew h.below, h.lo, h.row⟩
theorem cx_alloc {w W : World} {b : Nat} (h : Cx w b W) (o : Obj) : Cx w b (W.alloc o) := cx_below h (bl_alloc (Below.refl _ _) o)
theorem cj_of {w W : World} {b : Nat} {s f t n : Int} {T : TypeId} {fr : Nat × Nat} (h : W.heap[w.heap.size]? = some (.cells #[.int .i64 s, .int .i64 f, .int .i64 t, .int .i64 n] T fr)) (hc : Cx w b W) :
    W.cell? ⟨w.heap.size, 0, none⟩ = some (.int .i64 s) ∧ W.cell? ⟨w.heap.size, 1, none⟩ = some (.int .i64 f) ∧ W.cell? ⟨w.heap.size, 2, none⟩ = some (.int .i64 t) ∧ W.cell? ⟨w.heap.size, 3, none⟩ = some (.int .i64 n) ∧ Cx w b W :=
  ⟨by rw [cell_of h]; rfl, by rw [cell_of h]; rfl, by rw [cell_of h]; rfl, by rw [cell_of h]; rfl, hc⟩
theorem cj_drew {w W : World} {b : Nat} {s f t n : Int} (h : W.cell? ⟨w.heap.size, 0, none⟩ = some (.int .i64 s) ∧ W.cell? ⟨w.heap.size, 1, none⟩ = some (.int .i64 f) ∧ W.cell? ⟨w.heap.size, 2, none⟩ = some (.int .i64 t) ∧ W.cell? ⟨w.heap.size, 3, none⟩ = some (.int .i64 n) ∧ Cx w b W) : W.drew.cell? ⟨w.heap.size, 0, none⟩ = some (.int .i64 s) ∧ W.drew.cell? ⟨w.heap.size, 1, none⟩ = some (.int .i64 f) ∧ W.drew.cell? ⟨w.heap.size, 2, none⟩ = some (.int .i64 t) ∧ W.drew.cell? ⟨w.heap.size, 3, none⟩ = some (.int .i64 n) ∧ Cx w b W.drew := ⟨h.1, h.2.1, h.2.2.1, h.2.2.2.1, cx_drew h.2.2.2.2⟩
theorem cj_set {w W : World} {b : Nat} {s f t n : Int} (h : W.cell? ⟨w.heap.size, 0, none⟩ = some (.int .i64 s) ∧ W.cell? ⟨w.heap.size, 1, none⟩ = some (.int .i64 f) ∧ W.cell? ⟨w.heap.size, 2, none⟩ = some (.int .i64 t) ∧ W.cell? ⟨w.heap.size, 3, none⟩ = some (.int .i64 n) ∧ Cx w b W) (o : Nat) (ho : o < 2) (v : Value) :
    (W.setCell ⟨b, o, none⟩ v).cell? ⟨w.heap.size, 0, none⟩ = some (.int .i64 s) ∧ (W.setCell ⟨b, o, none⟩ v).cell? ⟨w.heap.size, 1, none⟩ = some (.int .i64 f) ∧ (W.setCell ⟨b, o, none⟩ v).cell? ⟨w.heap.size, 2, none⟩ = some (.int .i64 t) ∧ (W.setCell ⟨b, o, none⟩ v).cell? ⟨w.heap.size, 3, none⟩ = some (.int .i64 n) ∧ Cx w b (W.setCell ⟨b, o, none⟩ v) := by
  have hc := cx_set h.2.2.2.2 o ho v
  have hlo := h.2.2.2.2.lo
  have hk : ∀ i, (W.setCell ⟨b, o, none⟩ v).cell? ⟨w.heap.size, i, none⟩ = W.cell? ⟨w.heap.size, i, none⟩ := fun i => cell_blk (Below.heap_setCell W _ v w.heap.size (show w.heap.size ≠ b by omega)) i
  exact ⟨by rw [hk]; exact h.1, by rw [hk]; exact h.2.1, by rw [hk]; exact h.2.2.1, by rw [hk]; exact h.2.2.2.1, hc⟩
theorem four_at (s f t : Nat) : ∀ (i : Nat) x, (ints [1, s, f, t])[i]? = some x → (#[Value.int .i64 1, .int .i64 s, .int .i64 f, .int .i64 t] : Array Value)[i]? = some (.int .i64 x) := by
  intro i x h
  match i, h with
  | 0, h => simp [ints] at h; subst h; rfl
  | 1, h => simp [ints] at h; subst h; rfl
  | 2, h => simp [ints] at h; subst h; rfl
  | 3, h => simp [ints] at h; subst h; rfl
  | i + 4, h => simp [ints] at h

theorem encode_yes (s f t n : Nat) (h : rOk s f t n) (w : World) :
    Calls Tryz.prog 70 #[.agg #[.int .i64 s, .int .i64 f, .int .i64 t, .int .i64 n]] w fun e w' => ∃ v, e = .returned (.tuple #[v, .int .i64 0]) ∧ w'.ownsRow w.heap.size 60 1 v 8 (ivs .u64 (ints (line (pv (f16s [1, s, f, t])) n))) ∧ Below w.heap.size w w' := by
  have hu := Tryz.underlying50
  have HM : Hid (∀ W, Calls Tryz.prog 108 #[.agg #[.int .i64 s, .int .i64 f, .int .i64 t, .int .i64 n]] W fun e w' => e = .returned (.bool true) ∧ Below W.heap.size W w') := by
    intro W
    have := may_ s f t n W
    rw [decide_eq_true h] at this
    exact this
  obtain ⟨⟨a0, a1⟩, ⟨a2, a3⟩, ⟨a4, a5⟩, a6, a7⟩ := h
  have HF : Hid (∀ v ∈ [1, s, f, t], v < 65536) := by
    intro v hv
    simp only [List.mem_cons, List.not_mem_nil, or_false] at hv
    rcases hv with rfl | rfl | rfl | rfl <;> omega
  have hz9 : n < 18446744073709551616 := by omega
  have HPL : Hid (pv (f16s [1, s, f, t]) < 18446744073709551616) := by
    have := pv_lt (f16s [1, s, f, t]) (by
      intro p hp
      simp only [f16s, List.mem_map] at hp
      obtain ⟨v, hv, rfl⟩ := hp
      exact f16 (HF.out v hv))
    rw [show wid (f16s [1, s, f, t]) = 64 from rfl] at this
    exact this
  clear a0 a1 a2 a3 a4 a5 a6
  go_enter Tryz.func70, Tryz.ntmps70
  go_wp2_with fail
  refine (HM.out _).mono ?_
  rintro e w1 ⟨rfl, hb⟩
  have hq := blk_bl (alloc_new w (.cells #[.int .i64 s, .int .i64 f, .int .i64 t, .int .i64 n] 50)) hb
  have hlt := lt_of hq
  have HQ := Lib.hid hq
  have HB := Lib.hid (bl_then (bl_alloc (Below.refl _ _) _) hb)
  clear hb hq
  go_wp2_with (at_make; refine Go.Proofs.YtichcdoijieddaaGreat.Wl.wpl_make rfl _ 22 60 rfl (.int .u64 0) 8 Tryz.underlying22 info_u64 rfl 8 .i64 _ rfl rfl (by decide) (by decide) ?_)
  obtain ⟨w2, hw2⟩ : ∃ w2, w2 = w1.alloc (.cells (Array.replicate 8 (.int .u64 0)) 60) := ⟨_, rfl⟩
  rw [← hw2]
  have hq2 : w2.heap[w.heap.size]? = some (.cells #[.int .i64 s, .int .i64 f, .int .i64 t, .int .i64 n] 50 (0, 0)) := by rw [hw2]; exact alloc_old HQ.out _
  have hl2 : w2.heap[w1.heap.size]? = some (.cells (Array.replicate 8 (.int .u64 0)) 60 (0, 0)) := by rw [hw2]; exact alloc_new _ _
  have hs2 : w2.heap.size = w1.heap.size + 1 := by rw [hw2]; simp
  have HB2 : Hid (Below w.heap.size w w2) := by rw [hw2]; exact bl_alloc HB.out _
  generalize w1.heap.size = b1 at *
  clear hw2
  have k0 := cell_of hq2 0
  have k1 := cell_of hq2 1
  have k2 := cell_of hq2 2
  have k3 := cell_of hq2 3
  have l0 := cell_of hl2 0
  have l1 := cell_of hl2 1
  have f0 := free_of hl2 0
  have f1 := free_of hl2 1
  have HQ2 : Hid (∀ o : Obj, (w2.alloc o).drew.heap[w.heap.size]? = some (.cells #[.int .i64 s, .int .i64 f, .int .i64 t, .int .i64 n] 50 (0, 0))) := fun o => alloc_old hq2 o
  have HL2 : Hid (∀ o : Obj, (w2.alloc o).drew.heap[b1]? = some (.cells (Array.replicate 8 (.int .u64 0)) 60 (0, 0))) := fun o => alloc_old hl2 o
  have hcx : Cx w b1 w2 := ⟨HB2.out, hlt, _, hl2, fun i h2 h8 => by rw [Array.getElem?_replicate]; simp [h8]⟩
  have HST := Lib.hid (cj_of hq2 hcx)
  have HCX := Lib.hid hcx
  have HN2 : Hid (∀ o : Obj, (w2.alloc o).heap[b1 + 1]? = some o) := fun o => by
    have := alloc_new w2 o
    rw [hs2] at this
    exact this
  have HFD : Hid (∀ W : World, W.heap[b1 + 1]? = some (.cells #[.int .i64 1, .int .i64 s, .int .i64 f, .int .i64 t] 3 (0, 0)) → Calls Tryz.prog 109 #[.slice (some ⟨b1 + 1, 0, none⟩) 4 4] W fun e w' => e = .returned (.int .u64 (pv (f16s [1, s, f, t]) : Nat)) ∧ Below W.heap.size W w') := fun W hW => fields_ (l := [1, s, f, t]) (blk_rk hW (four_at s f t)) HF.out 4 (by simp)
  have hwn : IntKind.u64.wrap (n : Int) = (n : Int) := wu64 _ (by omega) (by omega)
  clear hq2 hl2 hcx k0 k1 k2 k3 l0 l1 f0 f1
  go_region_held3 (fun w' => w'.cell? ⟨w.heap.size, 0, none⟩ = some (.int .i64 s) ∧ w'.cell? ⟨w.heap.size, 1, none⟩ = some (.int .i64 f) ∧ w'.cell? ⟨w.heap.size, 2, none⟩ = some (.int .i64 t) ∧ w'.cell? ⟨w.heap.size, 3, none⟩ = some (.int .i64 n) ∧ Cx w b1 w')
    (first | assumption | exact cj_drew HST.out | exact cj_of (HQ2.out _) (cx_drew (cx_alloc HCX.out _)) | exact cj_of Q3.out CX3.out | exact cj_drew (cj_of Q3.out CX3.out) | exact cj_set (cj_of Q3.out CX3.out) 0 (by decide) _ | exact cj_drew (cj_set (cj_of Q3.out CX3.out) 0 (by decide) _) | exact cj_set (cj_set (cj_of Q3.out CX3.out) 0 (by decide) _) 1 (by decide) _ | exact cj_drew (cj_set (cj_set (cj_of Q3.out CX3.out) 0 (by decide) _) 1 (by decide) _))
    ((go_at_call 109; refine (HFD.out _ ?hR).mono ?_; (case hR => exact HN2.out _); rintro e w3 ⟨rfl, hb3⟩; (have Q3 := Lib.hid (blk_bl (HQ2.out _) hb3)); (have CX3 := Lib.hid (cx_below (cx_drew (cx_alloc HCX.out _)) hb3)); (have L3 := Lib.hid (blk_bl (HL2.out _) hb3)); (have l0 := cell_of L3.out 0); (have l1 := cell_of L3.out 1); (have f0 := free_of L3.out 0); (have f1 := free_of L3.out 1); clear hb3))
  obtain ⟨x, hx⟩ : ∃ x, x = pv (f16s [1, s, f, t]) := ⟨_, rfl⟩
  rw [← hx]
  have hx9 : x < 18446744073709551616 := by rw [hx]; exact HPL.out
  have HX := Lib.hid hx
  clear hx
  have hL4 := set_same (set_same L3.out 0 (.int .u64 x)) 1 (.int .u64 n)
  have hr4 := fill_line hL4
  have hr5 := words32_ hr4 (head7_lt (a := x) (b := n) hx9 hz9) 8 (by simp [head7])
  rw [show (head7 x n).length = 7 from rfl] at hr5
  have HR4 := Lib.hid hr5
  have HL4 := Lib.hid hL4
  have HBW := Lib.hid (bl_set (o := 1) (bl_set (o := 0) CX3.out.below (Nat.le_of_lt CX3.out.lo) (.int .u64 x)) (Nat.le_of_lt CX3.out.lo) (.int .u64 n))
  clear hL4 hr4 hr5 l0 l1 f0 f1
  go_wp2_with fail
  refine HR4.out.mono ?_
  rw [sum7_int]
  rintro e w5 ⟨rfl, hb5⟩
  have hL5 := (hb5.block _ (lt_of HL4.out)).trans HL4.out
  have l7 : w5.cell? ⟨b1, 7, none⟩ = some (.int .u64 0) := cell_of hL5 7
  have f7 := free_of hL5 7
  have hs7 := sum7_lt x n
  have HL5 := Lib.hid hL5
  have HB5 := Lib.hid hb5
  clear hL5 hb5
  go_wp2_with fail
  go_ret2
  have hfin := set_same HL5.out 7 (.int .u64 (sum7 x n : Nat))
  rw [← HX.out]
  exact ⟨_, rfl, own_new (q := b1) hfin (Nat.le_of_lt hlt) rfl (by unfold maxLen; omega), bl_set (o := 7) (bl_then HBW.out HB5.out) (Nat.le_of_lt hlt) _⟩

end Go.Proofs.YtichcdoijieddaaGreat.Rj
end

/- The ninth chapter's example. -/
section
set_option linter.unusedVariables false
set_option linter.unusedSimpArgs false
set_option maxHeartbeats 2000000
set_option maxRecDepth 100000
namespace Go.Proofs.YtichcdoijieddaaGreat.Li
open Go Go.RowKit
open Go.Proofs.YtichcdoijieddaaGreat.Ob Go.Proofs.YtichcdoijieddaaGreat.Ba Go.Proofs.YtichcdoijieddaaGreat.Oc Go.Proofs.YtichcdoijieddaaGreat.Pk

theorem lives09 (w : World) : Calls Tryz.prog 49 #[] w fun e w' => e = .returned (.bool true) ∧ Below w.heap.size w w' := by
  have hen := Rj.encode_yes 2 3 4 5 ⟨⟨by decide, by decide⟩, ⟨by decide, by decide⟩, ⟨by decide, by decide⟩, by decide, by decide⟩ w
  have hpv : pv (Rj.f16s [1, 2, 3, 4]) = 1125912791875585 := by decide
  rw [hpv] at hen
  have hl0 : (ints (Su.line 1125912791875585 5))[0]? = some 1125912791875585 := rfl
  have HL := Lib.hid hl0
  generalize Su.line 1125912791875585 5 = l at *
  have HE := Lib.hid hen
  clear hen hl0 hpv
  go_enter Tryz.func49, Tryz.ntmps49
  go_wp2_with (first | (go_at_call 70; refine (show Calls _ _ #[.agg #[.int .i64 2, .int .i64 3, .int .i64 4, .int .i64 5]] _ _ from HE.out).mono ?_; rintro e w1 ⟨v, rfl, hown, hb1⟩; (obtain ⟨A1, c1, rfl⟩ := own_slice hown); (obtain ⟨q1, rfl, -, -⟩ := own_at hown HL.out); (have HO := Lib.hid hown); (have HB1 := Lib.hid hb1); clear hb1 hown) |
    (go_at_call 93; refine (lives02 _).mono ?_; rintro e w3 ⟨rfl, hb3⟩; (have HB3 := Lib.hid hb3); clear hb3) |
    (go_at_call 94; refine (lives03 _).mono ?_; rintro e w4 ⟨rfl, hb4⟩; (have HB4 := Lib.hid (bl_then HB3.out hb4)); clear hb4; (obtain ⟨_, e5, hc5, -⟩ := own_at (own_bl HO.out HB4.out) HL.out); cases e5))
  go_ret
  exact ⟨rfl, bl_then HB1.out HB4.out⟩

end Go.Proofs.YtichcdoijieddaaGreat.Li
end
