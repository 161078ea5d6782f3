/- Parts of the proof, one behind the other: Je, Jf, Qe, Jg, Qg, Od, Ra, Qh. -/
import Derived.Test.YtgnagbbdnlmgeaaGreatC09
import Derived.Test.YtgnagbbdnlmgeaaGreatC10
import Derived.Test.YtgnagbbdnlmgeaaGreatC11
import Derived.Test.YtgnagbbdnlmgeaaGreatC07
import Derived.Test.YtgnagbbdnlmgeaaGreatC05
import Derived.Test.YtgnagbbdnlmgeaaGreatC08
import Derived.Test.YtgnagbbdnlmgeaaGreatC01

/- The document's answers of a volume: Inode, Slot. -/
section
set_option linter.unusedVariables false
set_option linter.unusedSimpArgs false
set_option maxHeartbeats 2000000
set_option maxRecDepth 100000
namespace Go.Proofs.YtgnagbbdnlmgeaaGreat.Je
open Go Go.RowKit
open Go.Proofs.YtgnagbbdnlmgeaaGreat.Ob Go.Proofs.YtgnagbbdnlmgeaaGreat.Ba Go.Proofs.YtgnagbbdnlmgeaaGreat.Oc Go.Proofs.YtgnagbbdnlmgeaaGreat.Pk Go.Proofs.YtgnagbbdnlmgeaaGreat.Su Go.Proofs.YtgnagbbdnlmgeaaGreat.Cc Go.Proofs.YtgnagbbdnlmgeaaGreat.Cr Go.Proofs.YtgnagbbdnlmgeaaGreat.Ge Go.Proofs.YtgnagbbdnlmgeaaGreat.In Go.Proofs.YtgnagbbdnlmgeaaGreat.Iq Go.Proofs.YtgnagbbdnlmgeaaGreat.Lo

theorem two_new (w : World) (o p : Obj) : ((w.alloc o).alloc p).heap[w.heap.size + 1]? = some p := by
  have := alloc_new (w.alloc o) p
  rw [World.size_alloc] at this
  exact this

theorem ints_dt (ws : List Nat) (k j : Nat) : ((ints ws).drop k).take j = ints ((ws.drop k).take j) := by
  simp [ints, List.map_drop, List.map_take]

theorem r15inode_get {w : World} {a : Addr} {ws : List Nat} {T c8 : Nat} (h : Rk .u64 w (some a) (ints ws)) (hT : ws.length = T) (hc : T ≤ c8) (hlt : ∀ x ∈ ws, x < 18446744073709551616) (n m s p2 p3 p4 p5 i : Int) (hi : 0 ≤ i ∧ i < m) (k : Nat) (hk : (k : Int) = 16 + 8 * i) (hk8 : k + 8 ≤ T) (hT9 : T ≤ 1000000000) :
    Calls Tryz.prog 20 #[.agg #[.int .i64 n, .int .i64 m, .int .i64 s, .int .i64 16, .int .i64 p2, .int .i64 p3, .int .i64 p4, .int .i64 p5, .slice (some a) T c8], .int .i64 i] w fun e w' => R6 ((ws.drop k).take 8) e ∧ Below w.heap.size w w' := by
  have hu := Tryz.underlying30
  have hu2 := Tryz.underlying47
  have hsub : Rk .u64 w (some (a.add k)) (ints ((ws.drop k).take 8)) := by rw [← ints_dt]; exact (h.drop k).take 8
  have hl8 : ((ws.drop k).take 8).length = 8 := by simp; omega
  have HD : Hid (∀ {W : World}, Below w.heap.size w W → ∀ c, Calls Tryz.prog 79 #[.slice (some (a.add k)) 8 c] W fun e w' => R6 ((ws.drop k).take 8) e ∧ Below W.heap.size W w') := by
    intro W hb c
    exact rdec_ (hsub.below hb) c hl8 (fun x hx => hlt x (List.mem_of_mem_drop (List.mem_of_mem_take hx)))
  generalize (ws.drop k).take 8 = l8 at *
  unfold R6 at HD
  unfold R6
  generalize (n6 l8).1 = x at *
  generalize (n6 l8).2.1 = y at *
  generalize (n6 l8).2.2 = z at *
  generalize ok6 l8 = t at *
  have hk1 : (16 : Int) + 8 * i = (k : Int) := by omega
  have hi9 : i ≤ 1000000000 := by omega
  clear hk
  obtain ⟨W2, hW2⟩ : ∃ W2, W2 = (w.alloc (.cells #[.int .i64 n, .int .i64 m, .int .i64 s, .int .i64 16, .int .i64 p2, .int .i64 p3, .int .i64 p4, .int .i64 p5, .slice (some a) T c8] 30)).alloc (.cells #[.int .i64 0, .int .i64 0, .int .i64 0] 47) := ⟨_, rfl⟩
  have hv := alloc_old (alloc_new w (.cells #[.int .i64 n, .int .i64 m, .int .i64 s, .int .i64 16, .int .i64 p2, .int .i64 p3, .int .i64 p4, .int .i64 p5, .slice (some a) T c8] 30)) (.cells #[.int .i64 0, .int .i64 0, .int .i64 0] 47)
  have hr := alloc_new (w.alloc (.cells #[.int .i64 n, .int .i64 m, .int .i64 s, .int .i64 16, .int .i64 p2, .int .i64 p3, .int .i64 p4, .int .i64 p5, .slice (some a) T c8] 30)) (.cells #[.int .i64 0, .int .i64 0, .int .i64 0] 47)
  rw [World.size_alloc] at hr
  have hb2 : Below w.heap.size w W2 := by rw [hW2]; exact bl_alloc (bl_alloc (Below.refl _ _) _) _
  rw [← hW2] at hv hr
  have HW2 := Lib.hid hW2
  have HR2 := Lib.hid hr
  have HB2 := Lib.hid hb2
  obtain ⟨hi0, him⟩ := hi
  have m1 := cell_of hv 1
  have m3 := cell_of hv 3
  have m8 := cell_of hv 8
  clear h hsub hl8 hW2 hv hr hb2 hlt hT
  go_enter Tryz.func20, Tryz.ntmps20
  go_wp2_with fail
  rw [← HW2.out]
  go_wp2_with (go_at_call 79; refine (HD.out HB2.out _).mono ?_; rintro e w3 ⟨rfl, hb⟩; (have hq3 := blk_bl HR2.out hb); (have HB3 := Lib.hid (bl_then HB2.out hb)); (have l0 := cell_of hq3 0); (have l1 := cell_of hq3 1); (have l2 := cell_of hq3 2); (have f0 := free_of hq3 0); (have f1 := free_of hq3 1); (have f2 := free_of hq3 2); (have HQ3 := Lib.hid hq3); clear hb hq3)
  exact bodyPost_ret (res_ct (u := 5) rfl _ _ (w.heap.size + 1) 47 #[.int .i64 x, .int .i64 y, .int .i64 z] (0, 0) _ rfl (put3 HQ3.out _ _ _) hu2 rfl (by kernel_rfl)) rfl ⟨rfl, bl_put3 HB3.out (by omega) _ _ _⟩

theorem r15inode_out {w : World} {A : Option Addr} {T c8 : Nat} (n m s p2 p3 p4 p5 i : Int) (hi : i < 0 ∨ m ≤ i) :
    Calls Tryz.prog 20 #[.agg #[.int .i64 n, .int .i64 m, .int .i64 s, .int .i64 16, .int .i64 p2, .int .i64 p3, .int .i64 p4, .int .i64 p5, .slice A T c8], .int .i64 i] w fun e w' => e = .returned (.tuple #[.agg #[.int .i64 0, .int .i64 (-1), .int .i64 0], .bool false]) ∧ Below w.heap.size w w' := by
  have hu := Tryz.underlying30
  have hu2 := Tryz.underlying47
  rcases hi with hi | hi
  · go_enter Tryz.func20, Tryz.ntmps20
    go_wp2_with fail
    exact bodyPost_ret (res_ct (u := 5) rfl _ _ (w.heap.size + 1) 47 #[.int .i64 0, .int .i64 (-1), .int .i64 0] (0, 0) _ rfl (two_new _ _ _) hu2 rfl (by kernel_rfl)) rfl ⟨rfl, bl_alloc (bl_alloc (Below.refl _ _) _) _⟩
  · by_cases h0 : i < 0
    all_goals
      go_enter Tryz.func20, Tryz.ntmps20
      go_wp2_with fail
      exact bodyPost_ret (res_ct (u := 5) rfl _ _ (w.heap.size + 1) 47 #[.int .i64 0, .int .i64 (-1), .int .i64 0] (0, 0) _ rfl (two_new _ _ _) hu2 rfl (by kernel_rfl)) rfl ⟨rfl, bl_alloc (bl_alloc (Below.refl _ _) _) _⟩

theorem r15slot_get {w : World} {a : Addr} {ws : List Nat} {T c8 : Nat} (h : Rk .u64 w (some a) (ints ws)) (hT : ws.length = T) (hc : T ≤ c8) (hlt : ∀ x ∈ ws, x < 18446744073709551616) (n m s p2 p3 p4 p5 i : Int) (hi : 0 ≤ i ∧ i < n) (k : Nat) (hk : (k : Int) = p2 + i) (hkT : k < T) (hT9 : T ≤ 1000000000) (hp2 : 0 ≤ p2) (x : Nat) (hx : ws[k]? = some x) :
    Calls Tryz.prog 22 #[.agg #[.int .i64 n, .int .i64 m, .int .i64 s, .int .i64 16, .int .i64 p2, .int .i64 p3, .int .i64 p4, .int .i64 p5, .slice (some a) T c8], .int .i64 i] w fun e w' => R7 x e ∧ Below w.heap.size w w' := by
  have hu := Tryz.underlying30
  have hu2 := Tryz.underlying54
  have HD : Hid (∀ W, Calls Tryz.prog 83 #[.int .u64 x] W fun e w' => R7 x e ∧ Below W.heap.size W w') := fun W => rdecode_ x (hlt x (List.mem_of_getElem? hx)) W
  unfold R7 at HD
  unfold R7
  obtain ⟨x0, hx0⟩ : ∃ y, y = (s7 x).1 := ⟨_, rfl⟩
  obtain ⟨x1, hx1⟩ : ∃ y, y = (s7 x).2.1 := ⟨_, rfl⟩
  obtain ⟨x2, hx2⟩ : ∃ y, y = (s7 x).2.2 := ⟨_, rfl⟩
  obtain ⟨t, ht⟩ : ∃ y, y = ok7 x := ⟨_, rfl⟩
  rw [← hx0, ← hx1, ← hx2, ← ht] at HD
  rw [← hx0, ← hx1, ← hx2, ← ht]
  obtain ⟨_, e0, ha0, ha⟩ := h k x (ints_get hx)
  cases e0
  have hk1 : p2 + i = (k : Int) := by omega
  have hi9 : i ≤ 1000000000 := by omega
  have hp9 : p2 ≤ 1000000000 := by omega
  obtain ⟨W2, hW2⟩ : ∃ W2, W2 = (w.alloc (.cells #[.int .i64 n, .int .i64 m, .int .i64 s, .int .i64 16, .int .i64 p2, .int .i64 p3, .int .i64 p4, .int .i64 p5, .slice (some a) T c8] 30)).alloc (.cells #[.int .i64 0, .int .i64 0, .int .i64 0] 54) := ⟨_, rfl⟩
  have hv := alloc_old (alloc_new w (.cells #[.int .i64 n, .int .i64 m, .int .i64 s, .int .i64 16, .int .i64 p2, .int .i64 p3, .int .i64 p4, .int .i64 p5, .slice (some a) T c8] 30)) (.cells #[.int .i64 0, .int .i64 0, .int .i64 0] 54)
  have hr := alloc_new (w.alloc (.cells #[.int .i64 n, .int .i64 m, .int .i64 s, .int .i64 16, .int .i64 p2, .int .i64 p3, .int .i64 p4, .int .i64 p5, .slice (some a) T c8] 30)) (.cells #[.int .i64 0, .int .i64 0, .int .i64 0] 54)
  rw [World.size_alloc] at hr
  have hb2 : Below w.heap.size w W2 := by rw [hW2]; exact bl_alloc (bl_alloc (Below.refl _ _) _) _
  rw [← hW2] at hv hr
  have HW2 := Lib.hid hW2
  have HR2 := Lib.hid hr
  have HB2 := Lib.hid hb2
  obtain ⟨hi0, him⟩ := hi
  have m0 := cell_of hv 0
  have m4 := cell_of hv 4
  have m8 := cell_of hv 8
  have ha2 : W2.cell? (a.add k) = some (.int .u64 x) := (hb2.cell (p := a.add k) (by rw [add_block]; exact ha0)).trans ha
  rw [hW2] at ha2
  clear h hW2 hv hr hb2 hlt hT hx ha hx0 hx1 hx2 ht hk
  go_enter Tryz.func22, Tryz.ntmps22
  go_wp2_with fail
  rw [← HW2.out]
  go_wp2_with (go_at_call 83; refine (HD.out _).mono ?_; rintro e w3 ⟨rfl, hb⟩; (have hq3 := blk_bl HR2.out hb); (have HB3 := Lib.hid (bl_then HB2.out hb)); (have l0 := cell_of hq3 0); (have l1 := cell_of hq3 1); (have l2 := cell_of hq3 2); (have f0 := free_of hq3 0); (have f1 := free_of hq3 1); (have f2 := free_of hq3 2); (have HQ3 := Lib.hid hq3); clear hb hq3)
  exact bodyPost_ret (res_ct (u := 5) rfl _ _ (w.heap.size + 1) 54 #[.int .i64 x0, .int .i64 x1, .int .i64 x2] (0, 0) _ rfl (put3 HQ3.out _ _ _) hu2 rfl (by kernel_rfl)) rfl ⟨rfl, bl_put3 HB3.out (by omega) _ _ _⟩

theorem r15slot_out {w : World} {A : Option Addr} {T c8 : Nat} (n m s p2 p3 p4 p5 i : Int) (hi : i < 0 ∨ n ≤ i) :
    Calls Tryz.prog 22 #[.agg #[.int .i64 n, .int .i64 m, .int .i64 s, .int .i64 16, .int .i64 p2, .int .i64 p3, .int .i64 p4, .int .i64 p5, .slice A T c8], .int .i64 i] w fun e w' => e = .returned (.tuple #[.agg #[.int .i64 0, .int .i64 0, .int .i64 0], .bool false]) ∧ Below w.heap.size w w' := by
  have hu := Tryz.underlying30
  have hu2 := Tryz.underlying54
  rcases hi with hi | hi
  · go_enter Tryz.func22, Tryz.ntmps22
    go_wp2_with fail
    exact bodyPost_ret (res_ct (u := 5) rfl _ _ (w.heap.size + 1) 54 #[.int .i64 0, .int .i64 0, .int .i64 0] (0, 0) _ rfl (two_new _ _ _) hu2 rfl (by kernel_rfl)) rfl ⟨rfl, bl_alloc (bl_alloc (Below.refl _ _) _) _⟩
  · by_cases h0 : i < 0
    all_goals
      go_enter Tryz.func22, Tryz.ntmps22
      go_wp2_with fail
      exact bodyPost_ret (res_ct (u := 5) rfl _ _ (w.heap.size + 1) 54 #[.int .i64 0, .int .i64 0, .int .i64 0] (0, 0) _ rfl (two_new _ _ _) hu2 rfl (by kernel_rfl)) rfl ⟨rfl, bl_alloc (bl_alloc (Below.refl _ _) _) _⟩

end Go.Proofs.YtgnagbbdnlmgeaaGreat.Je
end

/- The document's bitmap of a word (cantleref10.Of); the document's Record, Bitmap, Block of a volume. -/
section
set_option linter.unusedVariables false
set_option linter.unusedSimpArgs false
set_option maxHeartbeats 2000000
set_option maxRecDepth 100000
namespace Go.Proofs.YtgnagbbdnlmgeaaGreat.Je
open Go Go.RowKit
open Go.Proofs.YtgnagbbdnlmgeaaGreat.Ob Go.Proofs.YtgnagbbdnlmgeaaGreat.Ba Go.Proofs.YtgnagbbdnlmgeaaGreat.Oc Go.Proofs.YtgnagbbdnlmgeaaGreat.Pk Go.Proofs.YtgnagbbdnlmgeaaGreat.Su Go.Proofs.YtgnagbbdnlmgeaaGreat.Cc Go.Proofs.YtgnagbbdnlmgeaaGreat.Cr Go.Proofs.YtgnagbbdnlmgeaaGreat.Ge Go.Proofs.YtgnagbbdnlmgeaaGreat.In Go.Proofs.YtgnagbbdnlmgeaaGreat.Iq Go.Proofs.YtgnagbbdnlmgeaaGreat.Lo Go.Proofs.YtgnagbbdnlmgeaaGreat.R0 Go.Proofs.YtgnagbbdnlmgeaaGreat.Jd Go.Proofs.YtgnagbbdnlmgeaaGreat.Bm Go.Proofs.YtgnagbbdnlmgeaaGreat.Rj

theorem no_high {x n : Nat} (hx : x < 2 ^ 64) (h : ∀ j, n ≤ j → j < 64 → x.testBit j = false) : x / 2 ^ n = 0 := by
  apply Nat.eq_of_testBit_eq
  intro i
  rw [Nat.testBit_div_two_pow, Nat.zero_testBit]
  by_cases hi : n + i < 64
  · rw [Nat.add_comm]; exact h _ (by omega) (by omega)
  · exact Nat.testBit_lt_two_pow (Nat.lt_of_lt_of_le hx (Nat.pow_le_pow_right (by decide) (by omega)))
theorem high {x n j : Nat} (hj : n ≤ j) (hb : x.testBit j = true) : x / 2 ^ n ≠ 0 := by
  intro h
  have h2 : (x / 2 ^ n).testBit (j - n) = true := by
    rw [Nat.testBit_div_two_pow, show j - n + n = j from by omega]
    exact hb
  rw [h] at h2
  simp at h2

theorem rof_ {w : World} {a : Addr} {x : Nat} (h : Rk .u64 w (some a) (ints [x])) (hx : x < 18446744073709551616) (c n : Nat) (h1 : 1 ≤ n) (h2 : n ≤ 63) :
    Calls Tryz.prog 90 #[.int .i64 n, .slice (some a) 1 c] w fun e w' =>
      (x / 2 ^ n = 0 → ∃ v, e = .returned (.tuple #[v, .bool true]) ∧ w'.ownsRow w.heap.size 4 1 v n (bvs (bitsOf x n))) ∧ (x / 2 ^ n ≠ 0 → e = .returned (.tuple #[.slice none 0 0, .bool false])) ∧ Below w.heap.size w w' := by
  obtain ⟨_, e0, ha0, ha⟩ := h 0 x rfl
  cases e0
  have HA : Hid (∀ {W : World}, Below w.heap.size w W → W.cell? a = some (.int .u64 x)) := fun {W} hb => (hb.cell (p := a) ha0).trans ha
  obtain ⟨i0, hinf, hz0, hz1, hz2⟩ := info_parts info_bool
  have hq : ((n : Int) + 63) / 64 = 1 := by omega
  have HX := Lib.hid hx
  clear h ha
  go_enter Tryz.func90, Tryz.ntmps90
  go_wp2_with fail
  clear hq
  go_loopw [26, 6] (fun c26 c6 wr => ∃ i : Nat, i ≤ 64 ∧ c26 = .int .i64 i ∧ Hid (Below w.heap.size w wr ∧ wr.ownsRow w.heap.size 4 1 c6 (min i n) (bvs (bitsOf x (min i n))) ∧ ∀ j, n ≤ j → j < i → x.testBit j = false)) (fun c26 _ _ => 64 - (intOf c26).toNat)
  case atStart => exact ⟨0, Nat.zero_le _, rfl, Below.refl _ _, by rw [Nat.zero_min]; exact own_nil0 _ _ _ _, fun j _ h => absurd h (Nat.not_lt_zero _)⟩
  case round =>
    obtain ⟨i, hi, rfl, HR⟩ := hrel
    by_cases hlt : i < 64
    · have ha := HA.out HR.out.1
      have hb := bit_and x i HX.out
      have hd1 : (i : Int) / 64 = 0 := by omega
      have hd2 : (i : Int) % 64 = i := by omega
      by_cases hin : i < n
      · have hin2 : (i : Int) < n := by omega
        obtain ⟨A6, c6', e6⟩ := own_slice HR.out.2.1
        subst e6
        have hown := HR.out.2.1
        rw [Nat.min_eq_left (by omega)] at hown
        have HOW := Lib.hid (fun o => own_kp (W' := wr.alloc o) hown (fun k _ hk => Below.heap_alloc _ _ k hk))
        rw [Nat.min_eq_left (by omega)]
        obtain ⟨r, hr⟩ : ∃ r, r = x.testBit i := ⟨_, rfl⟩
        rw [← hr] at hb
        have HRB := Lib.hid hr
        have HLO := Lib.hid (own_lo hown)
        clear hown hr
        go_wp2_with (at_builtin; refine wpList_append_own _ rfl (.tmp 43) (.tmp 45) 66 rfl w.heap.size 4 i0 (.bool false) 1 1 Tryz.underlying66 hinf hz0 hz1 hz2 rfl (by decide) _ i _ rfl (HOW.out _) ⟨wr.heap.size, 0, none⟩ 1 1 [.bool r] rfl rfl (one_at _ _ _) (by intro u hu; simp at hu; subst hu; rfl) (by unfold maxLen; omega) (by omega) (by have h1 := HR.out.1.size; simp; omega) ?_; intro v' w7 hown' hgrow _; (have HO := Lib.hid hown'); (have HG := Lib.hid hgrow); clear hown' hgrow)
        go_roundw
        case rel =>
          refine ⟨i + 1, by omega, by go_num, bl_grown (bl_alloc HR.out.1 _) HG.out HLO.out, ?_, fun j h1 h2 => by omega⟩
          rw [Nat.min_eq_left (by omega), bitsOf, ← HRB.out]
          have h9 := HO.out
          have e9 : bvs (bitsOf x i) ++ [Value.bool r] = bvs (bitsOf x i ++ [r]) := by simp [bvs]
          rw [e9] at h9
          exact h9
        case measure => simp [intOf]; omega
      · have hin2 : (n : Int) ≤ i := by omega
        by_cases hbt : x.testBit i = true
        · rw [hbt] at hb
          have HN := Lib.hid (high (by omega : n ≤ i) hbt)
          clear hbt
          go_wp2_with fail
          go_ret2
          exact ⟨fun h => absurd h HN.out, fun _ => rfl, HR.out.1⟩
        · have hbf : x.testBit i = false := by simpa using hbt
          rw [hbf] at hb
          have HBF := Lib.hid hbf
          clear hbt hbf
          go_wp2_with fail
          go_roundw
          case rel =>
            refine ⟨i + 1, by omega, by go_num, HR.out.1, ?_, fun j h1 h2 => ?_⟩
            · rw [Nat.min_eq_right (by omega)]
              have h9 := HR.out.2.1
              rw [Nat.min_eq_right (by omega)] at h9
              exact h9
            · by_cases hj : j < i
              · exact HR.out.2.2 j h1 hj
              · obtain rfl : j = i := by omega
                exact HBF.out
          case measure => simp [intOf]; omega
    · obtain rfl : i = 64 := by omega
      have hown := HR.out.2.1
      rw [Nat.min_eq_right (by omega)] at hown
      have HO := Lib.hid (And.intro hown (no_high HX.out HR.out.2.2))
      clear hown
      go_wp2_with fail
      go_ret2
      exact ⟨fun _ => ⟨_, rfl, HO.out.1⟩, fun h => absurd HO.out.2 h, HR.out.1⟩

theorem r15record_ {w : World} {a : Addr} {ws : List Nat} {T c8 : Nat} (h : Rk .u64 w (some a) (ints ws)) (hT : ws.length = T) (hc : T ≤ c8) (hlt : ∀ x ∈ ws, x < 18446744073709551616) (n m s p2 p3 p4 p5 : Int) (hk8 : 16 ≤ T) (hT9 : T ≤ 1000000000) :
    Calls Tryz.prog 30 #[.agg #[.int .i64 n, .int .i64 m, .int .i64 s, .int .i64 16, .int .i64 p2, .int .i64 p3, .int .i64 p4, .int .i64 p5, .slice (some a) T c8]] w fun e w' => D9 ((ws.drop 8).take 8) e ∧ Below w.heap.size w w' := by
  have hu := Tryz.underlying30
  have hu2 := Tryz.underlying74
  have hsub : Rk .u64 w (some (a.add 8)) (ints ((ws.drop 8).take 8)) := by rw [← ints_dt]; exact (h.drop 8).take 8
  have hl8 : ((ws.drop 8).take 8).length = 8 := by simp; omega
  have HD : Hid (∀ {W : World}, Below w.heap.size w W → ∀ c, Calls Tryz.prog 93 #[.slice (some (a.add 8)) 8 c] W fun e w' => D9 ((ws.drop 8).take 8) e ∧ Below W.heap.size W w') := by
    intro W hb c
    exact R9.rdec_ (hsub.below hb) c hl8 (fun x hx => hlt x (List.mem_of_mem_drop (List.mem_of_mem_take hx)))
  generalize (ws.drop 8).take 8 = l8 at *
  unfold D9 at HD
  unfold D9
  generalize (r9 l8).1 = x at *
  generalize (r9 l8).2.1 = y at *
  generalize (r9 l8).2.2.1 = z at *
  generalize (r9 l8).2.2.2 = t at *
  generalize st9 l8 = u at *
  obtain ⟨W2, hW2⟩ : ∃ W2, W2 = (w.alloc (.cells #[.int .i64 n, .int .i64 m, .int .i64 s, .int .i64 16, .int .i64 p2, .int .i64 p3, .int .i64 p4, .int .i64 p5, .slice (some a) T c8] 30)).alloc (.cells #[.int .i64 0, .int .i64 0, .int .i64 0, .int .i64 0] 74) := ⟨_, rfl⟩
  have hv := alloc_old (alloc_new w (.cells #[.int .i64 n, .int .i64 m, .int .i64 s, .int .i64 16, .int .i64 p2, .int .i64 p3, .int .i64 p4, .int .i64 p5, .slice (some a) T c8] 30)) (.cells #[.int .i64 0, .int .i64 0, .int .i64 0, .int .i64 0] 74)
  have hr := two_new w (.cells #[.int .i64 n, .int .i64 m, .int .i64 s, .int .i64 16, .int .i64 p2, .int .i64 p3, .int .i64 p4, .int .i64 p5, .slice (some a) T c8] 30) (.cells #[.int .i64 0, .int .i64 0, .int .i64 0, .int .i64 0] 74)
  have hb2 : Below w.heap.size w W2 := by rw [hW2]; exact bl_alloc (bl_alloc (Below.refl _ _) _) _
  rw [← hW2] at hv hr
  have HW2 := Lib.hid hW2
  have HR2 := Lib.hid hr
  have HB2 := Lib.hid hb2
  clear h hsub hl8 hW2 hv hr hb2 hlt hT
  go_enter Tryz.func30, Tryz.ntmps30
  go_wp2_with fail
  rw [← HW2.out]
  go_wp2_with (go_at_call 93; refine (HD.out HB2.out _).mono ?_; rintro e w3 ⟨rfl, hb⟩; (have hq3 := blk_bl HR2.out hb); (have HB3 := Lib.hid (bl_then HB2.out hb)); (have l0 := cell_of hq3 0); (have l1 := cell_of hq3 1); (have l2 := cell_of hq3 2); (have l3 := cell_of hq3 3); (have f0 := free_of hq3 0); (have f1 := free_of hq3 1); (have f2 := free_of hq3 2); (have f3 := free_of hq3 3); (have HQ3 := Lib.hid hq3); clear hb hq3)
  exact bodyPost_ret (res_ct (u := 3) rfl _ _ (w.heap.size + 1) 74 #[.int .i64 x, .int .i64 y, .int .i64 z, .int .i64 t] (0, 0) _ rfl (put4 HQ3.out _ _ _ _) hu2 rfl (by kernel_rfl)) rfl ⟨rfl, bl_put4 HB3.out (by omega) _ _ _ _⟩

structure Vb (q : Nat) (W : World) : Prop where
  lt : q < W.heap.size
theorem vb_keep {W W' : World} {q : Nat} {x y z : Option Value} (h : W.cell? ⟨q, 0, none⟩ = x ∧ W.cell? ⟨q, 5, none⟩ = y ∧ W.cell? ⟨q, 8, none⟩ = z ∧ Vb q W) (hb : Below W.heap.size W W') :
    W'.cell? ⟨q, 0, none⟩ = x ∧ W'.cell? ⟨q, 5, none⟩ = y ∧ W'.cell? ⟨q, 8, none⟩ = z ∧ Vb q W' := by
  obtain ⟨h0, h1, h2, ⟨h4⟩⟩ := h
  exact ⟨(hb.cell (p := ⟨q, 0, none⟩) h4).trans h0, (hb.cell (p := ⟨q, 5, none⟩) h4).trans h1, (hb.cell (p := ⟨q, 8, none⟩) h4).trans h2, ⟨Nat.lt_of_lt_of_le h4 hb.size⟩⟩
structure BofW (x n B : Nat) (A1 : Option Addr) (ln c1 : Nat) (w' : World) : Prop where
  yes : x / 2 ^ n = 0 → ln = n ∧ w'.ownsRow B 4 1 (.slice A1 ln c1) n (bvs (bitsOf x n))
  no : x / 2 ^ n ≠ 0 → A1 = none ∧ ln = 0 ∧ c1 = 0
theorem r15bitmap_ {w : World} {a : Addr} {ws : List Nat} {T c8 : Nat} (h : Rk .u64 w (some a) (ints ws)) (hT : ws.length = T) (hc : T ≤ c8) (hlt : ∀ x ∈ ws, x < 18446744073709551616) (n : Nat) (m s p2 : Int) (p3 : Nat) (p4 p5 : Int) (h1 : 1 ≤ n) (h2 : n ≤ 63) (hk8 : p3 + 1 ≤ T) (hT9 : T ≤ 1000000000) (x : Nat) (hx : ws[p3]? = some x) :
    Calls Tryz.prog 28 #[.agg #[.int .i64 n, .int .i64 m, .int .i64 s, .int .i64 16, .int .i64 p2, .int .i64 p3, .int .i64 p4, .int .i64 p5, .slice (some a) T c8]] w fun e w' =>
      (x / 2 ^ n = 0 → ∃ v, e = .returned (.tuple #[v, .bool true]) ∧ w'.ownsRow w.heap.size 4 1 v n (bvs (bitsOf x n))) ∧ (x / 2 ^ n ≠ 0 → e = .returned (.tuple #[.slice none 0 0, .bool false])) ∧ Below w.heap.size w w' := by
  have hu := Tryz.underlying30
  have hx9 := hlt x (List.mem_of_getElem? hx)
  have hsub : Rk .u64 w (some (a.add p3)) (ints [x]) := by
    have h9 := (h.drop p3).take 1
    rw [ints_dt] at h9
    have e9 : (ws.drop p3).take 1 = [x] := by
      obtain ⟨q1, q2⟩ := List.getElem?_eq_some_iff.1 hx
      rw [List.drop_eq_getElem_cons q1, q2]
      rfl
    rw [e9] at h9
    exact h9
  have hq : ((n : Int) + 63) / 64 = 1 := by omega
  have hq2 : IntKind.i64.wrap (((n : Int) + 63).tdiv 64) = 1 := by rw [Int.tdiv_eq_ediv_of_nonneg (by omega), hq]; rfl
  obtain ⟨W1, hW1⟩ : ∃ W1, W1 = w.alloc (.cells #[.int .i64 n, .int .i64 m, .int .i64 s, .int .i64 16, .int .i64 p2, .int .i64 p3, .int .i64 p4, .int .i64 p5, .slice (some a) T c8] 30) := ⟨_, rfl⟩
  have hv := alloc_new w (.cells #[.int .i64 n, .int .i64 m, .int .i64 s, .int .i64 16, .int .i64 p2, .int .i64 p3, .int .i64 p4, .int .i64 p5, .slice (some a) T c8] 30)
  have hb1 : Below w.heap.size w W1 := by rw [hW1]; exact bl_alloc (Below.refl _ _) _
  rw [← hW1] at hv
  have HOF : Hid (∀ {W : World} (c : Nat), Below w.heap.size w W → Calls Tryz.prog 90 #[.int .i64 n, .slice (some (a.add p3)) 1 c] W fun e w' => ∃ A1 ln c1, e = .returned (.tuple #[.slice A1 ln c1, .bool (decide (x / 2 ^ n = 0))]) ∧ BofW x n w.heap.size A1 ln c1 w' ∧ Below W.heap.size W w') := fun {W} c hb => (rof_ (w := W) (hsub.below hb) hx9 c n h1 h2).mono (by
    rintro e w' ⟨q1, q2, q3⟩
    by_cases hz : x / 2 ^ n = 0
    · obtain ⟨v, rfl, hown⟩ := q1 hz
      obtain ⟨A1, c1, rfl⟩ := own_slice hown
      exact ⟨A1, n, c1, by rw [decide_eq_true hz], ⟨fun _ => ⟨rfl, own_base hown hb.size⟩, fun h => absurd hz h⟩, q3⟩
    · exact ⟨none, 0, 0, by rw [q2 hz, decide_eq_false hz], ⟨fun h => absurd h hz, fun _ => ⟨rfl, rfl, rfl⟩⟩, q3⟩)
  have fin : ∀ {A1 : Option Addr} {ln c1 : Nat} {w' : World}, BofW x n w.heap.size A1 ln c1 w' → Below w.heap.size w w' → (x / 2 ^ n = 0 → ∃ v, Ending.returned (.tuple #[.slice A1 ln c1, .bool (decide (x / 2 ^ n = 0))]) = .returned (.tuple #[v, .bool true]) ∧ w'.ownsRow w.heap.size 4 1 v n (bvs (bitsOf x n))) ∧ (x / 2 ^ n ≠ 0 → Ending.returned (.tuple #[.slice A1 ln c1, .bool (decide (x / 2 ^ n = 0))]) = .returned (.tuple #[.slice none 0 0, .bool false])) ∧ Below w.heap.size w w' := by
    intro A1 ln c1 w' hq hb
    refine ⟨fun hz => ?_, fun hz => ?_, hb⟩
    · obtain ⟨rfl, hown⟩ := hq.yes hz
      exact ⟨_, by rw [decide_eq_true hz], hown⟩
    · obtain ⟨rfl, rfl, rfl⟩ := hq.no hz
      rw [decide_eq_false hz]
  have FIN : Hid (∀ (A1 : Option Addr) (ln c1 : Nat) (w' : World), BofW x n w.heap.size A1 ln c1 w' → Below w.heap.size w w' → _) := fun A1 ln c1 w' => fin (A1 := A1) (ln := ln) (c1 := c1) (w' := w')
  clear fin
  generalize decide (x / 2 ^ n = 0) = t at HOF FIN
  have m0 := cell_of hv 0
  have m5 := cell_of hv 5
  have m8 := cell_of hv 8
  have hw1 : IntKind.i64.wrap ((n : Int) + 63) = (n : Int) + 63 := wi64 _ (by omega) (by omega)
  have hw2 : IntKind.i64.wrap ((p3 : Int) + 1) = (p3 : Int) + 1 := wi64 _ (by omega) (by omega)
  have hp0 : (0 : Int) ≤ (p3 : Int) := by omega
  have hne : ¬ (c8 = p3) := by omega
  have hp1 : (p3 : Int) + 1 ≤ (c8 : Int) := by omega
  have hp2 : (p3 : Int) ≤ (p3 : Int) + 1 := by omega
  have hp9 : (p3 : Int) + 1 - (p3 : Int) = 1 := by omega
  have HB1 := Lib.hid hb1
  have HW1 := Lib.hid hW1
  have HLT := Lib.hid (lt_of hv)
  clear h hT hlt hx hsub hW1 hv hb1
  go_enter Tryz.func28, Tryz.ntmps28
  go_wp2_with fail
  rw [← HW1.out]
  go_region_held3 (fun w' => w'.cell? ⟨w.heap.size, 0, none⟩ = some (.int .i64 n) ∧ w'.cell? ⟨w.heap.size, 5, none⟩ = some (.int .i64 p3) ∧ w'.cell? ⟨w.heap.size, 8, none⟩ = some (.slice (some a) T c8) ∧ Vb w.heap.size w')
    (first | assumption | exact ⟨m0, m5, m8, ⟨HLT.out⟩⟩ | exact vb_keep ‹_› ‹_›)
    ((go_at_call 90; refine (HOF.out _ (bl_drew HB1.out)).mono ?_; rintro e w2 ⟨A1, ln, c1, rfl, q1, q2⟩; (have HQ := Lib.hid (And.intro q1 (bl_then (w1 := W1.drew) (bl_drew HB1.out) q2))); clear q1))
  all_goals
    go_wp2
    go_ret2
    exact FIN.out _ _ _ _ HQ.out.1 HQ.out.2

theorem r15block_ {w : World} {a : Addr} {ws : List Nat} {T c8 : Nat} (h : Rk .u64 w (some a) (ints ws)) (hT : ws.length = T) (hc : T ≤ c8) (hlt : ∀ x ∈ ws, x < 18446744073709551616) (n m p2 p3 : Int) (p4 : Nat) (p5 : Int) (s : Nat) (hs : s = 64 ∨ s = 128) (i : Nat) (hi : i ≤ 100000) (k : Nat) (hk : k = p4 + i * (s / 8)) (hk8 : k + s / 8 ≤ T) (hT9 : T ≤ 1000000) :
    Calls Tryz.prog 26 #[.agg #[.int .i64 n, .int .i64 m, .int .i64 s, .int .i64 16, .int .i64 p2, .int .i64 p3, .int .i64 p4, .int .i64 p5, .slice (some a) T c8], .int .i64 i] w fun e w' => e = .returned (.string (txt (octs ((ws.drop k).take (s / 8))))) ∧ Below w.heap.size w w' := by
  have hu := Tryz.underlying30
  obtain ⟨l, hl⟩ : ∃ l, l = s / 8 := ⟨_, rfl⟩
  rw [← hl] at hk hk8
  rw [← hl]
  have hsub : Rk .u64 w (some (a.add k)) (ints ((ws.drop k).take l)) := by rw [← ints_dt]; exact (h.drop k).take l
  have hl8 : ((ws.drop k).take l).length = l := by simp; omega
  have HD : Hid (∀ {W : World}, Below w.heap.size w W → ∀ c, Calls Tryz.prog 87 #[.slice (some (a.add k)) l c] W fun e w' => e = .returned (.string (txt (octs ((ws.drop k).take l)))) ∧ Below W.heap.size W w') := by
    intro W hb c
    have := rbytes_ (hsub.below hb) (fun x hx => hlt x (List.mem_of_mem_drop (List.mem_of_mem_take hx))) c (by rw [hl8]; omega)
    rw [hl8] at this
    exact this
  generalize txt (octs ((ws.drop k).take l)) = R at *
  have hl0 : 8 ≤ l ∧ l ≤ 16 := by omega
  obtain ⟨hl1, hl2⟩ := hl0
  have hv := alloc_new w (.cells #[.int .i64 n, .int .i64 m, .int .i64 s, .int .i64 16, .int .i64 p2, .int .i64 p3, .int .i64 p4, .int .i64 p5, .slice (some a) T c8] 30)
  have hb1 := bl_alloc (Below.refl w.heap.size w) (.cells #[.int .i64 n, .int .i64 m, .int .i64 s, .int .i64 16, .int .i64 p2, .int .i64 p3, .int .i64 p4, .int .i64 p5, .slice (some a) T c8] 30)
  have HB1 := Lib.hid hb1
  have hk1 : (p4 : Int) + (i : Int) * s / 8 = (k : Int) := by
    rcases hs with rfl | rfl
    · obtain rfl : l = 8 := by omega
      omega
    · obtain rfl : l = 16 := by omega
      omega
  have hmul : 0 ≤ (i : Int) * s ∧ (i : Int) * s ≤ 100000000 := by
    rcases hs with rfl | rfl <;> omega
  have hs8 : (s : Int) / 8 = (l : Int) := by omega
  have hp9 : p4 ≤ 1000000 := by omega
  have hk9 : k ≤ 1000000 := by omega
  have hkc : k + l ≤ c8 := by omega
  have hne : ¬ (c8 = k) := by omega
  obtain rfl : k = p4 + i * s / 8 := by
    have : ((p4 + i * s / 8 : Nat) : Int) = (k : Int) := by rw [← hk1]; norm_cast
    omega
  obtain ⟨hm0, hm1⟩ := hmul
  clear h hsub hl8 hlt hT hs hk hl hk8 hT9 hb1 hc hk1
  go_enter Tryz.func26, Tryz.ntmps26
  go_wp2_with (go_at_call 87; refine (HD.out HB1.out _).mono ?_; rintro e w3 ⟨rfl, hb⟩; (have HB3 := Lib.hid (bl_then HB1.out hb)); clear hb)
  go_ret
  exact ⟨rfl, HB3.out⟩

end Go.Proofs.YtgnagbbdnlmgeaaGreat.Je
end

/- Words compared by the law (cantlelaw03.Same). -/
section
set_option linter.unusedVariables false
set_option linter.unusedSimpArgs false
set_option maxHeartbeats 1000000
namespace Go.Proofs.YtgnagbbdnlmgeaaGreat.Pm
open Go Go.RowKit
open Go.ChangeMaps (setBlock)
open Go.Proofs.YtgnagbbdnlmgeaaGreat.Ob Go.Proofs.YtgnagbbdnlmgeaaGreat.Mp Go.Proofs.YtgnagbbdnlmgeaaGreat.Dv Go.Proofs.YtgnagbbdnlmgeaaGreat.Wl

set_option maxRecDepth 100000 in
theorem same_words {w : World} {A B : Option Addr} {l m : List Int} (h : Rd w A l) (k : Rd w B m) (c1 c2 : Nat) (hl : l.length ≤ 9223372036854775807) (hm : m.length ≤ 9223372036854775807) :
    Calls Tryz.prog 17 #[.slice A l.length c1, .slice B m.length c2] w fun e w' => e = .returned (.bool (decide (l = m))) ∧ ∃ n, w' = w.drewN n := by
  have H := Lib.hid h
  have K := Lib.hid k
  clear h k
  by_cases he : l.length = m.length
  · obtain ⟨n, hn⟩ : ∃ n, n = l.length := ⟨_, rfl⟩
    rw [← he, ← hn]
    rw [← hn] at hl
    have HN : Hid (n = l.length ∧ n = m.length) := ⟨hn, by rw [hn, he]⟩
    clear hn he hm
    go_enter Tryz.func17, Tryz.ntmps17
    go_wp2_with fail
    go_loopw [13] (fun c13 wr => ∃ i : Nat, i ≤ n ∧ c13 = .int .i64 i ∧ ∃ q, Hid (wr = w.drewN q ∧ l.take i = m.take i)) (fun c13 _ => n - (intOf c13).toNat)
    case atStart => exact ⟨0, Nat.zero_le _, rfl, 0, rfl, rfl⟩
    case round =>
      obtain ⟨i, hi, rfl, q, HR⟩ := hrel
      by_cases hlt : i < n
      · obtain ⟨x, hx⟩ : ∃ x, l[i]? = some x := ⟨_, List.getElem?_eq_getElem (by rw [← HN.out.1]; exact hlt)⟩
        obtain ⟨y, hy⟩ : ∃ y, m[i]? = some y := ⟨_, List.getElem?_eq_getElem (by rw [← HN.out.2]; exact hlt)⟩
        have hl2 : Rd wr A l := by rw [HR.out.1]; exact H.out.drewN q
        have hm2 : Rd wr B m := by rw [HR.out.1]; exact K.out.drewN q
        obtain ⟨a, rfl, -, ha⟩ := hl2 i x hx
        obtain ⟨b, rfl, -, hb⟩ := hm2 i y hy
        have HX := Lib.hid (And.intro hx hy)
        clear hx hy hl2 hm2
        by_cases hxy : x = y
        · have e1 : (x != y) = false := by simp [hxy]
          have EX := Lib.hid hxy
          clear hxy
          go_wp2
          go_quiet (fail)
          go_wp2
          go_roundw
          case rel => exact ⟨i + 1, by omega, by go_num, q + nq, by show _ ∧ _; rw [HR.out.1]; exact ⟨drewN_two _ _ _, eq_step HX.out.1 HX.out.2 HR.out.2 EX.out⟩⟩
          case measure => simp [intOf]; omega
        · have e1 : (x != y) = true := bne_iff_ne.2 hxy
          have EX := Lib.hid hxy
          clear hxy
          go_wp2
          go_quiet (fail)
          go_wp2
          go_ret
          have hd : decide (l = m) = false := by
            apply decide_eq_false
            rintro rfl
            have := HX.out.1.symm.trans HX.out.2
            simp at this
            exact EX.out this
          rw [hd]
          exact ⟨rfl, _, by rw [HR.out.1]; exact drewN_two _ _ _⟩
      · obtain rfl : i = n := by omega
        go_wp2
        go_ret
        have hd : decide (l = m) = true := by
          apply decide_eq_true
          have h1 := HR.out.2
          rw [List.take_of_length_le (by rw [← HN.out.1]; omega), List.take_of_length_le (by rw [← HN.out.2]; omega)] at h1
          exact h1
        rw [hd]
        exact ⟨rfl, q, HR.out.1⟩
  · have hd : decide (l = m) = false := by
      apply decide_eq_false
      intro e
      exact he (by rw [e])
    rw [hd]
    have e1 : ((l.length : Int) != (m.length : Int)) = true := by rw [bne_iff_ne]; omega
    clear hd he
    generalize l.length = x at *
    generalize m.length = y at *
    go_enter Tryz.func17, Tryz.ntmps17
    go_wp2
    go_ret
    exact ⟨rfl, 0, rfl⟩

end Go.Proofs.YtgnagbbdnlmgeaaGreat.Pm
end

/- The laws' look at a bitmap (cantlelaw10.Same), of one word. -/
section
set_option linter.unusedVariables false
set_option linter.unusedSimpArgs false
set_option maxHeartbeats 2000000
set_option maxRecDepth 100000
namespace Go.Proofs.YtgnagbbdnlmgeaaGreat.Je
open Go Go.RowKit
open Go.Proofs.YtgnagbbdnlmgeaaGreat.Ob Go.Proofs.YtgnagbbdnlmgeaaGreat.Ba Go.Proofs.YtgnagbbdnlmgeaaGreat.Oc Go.Proofs.YtgnagbbdnlmgeaaGreat.Pk Go.Proofs.YtgnagbbdnlmgeaaGreat.R0 Go.Proofs.YtgnagbbdnlmgeaaGreat.Jd Go.Proofs.YtgnagbbdnlmgeaaGreat.Bm

theorem bwr_bits (x : Nat) : ∀ n, bwr (bitsOf x n) = x % 2 ^ n
  | 0 => by simp [bitsOf, bwr, Nat.mod_one]
  | n + 1 => by
    rw [bitsOf, bwr_snoc, bwr_bits x n, bitsOf_length, Nat.mod_pow_succ, Nat.testBit_eq_decide_div_mod_eq]
    have hm : x / 2 ^ n % 2 < 2 := Nat.mod_lt _ (by decide)
    by_cases h : x / 2 ^ n % 2 = 1
    · simp [h]
    · have h0 : x / 2 ^ n % 2 = 0 := by omega
      simp [h0]
theorem bget_bits (x n i : Nat) (hi : i < n) (hn : n ≤ 63) : bget [x] i = x.testBit i := by
  unfold bget
  rw [Nat.div_eq_of_lt (by omega), Nat.mod_eq_of_lt (by omega)]
  rfl

theorem lsame_ {W : World} {B b n x : Nat} {A : Option Addr} {c : Nat} (h : Bm W B b n [x] A c) (hx : x < 2 ^ n) (hn1 : 1 ≤ n) (hn : n ≤ 24) {D : Option Addr} (hD : RB W D (bitsOf x n)) (cd : Nat) :
    Calls Tryz.prog 31 #[.pointer (some ⟨b, 0, none⟩), .slice D n cd] W fun e w' => e = .returned (.bool true) ∧ Below W.heap.size W w' := by
  have HH : Hid (∀ i : Int, Calls Tryz.prog 94 #[.pointer (some ⟨b, 0, none⟩), .int .i64 i] W fun e w' => e = .returned (.bool (bhas n [x] i)) ∧ w' = W) := fun i => has_ h i
  have HD := Lib.hid hD
  have HL := Lib.hid (len_ h)
  have HC := Lib.hid (count_ h hx hn)
  have HF := Lib.hid (free_ h hx hn)
  have hx64 : x < 18446744073709551616 := Nat.lt_of_lt_of_le hx (show 2 ^ n ≤ 2 ^ 64 from Nat.pow_le_pow_right (by decide) (by omega))
  have HRC : Hid (∀ {W' : World}, Below W.heap.size W W' → Calls Tryz.prog 96 #[.slice D n cd] W' fun e w' => e = .returned (.int .i64 (cnt (bitsOf x n) : Nat)) ∧ w' = W') := fun {W'} hb => by
    have := rcount_ (hD.below hb) cd (by rw [bitsOf_length]; omega)
    rw [bitsOf_length] at this
    exact this
  have HWO : Hid (∀ {W' : World}, Below W.heap.size W W' → _) := fun {W'} hb => words_of (h.keep hb)
  have HRW : Hid (∀ {W' : World}, Below W.heap.size W W' → Calls Tryz.prog 99 #[.slice D n cd] W' fun e w' => ∃ v, e = .returned v ∧ w'.ownsRow W'.heap.size 94 1 v 1 (ivs .u64 (ints [x])) ∧ Below W'.heap.size W' w') := fun {W'} hb => by
    have := rwords1 (hD.below hb) cd (by rw [bitsOf_length]; omega) (by rw [bitsOf_length]; omega)
    rw [bitsOf_length, bwr_bits, Nat.mod_eq_of_lt hx] at this
    exact this
  have HSM : Hid (∀ {W' : World} {A1 A2 : Option Addr} (c1 c2 : Nat), Rk .u64 W' A1 (ints [x]) → Rk .u64 W' A2 (ints [x]) → Calls Tryz.prog 17 #[.slice A1 1 c1, .slice A2 1 c2] W' fun e w' => e = .returned (.bool true) ∧ ∃ q, w' = W'.drewN q) := fun {W'} {A1} {A2} c1 c2 h1 h2 => by
    have := Pm.same_words (w := W') (l := ints [x]) (m := ints [x]) (show Pm.Rd W' A1 (ints [x]) from h1) (show Pm.Rd W' A2 (ints [x]) from h2) c1 c2 (by rw [ints_length]; exact (by decide : (1 : Nat) ≤ 9223372036854775807)) (by rw [ints_length]; exact (by decide : (1 : Nat) ≤ 9223372036854775807))
    rw [decide_eq_true rfl] at this
    exact this
  have hcl := cnt_le (bitsOf x n)
  rw [bitsOf_length] at hcl
  have HBG : Hid (∀ i : Nat, i < n → bhas n [x] (i : Int) = x.testBit i ∧ (bitsOf x n)[i]? = some (x.testBit i)) := fun i hi => ⟨by
    unfold bhas
    rw [decide_eq_true (by omega : (0 : Int) ≤ i), decide_eq_true (by omega : (i : Int) < n)]
    exact bget_bits x n i hi (by omega), bitsOf_get x n i hi⟩
  have HB0 : Hid (∀ s : Int, ¬ (0 ≤ s ∧ s < n) → bhas n [x] s = false) := fun s hs => by
    unfold bhas
    by_cases h1 : 0 ≤ s
    · rw [decide_eq_false (by omega : ¬ s < (n : Int))]; simp
    · rw [decide_eq_false h1]; rfl
  generalize cnt (bitsOf x n) = r at *
  clear h hx hD hx64
  go_enter Tryz.func31, Tryz.ntmps31
  go_wp2_with fail
  go_loop [5] (fun c5 => ∃ s : Int, c5 = .int .i64 s ∧ -1 ≤ s ∧ s ≤ n + 1) (fun c5 => n + 2 - (intOf c5 + 1).toNat)
  case atStart => exact ⟨-1, rfl, by omega, by omega⟩
  case round =>
    obtain ⟨s, rfl, hs0, hs1⟩ := hrel
    by_cases hlt : s ≤ n
    · by_cases hin : 0 ≤ s ∧ s < n
      · obtain ⟨i, rfl⟩ : ∃ i : Nat, s = i := ⟨s.toNat, by omega⟩
        obtain ⟨hi0, hi1⟩ := hin
        have hi2 : i < n := by omega
        obtain ⟨q1, q2⟩ := HBG.out i hi2
        have HI := Lib.hid (HH.out (i : Int))
        rw [q1] at HI
        obtain ⟨a, rfl, -, ha⟩ := HD.out i _ q2
        generalize x.testBit i = tb at *
        have e1 : (tb != tb) = false := by cases tb <;> rfl
        clear q1 q2
        go_wp2_with (go_at_call 94; refine HI.out.mono ?_; rintro e w1 ⟨rfl, rfl⟩)
        go_round
        case rel => exact ⟨(i : Int) + 1, by go_num, by omega, by omega⟩
        case measure => simp [intOf]; omega
      · have HI := Lib.hid (HH.out s)
        rw [HB0.out s hin] at HI
        by_cases h0 : 0 ≤ s
        · obtain rfl : s = n := by omega
          clear hin
          go_wp2_with (go_at_call 94; refine HI.out.mono ?_; rintro e w1 ⟨rfl, rfl⟩)
          go_round
          case rel => exact ⟨(n : Int) + 1, by go_num, by omega, by omega⟩
          case measure => simp [intOf]; omega
        · obtain rfl : s = -1 := by omega
          clear hin
          go_wp2_with (go_at_call 94; refine HI.out.mono ?_; rintro e w1 ⟨rfl, rfl⟩)
          go_round
          case rel => exact ⟨0, by go_num, by omega, by omega⟩
          case measure => simp [intOf] <;> omega
    · obtain rfl : s = n + 1 := by omega
      clear hlt hs0 hs1
      go_wp2_with (first | (go_at_call 95; refine HL.out.mono ?_; rintro e w1 ⟨rfl, rfl⟩) |
        (go_at_call 55; refine HC.out.mono ?_; rintro e w1 ⟨rfl, rfl⟩) |
        (go_at_call 97; refine HF.out.mono ?_; rintro e w3 ⟨rfl, hb3⟩; (have HB3 := Lib.hid hb3); clear hb3) |
        (go_at_call 96; refine (HRC.out (by first | exact HB3.out | exact Below.refl _ _)).mono ?_; rintro e w2 ⟨rfl, rfl⟩) |
        (go_at_call 98; refine (HWO.out HB3.out).mono ?_; rintro e w4 ⟨v4, rfl, hown, hb4⟩; (obtain ⟨A4, c4, rfl⟩ := own_slice hown); (have HB4 := Lib.hid (bl_then HB3.out hb4)); (have HR4 := Lib.hid (own_rk (k := .u64) hown).1); clear hown hb4) |
        (go_at_call 99; refine (HRW.out HB4.out).mono ?_; rintro e w5 ⟨v5, rfl, hown, hb5⟩; (obtain ⟨A5, c5, rfl⟩ := own_slice hown); (have HB5 := Lib.hid (bl_then HB4.out hb5)); (have HR5 := Lib.hid (own_rk (k := .u64) hown).1); (have HR45 := Lib.hid (HR4.out.below hb5)); clear hown hb5) |
        (go_at_call 17; refine (HSM.out _ _ HR45.out HR5.out).mono ?_; rintro e w6 ⟨rfl, q, hq⟩; (have HQ := Lib.hid hq); clear hq))
      go_ret
      exact ⟨rfl, by rw [HQ.out]; exact bl_drewN HB5.out _⟩

theorem code_ (i n : Int) (w : World) : Calls Tryz.prog 24 #[.int .i64 i, .int .i64 n] w fun e w' => e = .returned (.int .i64 (if i < 0 ∨ n ≤ i then 9 else 2)) ∧ w' = w := by
  by_cases h0 : i < 0
  · rw [if_pos (.inl h0)]
    go_enter Tryz.func24, Tryz.ntmps24
    go_wp2_with fail
    go_ret
    exact ⟨rfl, rfl⟩
  · by_cases h1 : n ≤ i
    · rw [if_pos (.inr h1)]
      go_enter Tryz.func24, Tryz.ntmps24
      go_wp2_with fail
      go_ret
      exact ⟨rfl, rfl⟩
    · rw [if_neg (by omega)]
      go_enter Tryz.func24, Tryz.ntmps24
      go_wp2_with fail
      go_ret
      exact ⟨rfl, rfl⟩

end Go.Proofs.YtgnagbbdnlmgeaaGreat.Je
end

/- The document's volume: cantleref15.Of. -/
section
set_option linter.unusedVariables false
set_option linter.unusedSimpArgs false
set_option maxHeartbeats 2000000
set_option maxRecDepth 100000
namespace Go.Proofs.YtgnagbbdnlmgeaaGreat.Rf
open Go Go.RowKit
open Go.Proofs.YtgnagbbdnlmgeaaGreat.Ob Go.Proofs.YtgnagbbdnlmgeaaGreat.Ba Go.Proofs.YtgnagbbdnlmgeaaGreat.Ko Go.Proofs.YtgnagbbdnlmgeaaGreat.Ge Go.Proofs.YtgnagbbdnlmgeaaGreat.Oc Go.Proofs.YtgnagbbdnlmgeaaGreat.Pk Go.Proofs.YtgnagbbdnlmgeaaGreat.Su

/-- the document's volume, of a geometry, over a slice of words -/
def vcells (n m s : Int) (W : Value) : Array Value := #[.int .i64 n, .int .i64 m, .int .i64 s, .int .i64 16, .int .i64 (16 + 8 * m), .int .i64 (bmAt n m), .int .i64 (bkAt n m), .int .i64 (tot n m s), W]

theorem put9 {W : World} {k T : Nat} {x0 x1 x2 x3 x4 x5 x6 x7 x8 : Value} (h : W.heap[k]? = some (.cells #[x0, x1, x2, x3, x4, x5, x6, x7, x8] T (0, 0))) (y0 y1 y2 y3 y4 y5 y6 y7 y8 : Value) :
    (((((((((W.setCell ⟨k, 0, none⟩ y0).setCell ⟨k, 1, none⟩ y1).setCell ⟨k, 2, none⟩ y2).setCell ⟨k, 3, none⟩ y3).setCell ⟨k, 4, none⟩ y4).setCell ⟨k, 5, none⟩ y5).setCell ⟨k, 6, none⟩ y6).setCell ⟨k, 7, none⟩ y7).setCell ⟨k, 8, none⟩ y8).heap[k]? = some (.cells #[y0, y1, y2, y3, y4, y5, y6, y7, y8] T (0, 0)) := by
  have h0 : (W.setCell ⟨k, 0, none⟩ y0).heap[k]? = some (.cells #[y0, x1, x2, x3, x4, x5, x6, x7, x8] T (0, 0)) := set_same h 0 y0
  have h1 : ((W.setCell ⟨k, 0, none⟩ y0).setCell ⟨k, 1, none⟩ y1).heap[k]? = some (.cells #[y0, y1, x2, x3, x4, x5, x6, x7, x8] T (0, 0)) := set_same h0 1 y1
  have h2 : (((W.setCell ⟨k, 0, none⟩ y0).setCell ⟨k, 1, none⟩ y1).setCell ⟨k, 2, none⟩ y2).heap[k]? = some (.cells #[y0, y1, y2, x3, x4, x5, x6, x7, x8] T (0, 0)) := set_same h1 2 y2
  have h3 : ((((W.setCell ⟨k, 0, none⟩ y0).setCell ⟨k, 1, none⟩ y1).setCell ⟨k, 2, none⟩ y2).setCell ⟨k, 3, none⟩ y3).heap[k]? = some (.cells #[y0, y1, y2, y3, x4, x5, x6, x7, x8] T (0, 0)) := set_same h2 3 y3
  have h4 : (((((W.setCell ⟨k, 0, none⟩ y0).setCell ⟨k, 1, none⟩ y1).setCell ⟨k, 2, none⟩ y2).setCell ⟨k, 3, none⟩ y3).setCell ⟨k, 4, none⟩ y4).heap[k]? = some (.cells #[y0, y1, y2, y3, y4, x5, x6, x7, x8] T (0, 0)) := set_same h3 4 y4
  have h5 : ((((((W.setCell ⟨k, 0, none⟩ y0).setCell ⟨k, 1, none⟩ y1).setCell ⟨k, 2, none⟩ y2).setCell ⟨k, 3, none⟩ y3).setCell ⟨k, 4, none⟩ y4).setCell ⟨k, 5, none⟩ y5).heap[k]? = some (.cells #[y0, y1, y2, y3, y4, y5, x6, x7, x8] T (0, 0)) := set_same h4 5 y5
  have h6 : (((((((W.setCell ⟨k, 0, none⟩ y0).setCell ⟨k, 1, none⟩ y1).setCell ⟨k, 2, none⟩ y2).setCell ⟨k, 3, none⟩ y3).setCell ⟨k, 4, none⟩ y4).setCell ⟨k, 5, none⟩ y5).setCell ⟨k, 6, none⟩ y6).heap[k]? = some (.cells #[y0, y1, y2, y3, y4, y5, y6, x7, x8] T (0, 0)) := set_same h5 6 y6
  have h7 : ((((((((W.setCell ⟨k, 0, none⟩ y0).setCell ⟨k, 1, none⟩ y1).setCell ⟨k, 2, none⟩ y2).setCell ⟨k, 3, none⟩ y3).setCell ⟨k, 4, none⟩ y4).setCell ⟨k, 5, none⟩ y5).setCell ⟨k, 6, none⟩ y6).setCell ⟨k, 7, none⟩ y7).heap[k]? = some (.cells #[y0, y1, y2, y3, y4, y5, y6, y7, x8] T (0, 0)) := set_same h6 7 y7
  have h8 : (((((((((W.setCell ⟨k, 0, none⟩ y0).setCell ⟨k, 1, none⟩ y1).setCell ⟨k, 2, none⟩ y2).setCell ⟨k, 3, none⟩ y3).setCell ⟨k, 4, none⟩ y4).setCell ⟨k, 5, none⟩ y5).setCell ⟨k, 6, none⟩ y6).setCell ⟨k, 7, none⟩ y7).setCell ⟨k, 8, none⟩ y8).heap[k]? = some (.cells #[y0, y1, y2, y3, y4, y5, y6, y7, y8] T (0, 0)) := set_same h7 8 y8
  exact h8

theorem bl_put9 {w W : World} {k : Nat} (h : Below w.heap.size w W) (hk : w.heap.size ≤ k) (y0 y1 y2 y3 y4 y5 y6 y7 y8 : Value) :
    Below w.heap.size w (((((((((W.setCell ⟨k, 0, none⟩ y0).setCell ⟨k, 1, none⟩ y1).setCell ⟨k, 2, none⟩ y2).setCell ⟨k, 3, none⟩ y3).setCell ⟨k, 4, none⟩ y4).setCell ⟨k, 5, none⟩ y5).setCell ⟨k, 6, none⟩ y6).setCell ⟨k, 7, none⟩ y7).setCell ⟨k, 8, none⟩ y8) :=
  bl_set (bl_set (bl_set (bl_set (bl_set (bl_set (bl_set (bl_set (bl_set h hk _) hk _) hk _) hk _) hk _) hk _) hk _) hk _) hk _


theorem of15_ (n m s : Int) (h : geoOk n m s = true) (A : Option Addr) (len c : Nat) (w : World) :
    Calls Tryz.prog 123 #[.int .i64 n, .int .i64 m, .int .i64 s, .slice A len c] w fun e w' => e = .returned (.agg (vcells n m s (.slice A len c))) ∧ Below w.heap.size w w' := by
  have hu := Tryz.underlying30
  have hof := of_any n m s
  have hp : parts n m s = (16, 16 + 8 * m, bmAt n m, bkAt n m, tot n m s, true) := by unfold parts; rw [h]; rfl
  rw [hp] at hof
  have HOF := Lib.hid hof
  have HV : Hid (vcells n m s (.slice A len c) = #[.int .i64 n, .int .i64 m, .int .i64 s, .int .i64 16, .int .i64 (16 + 8 * m), .int .i64 (bmAt n m), .int .i64 (bkAt n m), .int .i64 (tot n m s), .slice A len c]) := rfl
  generalize bmAt n m = p3 at *
  generalize bkAt n m = p4 at *
  generalize tot n m s = p5 at *
  generalize 16 + 8 * m = p2 at *
  clear h hof hp
  go_enter Tryz.func123, Tryz.ntmps123
  go_wp2_with (go_at_call 160; refine (HOF.out _).mono ?_; rintro e w1 ⟨rfl, hb⟩; (have hq := blk_bl (alloc_new w (.cells #[.int .i64 0, .int .i64 0, .int .i64 0, .int .i64 0, .int .i64 0, .int .i64 0, .int .i64 0, .int .i64 0, .slice none 0 0] 30)) hb); (have HQ := Lib.hid hq); (have HB := Lib.hid (bl_then (bl_alloc (Below.refl _ _) _) hb)); (have hsz := hb.size); (have hz1 : w.heap.size < w1.heap.size := by (simp only [World.size_alloc] at hsz; omega)); (have l0 := cell_of hq 0); (have l1 := cell_of hq 1); (have l2 := cell_of hq 2); (have l3 := cell_of hq 3); (have l4 := cell_of hq 4); (have l5 := cell_of hq 5); (have l6 := cell_of hq 6); (have l7 := cell_of hq 7); (have l8 := cell_of hq 8); (have f0 := free_of hq 0); (have f1 := free_of hq 1); (have f2 := free_of hq 2); (have f3 := free_of hq 3); (have f4 := free_of hq 4); (have f5 := free_of hq 5); (have f6 := free_of hq 6); (have f7 := free_of hq 7); (have f8 := free_of hq 8); clear hb hq hsz)
  have hp9 := put9 HQ.out (.int .i64 n) (.int .i64 m) (.int .i64 s) (.int .i64 16) (.int .i64 p2) (.int .i64 p3) (.int .i64 p4) (.int .i64 p5) (.slice A len c)
  have hb9 := bl_put9 HB.out (Nat.le_refl _) (.int .i64 n) (.int .i64 m) (.int .i64 s) (.int .i64 16) (.int .i64 p2) (.int .i64 p3) (.int .i64 p4) (.int .i64 p5) (.slice A len c)
  rw [HV.out]
  refine bodyPost_ret (res_c rfl _ _ w.heap.size 30 _ (0, 0) _ rfl (alloc_old hp9 _) hu rfl ?_) rfl ⟨rfl, bl_alloc hb9 _⟩
  kernel_rfl

end Go.Proofs.YtgnagbbdnlmgeaaGreat.Rf
end

/- pm.Of: a device of given words. -/
section
set_option linter.unusedVariables false
set_option linter.unusedSimpArgs false
set_option maxHeartbeats 2000000
set_option maxRecDepth 100000
namespace Go.Proofs.YtgnagbbdnlmgeaaGreat.Pm
open Go Go.RowKit
open Go.Proofs.YtgnagbbdnlmgeaaGreat.Ob Go.Proofs.YtgnagbbdnlmgeaaGreat.Mp Go.Proofs.YtgnagbbdnlmgeaaGreat.Dv Go.Proofs.YtgnagbbdnlmgeaaGreat.Wl Go.Proofs.YtgnagbbdnlmgeaaGreat.Ba

def devOf (l : List Int) : Dev := ⟨0, 0, l, [], none⟩
theorem devOf_wf (l : List Int) (h : l.length ≤ 4194304) : (devOf l).Wf :=
  ⟨h, by simp [devOf], by simp [devOf], by simp [devOf], by simp [devOf], by simp [devOf], by simp [devOf], by simp [devOf], by simp [devOf], by simp [devOf]⟩

theorem of_dev {B : Nat} {W : World} {l : List Int} {A : Option Addr} {c : Nat} (hB : B ≤ W.heap.size) (h : W.ownsRow B 94 1 (.slice A l.length c) l.length (u64s l)) (hl : l.length ≤ 4194304) :
    ∃ g, DevIs ((W.alloc (.map #[] 0)).alloc (.cells #[.int .i64 0, .int .i64 0, .slice A l.length c, .map (some W.heap.size), .bool false, .int .i64 0] 146 (0, 0))) (W.heap.size + 1) (devOf l) g ∧ (∀ k ∈ g.foot (W.heap.size + 1), B ≤ k) := by
  obtain ⟨A', c', qs, hv, hsl, hqs⟩ := Sl.of_own h
  simp only [Value.slice.injEq, true_and] at hv
  obtain ⟨rfl, rfl⟩ := hv
  have hlt : ∀ q ∈ qs, q < W.heap.size := by
    obtain ⟨_, ⟨_, rfl⟩ | ⟨q', o', cs', _, rfl, hb', _⟩⟩ := hsl
    · simp
    · intro q hq
      simp at hq
      subst hq
      exact lt_of hb'
  have hnd : qs.Nodup := by
    obtain ⟨_, ⟨_, rfl⟩ | ⟨q', o', cs', _, rfl, hb', _⟩⟩ := hsl <;> simp
  have b2 := alloc_new (W.alloc (.map #[] 0)) (.cells #[.int .i64 0, .int .i64 0, .slice A l.length c, .map (some W.heap.size), .bool false, .int .i64 0] 146 (0, 0))
  simp only [World.size_alloc] at b2
  refine ⟨⟨A, c, qs, W.heap.size, 0, []⟩, ⟨b2, hsl.keep (fun q hq => ?_), alloc_old (alloc_new W _) _, by simp, rfl, ?_, by simp, by simp, devOf_wf l hl⟩, ?_⟩
  · have := hlt q hq
    rw [Below.heap_alloc _ _ q (by simp; omega), Below.heap_alloc _ _ q this]
  · simp only [Lay.foot, Lay.ents, List.flatMap_nil, List.append_nil, List.nodup_cons, List.mem_cons, not_or]
    refine ⟨⟨by omega, fun hq => ?_⟩, fun hq => ?_, hnd⟩
    · have := hlt _ hq; omega
    · have := hlt _ hq; omega
  · intro k hk
    simp only [Lay.foot, Lay.ents, List.flatMap_nil, List.append_nil, List.mem_cons] at hk
    rcases hk with rfl | rfl | hk
    · omega
    · exact hB
    · exact hqs k hk

theorem of_any {w : World} {a : Addr} {l : List Int} (h : Rd w (some a) l) (c : Nat) (hc : l.length ≤ c) (hl : l.length ≤ 4194304) :
    Calls Tryz.prog 124 #[.slice (some a) l.length c] w fun e w' => ∃ v, e = .returned v ∧ DevNew w w' v (devOf l) := by
  have HCL := Lib.hid (clone_any h c hl (by simp))
  have HL := Lib.hid hl
  obtain ⟨n, hn⟩ : ∃ n, n = l.length := ⟨_, rfl⟩
  rw [← hn]
  rw [← hn] at hc hl HCL
  have HN := Lib.hid hn
  have hmin : min (n : Int) 4194304 = n := by omega
  have hc1 : ¬ ((c : Int) < n) := by omega
  have hmm := @run_makeMap Tryz.prog
  clear h hn
  go_enter Tryz.func124, Tryz.ntmps124
  go_wp2_with fail
  refine HCL.out.mono ?_
  rintro e w2 ⟨v2, rfl, hown, hb⟩
  have HO := Lib.hid hown
  have HB := Lib.hid hb
  obtain ⟨A2, c2, rfl⟩ := own_slice hown
  clear hown hb HCL
  go_wp2_with fail
  go_ret
  have ho := HO.out
  rw [HN.out] at ho
  obtain ⟨g, h1, h2⟩ := of_dev HB.out.size ho HL.out
  rw [← HN.out] at h1
  exact ⟨_, rfl, _, g, rfl, h1, h2, bl_alloc (bl_alloc HB.out _) _⟩

end Go.Proofs.YtgnagbbdnlmgeaaGreat.Pm
end

/- The laws' raw images: their geometry. -/
section
set_option linter.unusedVariables false
set_option linter.unusedSimpArgs false
set_option maxHeartbeats 2000000
set_option maxRecDepth 100000
namespace Go.Proofs.YtgnagbbdnlmgeaaGreat.Ra
open Go Go.RowKit
open Go.Proofs.YtgnagbbdnlmgeaaGreat.Ob Go.Proofs.YtgnagbbdnlmgeaaGreat.Ba Go.Proofs.YtgnagbbdnlmgeaaGreat.Ko Go.Proofs.YtgnagbbdnlmgeaaGreat.Ge Go.Proofs.YtgnagbbdnlmgeaaGreat.Oc Go.Proofs.YtgnagbbdnlmgeaaGreat.Pk Go.Proofs.YtgnagbbdnlmgeaaGreat.Su Go.Proofs.YtgnagbbdnlmgeaaGreat.Rf

def gB (r : Nat) : Nat := 1 + r % 20
def gS (r : Nat) : Nat := if r % 2 = 0 then 64 else 128
theorem gS_or (r : Nat) : gS r = 64 ∨ gS r = 128 := by unfold gS; split <;> simp
theorem gB_in (r : Nat) : 1 ≤ gB r ∧ gB r ≤ 20 := by unfold gB; omega
theorem g_ok (a b c : Nat) : geoOk (gB a) (gB b) (gS c) = true := by
  obtain ⟨h1, h2⟩ := gB_in a
  obtain ⟨h3, h4⟩ := gB_in b
  generalize gB a = n at *
  generalize gB b = m at *
  rcases gS_or c with h | h
  all_goals
    rw [h]
    simp only [geoOk, inB, Bool.and_eq_true, decide_eq_true_eq]
    refine ⟨⟨⟨⟨⟨by omega, by omega⟩, by omega⟩, by omega⟩, by decide⟩, ?_⟩
    unfold tot up8
    omega
theorem g_tot (a b c : Nat) : 40 ≤ tot (gB a) (gB b) (gS c) ∧ tot (gB a) (gB b) (gS c) ≤ 1000 := by
  obtain ⟨h1, h2⟩ := gB_in a
  obtain ⟨h3, h4⟩ := gB_in b
  generalize gB a = n at *
  generalize gB b = m at *
  rcases gS_or c with h | h
  all_goals
    rw [h]
    unfold tot up8
    omega

theorem geometry_ (r0 r1 r2 : Nat) (h0 : r0 < 256) (h1 : r1 < 256) (h2 : r2 < 256) (A : Option Addr) (len c : Nat) (w : World) :
    Calls Tryz.prog 15 #[.agg #[.int .u8 r0, .int .u8 r1, .int .u8 r2, .slice A len c]] w fun e w' => e = .returned (.agg #[.int .i64 (gB r0), .int .i64 (gB r1), .int .i64 (gS r2)]) ∧ Below w.heap.size w w' := by
  have hu := Tryz.underlying34
  have hur := Tryz.underlying24
  have q0 : 1 + (r0 : Int) % 20 = (gB r0 : Nat) := by unfold gB; omega
  have q1 : 1 + (r1 : Int) % 20 = (gB r1 : Nat) := by unfold gB; omega
  have Q := Lib.hid (And.intro q0 q1)
  clear q0 q1
  obtain ⟨q, hq⟩ : ∃ q, q = r2 % 2 := ⟨_, rfl⟩
  have hq1 : (r2 : Int) % 2 = (q : Int) := by omega
  have hS : Hid (gS r2 = if q = 0 then 64 else 128) := by rw [hq]; rfl
  rcases (by omega : q = 0 ∨ q = 1) with rfl | rfl
  all_goals
    clear hq
    go_enter Tryz.func15, Tryz.ntmps15
    go_wp2_with fail
    rw [Q.out.1, Q.out.2]
    have hal := alloc_new (w.alloc (.cells #[.int .u8 r0, .int .u8 r1, .int .u8 r2, .slice A len c] 24)) (.cells #[.int .i64 (gB r0 : Nat), .int .i64 (gB r1 : Nat), .int .i64 (gS r2 : Nat)] 34)
    rw [World.size_alloc] at hal
    have hs := hS.out
    simp at hs
    rw [hs] at hal ⊢
    refine bodyPost_ret (res_c rfl _ _ (w.heap.size + 1) 34 _ (0, 0) _ rfl hal hu rfl ?_) rfl ⟨rfl, bl_alloc (bl_alloc (Below.refl _ _) _) _⟩
    kernel_rfl

end Go.Proofs.YtgnagbbdnlmgeaaGreat.Ra
end

/- The document's volume written: cantleref15.Put. -/
section
set_option linter.unusedVariables false
set_option linter.unusedSimpArgs false
set_option maxHeartbeats 2000000
set_option maxRecDepth 100000
namespace Go.Proofs.YtgnagbbdnlmgeaaGreat.Rf
open Go Go.RowKit
open Go.Proofs.YtgnagbbdnlmgeaaGreat.Ob Go.Proofs.YtgnagbbdnlmgeaaGreat.Ba Go.Proofs.YtgnagbbdnlmgeaaGreat.Oc Go.Proofs.YtgnagbbdnlmgeaaGreat.Pk

/-- words written from one on -/
def wput (l : List Int) (a : Nat) : List Int → List Int
  | [] => l
  | x :: r => wput (l.set a x) (a + 1) r
def nline (a : Nat) : Nat → Nat
  | 0 => 0
  | i + 1 => nline a i + (if i = 0 ∨ (a + i) % 8 = 0 then 1 else 0)
theorem wput_snoc (l : List Int) (a : Nat) (xs : List Int) (x : Int) : wput l a (xs ++ [x]) = (wput l a xs).set (a + xs.length) x := by
  induction xs generalizing l a with
  | nil => rfl
  | cons y r ih =>
    show wput (l.set a y) (a + 1) (r ++ [x]) = _
    rw [ih]
    show _ = (wput (l.set a y) (a + 1) r).set _ x
    rw [show a + 1 + r.length = a + (y :: r).length from by simp; omega]
theorem wput_length (l : List Int) (a : Nat) (xs : List Int) : (wput l a xs).length = l.length := by
  induction xs generalizing l a with
  | nil => rfl
  | cons y r ih => show (wput (l.set a y) (a + 1) r).length = _; rw [ih, List.length_set]
theorem nline_le (a : Nat) : ∀ i, nline a i ≤ i
  | 0 => Nat.le_refl _
  | i + 1 => by have := nline_le a i; show nline a i + _ ≤ _; split <;> omega
theorem ivs_set (k : IntKind) (l : List Int) (i : Nat) (x : Int) : ivs k (l.set i x) = (ivs k l).set i (.int k x) := by simp [ivs, List.map_set]

def vint (y : List Int) : List Value := y.map (.int .i64)

theorem own_low {W : World} {B T s n : Nat} {v : Value} {xs : List Value} (h : W.ownsRow B T s v n xs) {q : Nat} (hq : q < B) (o : Nat) (u : Value) : (W.setCell ⟨q, o, none⟩ u).ownsRow B T s v n xs :=
  own_kp h (fun k hk _ => Below.heap_setCell _ _ _ k (by show k ≠ q; omega))
theorem own_low9 {W : World} {B T s n : Nat} {v : Value} {xs : List Value} (h : W.ownsRow B T s v n xs) {q : Nat} (hq : q < B) (u0 u1 u2 u3 u4 u5 u6 u7 u8 : Value) : (((((((((W.setCell ⟨q, 0, none⟩ u0).setCell ⟨q, 1, none⟩ u1).setCell ⟨q, 2, none⟩ u2).setCell ⟨q, 3, none⟩ u3).setCell ⟨q, 4, none⟩ u4).setCell ⟨q, 5, none⟩ u5).setCell ⟨q, 6, none⟩ u6).setCell ⟨q, 7, none⟩ u7).setCell ⟨q, 8, none⟩ u8).ownsRow B T s v n xs :=
  own_low (own_low (own_low (own_low (own_low (own_low (own_low (own_low (own_low h hq _ _) hq _ _) hq _ _) hq _ _) hq _ _) hq _ _) hq _ _) hq _ _) hq _ _

end Go.Proofs.YtgnagbbdnlmgeaaGreat.Rf
end
