/- Parts of the proof, one behind the other: Hx, Hy. -/
import Derived.Test.YtgnagbbdnlmgeaaGreatC17
import Derived.Test.YtgnagbbdnlmgeaaGreatC21

/- ChainLoops: plain laws. -/
section
set_option linter.unusedVariables false
set_option linter.unusedSimpArgs false
namespace Go.Proofs.YtgnagbbdnlmgeaaGreat.Tr
open Go Go.RowKit
open Go.Proofs.YtgnagbbdnlmgeaaGreat.Rr Go.Proofs.YtgnagbbdnlmgeaaGreat.Ob Go.Proofs.YtgnagbbdnlmgeaaGreat.Ba Go.Proofs.YtgnagbbdnlmgeaaGreat.Oc Go.Proofs.YtgnagbbdnlmgeaaGreat.Pk Go.Proofs.YtgnagbbdnlmgeaaGreat.Ge Go.Proofs.YtgnagbbdnlmgeaaGreat.Ko Go.Proofs.YtgnagbbdnlmgeaaGreat.Dv Go.Proofs.YtgnagbbdnlmgeaaGreat.Vo Go.Proofs.YtgnagbbdnlmgeaaGreat.Ra Go.Proofs.YtgnagbbdnlmgeaaGreat.Su Go.Proofs.YtgnagbbdnlmgeaaGreat.Lo Go.Proofs.YtgnagbbdnlmgeaaGreat.Je

/-- the slot behind slot j -/
def nxL (K bk : Nat) (j : Nat) : Int := if j + 1 = K then (if bk % (K + 1) = K then -1 else ((bk % (K + 1) : Nat) : Int)) else ((j + 1 : Nat) : Int)
theorem nxL_in {K bk j : Nat} (h : j < K) (hK : K ≤ 65533) : -1 ≤ nxL K bk j ∧ nxL K bk j < 65534 := by
  have := Nat.mod_lt bk (show 0 < K + 1 by omega)
  unfold nxL
  split
  · split <;> omega
  · omega
def lpW (m K bk : Nat) (ws : List Nat) : Nat → List Nat
  | 0 => ws
  | j + 1 => (lpW m K bk ws j).set (16 + 8 * m + j) (sEnc j 1 (nxL K bk j))
theorem lpW_len (m K bk : Nat) (ws : List Nat) : ∀ j, (lpW m K bk ws j).length = ws.length
  | 0 => rfl
  | j + 1 => by show ((lpW m K bk ws j).set _ _).length = _; rw [List.length_set, lpW_len m K bk ws j]
theorem lp_may {K bk j : Nat} (h : j < K) (hK : K ≤ 65533) : sMay (j : Int) 1 (nxL K bk j) = true := by
  have := nxL_in (bk := bk) h hK
  exact decide_eq_true (by omega)
theorem lpW_lt {m K bk : Nat} (hK : K ≤ 65533) {ws : List Nat} (hlt : ∀ x ∈ ws, x < 18446744073709551616) : ∀ j, j ≤ K → ∀ x ∈ lpW m K bk ws j, x < 18446744073709551616
  | 0, _ => hlt
  | j + 1, h => fun y hy => by
    rcases List.mem_or_eq_of_mem_set hy with h1 | h1
    · exact lpW_lt hK hlt j (by omega) y h1
    · rw [h1]; exact sEnc_lt _ _ _ (lp_may (by omega) hK)
theorem lpW_slF {n m K bk : Nat} (hK : K ≤ n) (hn : n ≤ 65533) {ws : List Nat} (hfit : 16 + 8 * m + n ≤ ws.length) : ∀ j, j ≤ K → ∀ i : Nat, i < j → slF (lpW m K bk ws j) n m i = some ((i : Int), 1, nxL K bk i)
  | 0, _ => fun i hi => by omega
  | j + 1, h => fun i hi => by
    show slF ((lpW m K bk ws j).set (16 + 8 * m + j) _) n m i = _
    have e : (16 + 8 * m + j) = 16 + 8 * m + (j : Int).toNat := by simp
    rw [e]
    by_cases hij : i = j
    · subst hij
      exact slF_hit (by omega) (by rw [lpW_len]; exact hfit) (lp_may (by omega) (by omega))
    · rw [slF_miss (by omega) (by omega)]
      exact lpW_slF hK hn hfit j (by omega) i (by omega)

def el (K bk j : Nat) : Int × Tri := ((j : Int), (j : Int), 1, nxL K bk j)
def seg (K bk i c : Nat) : List (Int × Tri) := (List.range c).map fun x => el K bk (i + x)
theorem seg_snoc (K bk i c : Nat) : seg K bk i (c + 1) = seg K bk i c ++ [el K bk (i + c)] := by simp [seg, List.range_succ]
theorem path_seg {n K bk : Nat} {sl : Int → Option Tri} (hK : K ≤ n) (hs : ∀ i : Nat, i < K → sl i = some ((i : Int), 1, nxL K bk i)) (i : Nat) : ∀ c, i + c < K → Path n sl i (seg K bk i c) ((i + c : Nat) : Int)
  | 0, _ => rfl
  | c + 1, h => by
    have h1 := path_seg hK hs i c (by omega)
    rw [seg_snoc]
    have h2 := h1.snoc (by omega) (hs (i + c) (by omega)) (by show ¬ (n : Int) < ((i + c : Nat) : Int) + 1; omega)
    have e : nxL K bk (i + c) = ((i + (c + 1) : Nat) : Int) := by unfold nxL; rw [if_neg (by omega)]; rfl
    rw [← e]
    exact h2
theorem path_full {n K bk : Nat} {sl : Int → Option Tri} (hK : K ≤ n) (hs : ∀ i : Nat, i < K → sl i = some ((i : Int), 1, nxL K bk i)) (i : Nat) (hi : i < K) : Path n sl i (seg K bk i (K - i)) (nxL K bk (K - 1)) := by
  obtain ⟨c, hc⟩ : ∃ c, K - i = c + 1 := ⟨K - i - 1, by omega⟩
  have h1 := path_seg hK hs i c (by omega)
  rw [hc, seg_snoc]
  have h2 := h1.snoc (by omega) (hs (i + c) (by omega)) (by show ¬ (n : Int) < ((i + c : Nat) : Int) + 1; omega)
  rw [show K - 1 = i + c by omega]
  exact h2
theorem lp_end {n K bk : Nat} {sl : Int → Option Tri} (hK : K ≤ n) (h1 : 1 ≤ K) (hs : ∀ i : Nat, i < K → sl i = some ((i : Int), 1, nxL K bk i)) (hb : bk % (K + 1) = K) : chainF n sl n 0 = some (seg K bk 0 K) := by
  have hp := path_full hK hs 0 h1
  have e : nxL K bk (K - 1) = -1 := by unfold nxL; rw [if_pos (by omega), if_pos hb]
  rw [e] at hp
  have hl : (seg K bk 0 (K - 0)).length = K := by simp [seg]
  have h2 := hp.run 0
  rw [hl, chainF_stop] at h2
  have h3 : chainF n sl (0 + K) 0 = some (seg K bk 0 K) := by simpa using h2
  have := chainF_more h3 (n - K)
  rw [show 0 + K + (n - K) = n by omega] at this
  exact this
theorem lp_loop {n K bk : Nat} {sl : Int → Option Tri} (hK : K ≤ n) (h1 : 1 ≤ K) (hs : ∀ i : Nat, i < K → sl i = some ((i : Int), 1, nxL K bk i)) (hb : bk % (K + 1) ≠ K) : chainF n sl n 0 = none := by
  have hlt := Nat.mod_lt bk (show 0 < K + 1 by omega)
  have e : nxL K bk (K - 1) = ((bk % (K + 1) : Nat) : Int) := by unfold nxL; rw [if_pos (by omega), if_neg hb]
  have hp := path_full hK hs (bk % (K + 1)) (by omega)
  rw [e] at hp
  have h0 := path_seg (bk := bk) hK hs 0 (bk % (K + 1)) (by omega)
  rw [Nat.zero_add] at h0
  refine chainF_loop h0 hp (fun h9 => ?_) n
  have := congrArg List.length h9
  simp [seg] at this
  omega
theorem seg_sum {K bk i c : Nat} : sumR (runsOf ((seg K bk i c).map Prod.snd)) = c := by
  induction c with
  | zero => rfl
  | succ c ih =>
    have e : runsOf ((seg K bk i c ++ [el K bk (i + c)]).map Prod.snd) = runsOf ((seg K bk i c).map Prod.snd) ++ [(((i + c : Nat) : Int), 1)] := by simp [runsOf, el]
    rw [seg_snoc, e, sumR_append, ih]
    show (c : Int) + (max 0 1 + 0) = _
    omega

end Go.Proofs.YtgnagbbdnlmgeaaGreat.Tr
end

/- ChainLoops: the walk. -/
section
set_option linter.unusedVariables false
set_option linter.unusedSimpArgs false
set_option maxHeartbeats 4000000
set_option maxRecDepth 100000
namespace Go.Proofs.YtgnagbbdnlmgeaaGreat.Hy
open Go Go.RowKit
open Go.Proofs.YtgnagbbdnlmgeaaGreat.Rr Go.Proofs.YtgnagbbdnlmgeaaGreat.Ob Go.Proofs.YtgnagbbdnlmgeaaGreat.Ba Go.Proofs.YtgnagbbdnlmgeaaGreat.Ko Go.Proofs.YtgnagbbdnlmgeaaGreat.Ge Go.Proofs.YtgnagbbdnlmgeaaGreat.Oc Go.Proofs.YtgnagbbdnlmgeaaGreat.Pk Go.Proofs.YtgnagbbdnlmgeaaGreat.Su Go.Proofs.YtgnagbbdnlmgeaaGreat.Rf Go.Proofs.YtgnagbbdnlmgeaaGreat.Dv Go.Proofs.YtgnagbbdnlmgeaaGreat.Vo Go.Proofs.YtgnagbbdnlmgeaaGreat.Ra Go.Proofs.YtgnagbbdnlmgeaaGreat.Jh Go.Proofs.YtgnagbbdnlmgeaaGreat.Ho Go.Proofs.YtgnagbbdnlmgeaaGreat.Lo Go.Proofs.YtgnagbbdnlmgeaaGreat.Tr

/-- behind j slots -/
structure Lp (w wr : World) (v b n m s K bk : Nat) (g : Lay) (ws : List Nat) (j : Nat) (d' : Dev) (g' : Lay) : Prop where
  vol : VolIs wr v b n m s d' g'
  words : Pm.wordsOf d' = ints (lpW m K bk ws j)
  fuse : d'.fuse = none
  steps : d'.steps = 2 * j
  foot : ∀ q ∈ g'.foot b, q ∈ g.foot b ∨ w.heap.size ≤ q
  upd : Upd (g.foot b) w wr

theorem walk (r0 r1 r2 : Nat) (h0 : r0 < 256) (h1 : r1 < 256) (h2 : r2 < 256) (w : World) :
    Calls Tryz.prog 6 #[.int .u8 r0, .int .u8 r1, .int .u8 r2] w fun e w' => e = .returned (.bool true) ∧ Below w.heap.size w w' := by
  have hu := Tryz.underlying30
  have hu2 := Tryz.underlying82
  obtain ⟨n, m, s, T, p3, p4, p5, ws, hi⟩ := im_ r2 1 0 [] (by simp)
  have HO : Hid (∀ {W : World}, _) := fun {W} => open16N h2 (by decide) (by decide) hi (A := none) 0 (by decide) (w := W) (Rk.nil _ _ _)
  have HI := Lib.hid hi
  have hn1 := hi.n1
  have hn2 := hi.n2
  have hnz : ((n : Int) == 0) = false := by rw [beq_eq_false_iff_ne]; omega
  obtain ⟨K, hK⟩ : ∃ K : Nat, K = 1 + r0 % n := ⟨_, rfl⟩
  have hKn : K ≤ n := by have := Nat.mod_lt r0 (show 0 < n by omega); omega
  have HK : Hid ((1 : Int) + (r0 : Int) % (n : Int) = (K : Int)) := by show _ = _; rw [hK]; omega
  have hK1 : 1 ≤ K := by omega
  have HMD : Hid (((r1 % (K + 1) : Nat) : Int) = (r1 : Int) % ((K : Int) + 1)) := by show _ = _; simp
  have hd0 : (((K : Int) + 1) == 0) = false := by rw [beq_eq_false_iff_ne]; omega
  have hd1 : ¬ ((K : Int) + 1 = 0) := by omega
  clear hi h2 hK
  go_enter Tryz.func6, Tryz.ntmps6
  go_wp2_with fail
  refine (lives16 _).mono ?_
  rintro e w1 ⟨rfl, hb1⟩
  have HB1 := Lib.hid hb1
  clear hb1
  go_wp2_with fail
  refine HO.out.mono ?_
  rintro e w2 ⟨v, b, g, a8, c8, rfl, hop⟩
  unfold volA
  obtain ⟨W2, hW2⟩ : ∃ W2, W2 = w2.alloc (.cells #[.int .i64 n, .int .i64 m, .int .i64 s, .int .i64 16, .int .i64 (16 + 8 * m), .int .i64 p3, .int .i64 p4, .int .i64 p5, .slice (some a8) T c8] 30) := ⟨_, rfl⟩
  have hbw : Below w2.heap.size w2 W2 := by rw [hW2]; exact bl_alloc (Below.refl _ _) _
  have HV2 := Lib.hid (hop.vol.below hbw)
  have HB2 := Lib.hid (bl_then (bl_then HB1.out hop.below) hbw)
  have HF2 : Hid (∀ k ∈ g.foot b, w.heap.size ≤ k) := fun k hk => Nat.le_trans HB1.out.size (hop.foot k hk)
  clear hop hbw
  go_wp2_with fail
  rw [← hW2]
  clear hW2
  generalize w2.heap.size = q2 at *
  rw [HK.out, show wrap64 (K : Int) = (K : Int) from by unfold wrap64; omega]
  go_loopw [31] (fun c31 wr => ∃ j : Nat, j ≤ K ∧ c31 = .int .i64 j ∧ Hid (∃ d' g', Lp W2 wr v b n m s K r1 g ws j d' g')) (fun c31 _ => K - (intOf c31).toNat)
  case atStart => exact ⟨0, Nat.zero_le _, rfl, _, g, HV2.out, Vs.words_devOf _, rfl, rfl, fun q hq => .inl hq, Upd.refl _ _⟩
  case round =>
    obtain ⟨j, hj, rfl, d', g', HLP⟩ := hrel
    have HLP := Lib.hid HLP
    by_cases hlt : j < K
    · have HSS : Hid (∀ nx, nx = nxL K r1 j → Calls Tryz.prog 41 #[.pointer (some ⟨v, 0, none⟩), .int .i64 j, .agg #[.int .i64 j, .int .i64 1, .int .i64 nx]] wr fun e w' => e = .returned (.int .i64 0) ∧ ∃ d2 g2, Lp W2 w' v b n m s K r1 g ws (j + 1) d2 g2) := fun nx hnx => by
        subst hnx
        have hln9 : d'.las.length = ws.length := by rw [← Pm.wordsOf_length, HLP.out.words, ints_length, lpW_len]
        have hft : 16 + 8 * m + j + 1 ≤ ws.length := by have := HI.out.fit; have := HI.out.len; omega
        obtain ⟨d2, hput, hpt⟩ := Wp.put_many d' HLP.out.fuse [(sEnc (j : Int) 1 (nxL K r1 j) : Int)] (16 + 8 * m + j) (by rw [hln9]; simp; omega)
        refine (setslot_yes HLP.out.vol (by have := HLP.out.steps; omega) (j : Int) (j : Int) 1 (nxL K r1 j) (by omega) (lp_may hlt (by omega)) (16 + 8 * m + j) (by omega) _ hput).mono ?_
        rintro e w' ⟨rfl, hto⟩
        obtain ⟨g2, hv2, hf2, hu2⟩ := HLP.out.vol.to hto (by rw [hpt.las])
        refine ⟨rfl, d2, g2, hv2, ?_, hpt.fuse, ?_, fun q hq => ?_, HLP.out.upd.trans hu2 HLP.out.foot⟩
        · rw [hpt.words, HLP.out.words]
          show (ints _).set _ _ = ints ((lpW m K r1 ws j).set _ _)
          simp [ints]
        · rw [hpt.steps, HLP.out.steps]
          simp [nline]; omega
        · rcases hf2 q hq with h1 | h1
          · exact HLP.out.foot q h1
          · exact .inr (Nat.le_trans HLP.out.upd.size h1)
      have hK9 : (K : Int) ≤ 20 := by omega
      by_cases hjk : j + 1 = K
      · have e1 : ((j : Int) + 1 == (K : Int)) = true := by rw [beq_iff_eq]; omega
        by_cases hbk : r1 % (K + 1) = K
        · have e2 : ((r1 : Int) % ((K : Int) + 1) == (K : Int)) = true := by rw [beq_iff_eq, ← HMD.out, hbk]
          have HNX : Hid (-1 = nxL K r1 j) := by show _ = _; unfold nxL; rw [if_pos hjk, if_pos hbk]
          go_wp2_with fail
          refine (HSS.out _ HNX.out).mono ?_
          rintro e w3 ⟨rfl, d2, g2, hlp⟩
          have HL2 := Lib.hid hlp
          clear hlp
          go_wp2_with fail
          go_roundw
          case rel => exact ⟨j + 1, by omega, by go_num, d2, g2, HL2.out⟩
          case measure => simp [intOf]; omega
        · have e2 : ((r1 : Int) % ((K : Int) + 1) == (K : Int)) = false := by rw [beq_eq_false_iff_ne, ← HMD.out]; omega
          have HNX : Hid ((r1 : Int) % ((K : Int) + 1) = nxL K r1 j) := by show _ = _; unfold nxL; rw [if_pos hjk, if_neg hbk, ← HMD.out]
          go_wp2_with fail
          refine (HSS.out _ HNX.out).mono ?_
          rintro e w3 ⟨rfl, d2, g2, hlp⟩
          have HL2 := Lib.hid hlp
          clear hlp
          go_wp2_with fail
          go_roundw
          case rel => exact ⟨j + 1, by omega, by go_num, d2, g2, HL2.out⟩
          case measure => simp [intOf]; omega
      · have e1 : ((j : Int) + 1 == (K : Int)) = false := by rw [beq_eq_false_iff_ne]; omega
        have HNX : Hid ((j : Int) + 1 = nxL K r1 j) := by show _ = _; unfold nxL; rw [if_neg hjk]; omega
        go_wp2_with fail
        refine (HSS.out _ HNX.out).mono ?_
        rintro e w3 ⟨rfl, d2, g2, hlp⟩
        have HL2 := Lib.hid hlp
        clear hlp
        go_wp2_with fail
        go_roundw
        case rel => exact ⟨j + 1, by omega, by go_num, d2, g2, HL2.out⟩
        case measure => simp [intOf]; omega
    · obtain rfl : j = K := by omega
      have hft : 16 + 8 * m + n ≤ (lpW m j r1 ws j).length := by rw [lpW_len, HI.out.len]; exact HI.out.fit
      have hsl := lpW_slF (bk := r1) hKn (by omega) (by rw [HI.out.len]; exact HI.out.fit) j (Nat.le_refl _) (ws := ws) (m := m)
      have HRD := Lib.hid (read_ HLP.out.vol HLP.out.words (lpW_lt (by omega) HI.out.lt j (Nat.le_refl _)) hft (by omega) 0)
      have HB3 : Hid (Below w.heap.size w wr) := HB2.out.trans (HLP.out.upd.belowB HB2.out.size (fun k hk => HF2.out k hk))
      have hK9 : (j : Int) ≤ 20 := by omega
      by_cases hbk : r1 % (j + 1) = j
      · have e2 : ((r1 : Int) % ((j : Int) + 1) == (j : Int)) = true := by rw [beq_iff_eq, ← HMD.out, hbk]
        have HCH := Lib.hid (lp_end hKn hK1 hsl hbk)
        clear hft hsl
        go_wp2_with fail
        refine HRD.out.mono ?_
        rintro e w5 ⟨hso, -, hb5⟩
        obtain ⟨A5, c5, B5, d5, he5, hi5, ht5⟩ := hso _ HCH.out
        have hl5 : (seg j r1 0 j).length = j := by simp [seg]
        rw [hl5] at he5 ht5
        subst he5
        have HB5 := Lib.hid (bl_then HB3.out hb5)
        have HCT : Hid (∀ o, Calls Tryz.prog 42 #[.agg #[.slice A5 j c5, .slice B5 j d5]] (w5.alloc o) fun e w' => e = .returned (.int .i64 (j : Int)) ∧ Below w5.heap.size w5 w') := fun o => by
          have h9 := count_ (A := A5) ((own_tr ht5).1.below (bl_alloc (Below.refl _ _) o)) j c5 d5 (by rw [List.length_map, hl5]; omega) (fun t ht => by
            simp only [seg, List.mem_map] at ht
            obtain ⟨y, ⟨x, -, rfl⟩, rfl⟩ := ht
            show (1 : Int) ≤ _
            omega)
          rw [seg_sum, List.length_map, hl5] at h9
          refine h9.mono ?_
          rintro e w' ⟨rfl, hb⟩
          exact ⟨rfl, bl_then (bl_alloc (Below.refl _ _) _) hb⟩
        clear hso hi5 ht5 hb5 hl5
        go_wp2_with fail
        refine (HCT.out _).mono ?_
        rintro e w6 ⟨rfl, hb6⟩
        have HB6 := Lib.hid (bl_then HB5.out hb6)
        clear hb6
        go_wp2_with fail
        go_ret
        exact ⟨rfl, HB6.out⟩
      · have e2 : ((r1 : Int) % ((j : Int) + 1) == (j : Int)) = false := by rw [beq_eq_false_iff_ne, ← HMD.out]; omega
        have HCH := Lib.hid (lp_loop hKn hK1 hsl hbk)
        clear hft hsl
        go_wp2_with fail
        refine HRD.out.mono ?_
        rintro e w5 ⟨-, hno, hb5⟩
        obtain rfl := hno HCH.out
        have HB5 := Lib.hid (bl_then HB3.out hb5)
        have HCT : Hid (∀ o, Calls Tryz.prog 42 #[.agg #[.slice none 0 0, .slice none 0 0]] (w5.alloc o) fun e w' => e = .returned (.int .i64 0) ∧ Below (w5.alloc o).heap.size (w5.alloc o) w') := fun o =>
          count_ (A := none) (B := none) (l := []) (fun i p hi => by simp at hi) 0 0 0 (by decide) (by simp)
        have hq5 := alloc_new w5 (.cells #[.slice none 0 0, .slice none 0 0] 82)
        have HQ5 := Lib.hid hq5
        clear hno hb5 hq5
        go_wp2_with fail
        refine (HCT.out _).mono ?_
        rintro e w6 ⟨rfl, hb6⟩
        have HB6 := Lib.hid (bl_then (bl_alloc HB5.out _) hb6)
        have hq6 := blk_bl HQ5.out hb6
        have k0 := cell_of hq6 0
        have k1 := cell_of hq6 1
        clear hb6 hq6
        go_wp2_with fail
        go_ret
        exact ⟨rfl, HB6.out⟩

end Go.Proofs.YtgnagbbdnlmgeaaGreat.Hy
end
