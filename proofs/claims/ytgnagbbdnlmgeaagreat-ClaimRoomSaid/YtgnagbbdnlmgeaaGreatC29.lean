/- Parts of the proof, one behind the other: Es. -/
import Derived.Test.YtgnagbbdnlmgeaaGreatC28

/- ClaimRoom: the walk. -/
section
set_option linter.unusedVariables false
set_option linter.unusedSimpArgs false
set_option maxHeartbeats 4000000
set_option maxRecDepth 100000
namespace Go.Proofs.YtgnagbbdnlmgeaaGreat.Cm
open Go Go.RowKit
open Go.Proofs.YtgnagbbdnlmgeaaGreat.Rr Go.Proofs.YtgnagbbdnlmgeaaGreat.Ob Go.Proofs.YtgnagbbdnlmgeaaGreat.Ba Go.Proofs.YtgnagbbdnlmgeaaGreat.Ko Go.Proofs.YtgnagbbdnlmgeaaGreat.Ge Go.Proofs.YtgnagbbdnlmgeaaGreat.Oc Go.Proofs.YtgnagbbdnlmgeaaGreat.Pk Go.Proofs.YtgnagbbdnlmgeaaGreat.Su Go.Proofs.YtgnagbbdnlmgeaaGreat.Rf Go.Proofs.YtgnagbbdnlmgeaaGreat.Dv Go.Proofs.YtgnagbbdnlmgeaaGreat.Vo Go.Proofs.YtgnagbbdnlmgeaaGreat.Ra Go.Proofs.YtgnagbbdnlmgeaaGreat.Jh Go.Proofs.YtgnagbbdnlmgeaaGreat.Tr Go.Proofs.YtgnagbbdnlmgeaaGreat.Iq Go.Proofs.YtgnagbbdnlmgeaaGreat.Bm Go.Proofs.YtgnagbbdnlmgeaaGreat.In Go.Proofs.YtgnagbbdnlmgeaaGreat.Je Go.Proofs.YtgnagbbdnlmgeaaGreat.Lo Go.Proofs.YtgnagbbdnlmgeaaGreat.Ho Go.Proofs.YtgnagbbdnlmgeaaGreat.Jd

theorem scanG_len {n s : Nat} {sl : Int → Option Tri} {inf : Int → Option (Int × Int × Int)} : ∀ (k i : Nat) (st st' : St), scanG n s sl inf k i st = some st' → st'.2.2.length = st.2.2.length + k
  | 0, i, st, st', h => by
    have : st = st' := Option.some.inj h
    rw [← this]; rfl
  | k + 1, i, st, st', h => by
    unfold scanG at h
    cases hst : stepG n s sl inf i st with
    | none => rw [hst] at h; cases h
    | some s2 =>
      rw [hst] at h
      have h1 := scanG_len k (i + 1) s2 st' h
      have h2 : s2.2.2.length = st.2.2.length + 1 := by
        unfold stepG at hst
        split at hst
        · cases hst
        · split at hst
          · cases hst
          · have := Option.some.inj hst
            rw [← this]
            simp
      omega

theorem room (r0 r1 r2 : Nat) (h0 : r0 < 256) (h1 : r1 < 256) (h2 : r2 < 256) {A : Option Addr} {l : List Nat} (c : Nat) {w : World} (h : Rk .u64 w A (ints l)) (hlw : ∀ x ∈ l, x < 18446744073709551616) (hl9 : l.length ≤ 9223372036854775807) :
    Calls Tryz.prog 9 #[.agg #[.int .u8 r0, .int .u8 r1, .int .u8 r2, .slice A l.length c]] w fun e w' => e = .returned (.bool true) ∧ Below w.heap.size w w' := by
  have hu := Tryz.underlying30
  have hu2 := Tryz.underlying82
  obtain ⟨n, m, s, T, p3, p4, p5, ws, hi⟩ := im_ r0 r1 r2 l hlw
  have HO : Hid (∀ {W : World}, Rk .u64 W A (ints l) → _) := fun {W} hW => open17N h0 h1 h2 hi c hl9 (w := W) hW
  have HSN : Hid (∀ {W : World} {v b : Nat} {g : Lay}, VolIs W v b n m s (Pm.devOf (ints ws)) g → _) := fun {W} {v} {b} {g} hv => scan_ hv (Vs.words_devOf _) hi.lt (by rw [hi.len]; exact hi.fit) (by have := hi.n2; omega) (by have := hi.m2; omega) (by have := hi.s2; omega)
  have HSC : Hid (∀ st, scanF n m s ws = some st → Sc n st) := fun st h9 => scan_sc hi.n1 (by have := hi.n2; omega) h9
  have hn1 := hi.n1
  have hn2 := hi.n2
  have HI := Lib.hid hi
  have H := Lib.hid h
  obtain ⟨len, hle⟩ : ∃ len, len = l.length := ⟨_, rfl⟩
  rw [← hle] at HO
  rw [← hle]
  clear h hlw hl9 hi h0 h1 h2 hle
  go_enter Tryz.func9, Tryz.ntmps9
  go_wp2_with fail
  refine (lives17 _).mono ?_
  rintro e w1 ⟨rfl, hb1⟩
  have hqr := blk_bl (alloc_new w (.cells #[.int .u8 r0, .int .u8 r1, .int .u8 r2, .slice A len c] 24)) hb1
  have HB1 := Lib.hid (bl_then (bl_alloc (Below.refl _ _) _) hb1)
  have a0 := cell_of hqr 0
  have a1 := cell_of hqr 1
  have a2 := cell_of hqr 2
  have a3 := cell_of hqr 3
  clear hqr hb1
  go_wp2_with fail
  refine (HO.out (H.out.below HB1.out)).mono ?_
  rintro e w2 ⟨v, b, g, a8, c8, rfl, hop⟩
  unfold volA
  obtain ⟨W2, hW2⟩ : ∃ W2, W2 = w2.alloc (.cells #[.int .i64 n, .int .i64 m, .int .i64 s, .int .i64 16, .int .i64 (16 + 8 * m), .int .i64 p3, .int .i64 p4, .int .i64 p5, .slice (some a8) T c8] 30) := ⟨_, rfl⟩
  have hbw : Below w2.heap.size w2 W2 := by rw [hW2]; exact bl_alloc (Below.refl _ _) _
  have HQ2 : Hid (W2.heap[w2.heap.size]? = some (.cells #[.int .i64 n, .int .i64 m, .int .i64 s, .int .i64 16, .int .i64 (16 + 8 * m), .int .i64 p3, .int .i64 p4, .int .i64 p5, .slice (some a8) T c8] 30 (0, 0))) := by rw [hW2]; exact alloc_new _ _
  have HV2 := Lib.hid (hop.vol.below hbw)
  have HB2 := Lib.hid (bl_then (bl_then HB1.out hop.below) hbw)
  clear a0 a1 a2 a3 hop hbw
  go_wp2_with fail
  rw [← hW2]
  clear hW2
  generalize w2.heap.size = q2 at *
  refine (HSN.out HV2.out).mono ?_
  rintro e w3 ⟨hso, hno, hb3⟩
  have HB3 := Lib.hid (bl_then HB2.out hb3)
  have HQ3 := Lib.hid (blk_bl HQ2.out hb3)
  clear hb3
  cases hsf : scanF n m s ws with
  | none =>
    obtain rfl := hno hsf
    clear hso hno hsf
    go_wp2_with fail
    go_ret
    exact ⟨rfl, HB3.out⟩
  | some st =>
    obtain ⟨qc, b1, b2, g1, g2, cc1, cc2, es, LA, lc, rfl, hcl, hes⟩ := hso st hsf
    have hsc := HSC.out st hsf
    obtain ⟨x1, e1, hx1, hx1c⟩ := hsc.b
    obtain ⟨x2, e2, hx2, hx2c⟩ := hsc.s
    rw [e1, e2] at hcl
    have hall := hsc.all
    rw [← hes] at hx1c hx2c hall
    have helen : es.length ≤ 65534 := by
      have h9 := scanG_len _ _ _ _ hsf
      have h8 := congrArg List.length hes
      rw [List.length_map] at h8
      have := HI.out.m2
      simp only [List.length_nil] at h9
      omega
    have HCL := Lib.hid hcl
    have HFR := Lib.hid (cfree_ hcl hx1 hx2 (by omega) helen)
    have HEL := Lib.hid helen
    have hC1 : cnt (bitsOf x1 n) ≤ n := by have := cnt_le (bitsOf x1 n); rw [bitsOf_length] at this; exact this
    have hle := sum_le (es.map Own.dat) (fun d hd => (hall d hd).2.1)
    obtain ⟨F1, hF1⟩ : ∃ F1 : Int, F1 = (n : Int) - (cnt (bitsOf x1 n) : Nat) := ⟨_, rfl⟩
    obtain ⟨F2, hF2⟩ : ∃ F2 : Int, F2 = (n : Int) - (cnt (bitsOf x2 n) : Nat) := ⟨_, rfl⟩
    rw [← hF1, ← hF2] at HFR
    have hF12 : F1 ≤ F2 := by omega
    have hF10 : 0 ≤ F1 ∧ F1 ≤ n := by omega
    have hF20 : 0 ≤ F2 ∧ F2 ≤ n := by have := hx2c; omega
    have HSUM : Hid (lsum (gO es) (usedD (es.map Own.dat) 0) + F1 = (n : Int)) := by
      have h9 := used_sum es (fun e he hk => by
        have := (hall e.dat (List.mem_map_of_mem he)).2.2.1
        exact this hk) es.length (Nat.le_refl _)
      rw [List.take_length] at h9
      show _ = _
      rw [h9]
      omega
    have HNS : Hid (∀ {W' : World}, Below w3.heap.size w3 W' → Calls Tryz.prog 59 #[.pointer (some ⟨qc, 0, none⟩), .int .i64 ((n : Int) + 5)] W' fun e w' => ∃ A ln c, e = .returned (.slice A ln c) ∧ (ln : Int) = F2 ∧ Below W'.heap.size W' w') := fun {W'} hb => by
      refine (nexts_ (HCL.out.keep hb) (by omega) ((n : Int) + 5)).mono ?_
      rintro e w' ⟨v', rfl, ho, hb'⟩
      obtain ⟨A', c', rfl⟩ := own_slice ho
      refine ⟨A', _, c', rfl, ?_, hb'⟩
      have h9 := fsU_cnt x2 n (by omega)
      rw [List.length_take]
      omega
    have HCH : Hid (∀ (i : Int) {W' : World}, Below w3.heap.size w3 W' → Calls Tryz.prog 58 #[.pointer (some ⟨qc, 0, none⟩), .int .i64 i] W' fun e w' => ∃ A c D d ll, e = .returned (.agg #[.slice A ll c, .slice D ll d]) ∧ Below W'.heap.size W' w' ∧ ∀ {W'' : World}, Below w'.heap.size w' W'' → Calls Tryz.prog 42 #[.agg #[.slice A ll c, .slice D ll d]] W'' fun e w9 => e = .returned (.int .i64 (gO es i)) ∧ Below W''.heap.size W'' w9) := fun i {W'} hb => by
      have hLn : (ofV es i).L.length ≤ n ∧ ∀ t ∈ (ofV es i).L.map Prod.snd, t.2.1 ≤ 65534 := by
        unfold ofV
        split
        · rw [List.getD_eq_getElem?_getD]
          cases hx : es[i.toNat]? with
          | none => exact ⟨Nat.zero_le _, by simp⟩
          | some e =>
            have h9 := hall e.dat (List.mem_map_of_mem (List.mem_of_getElem? hx))
            exact ⟨h9.1, h9.2.2.2⟩
        · exact ⟨Nat.zero_le _, by simp⟩
      refine (cchain_ (HCL.out.keep hb) HEL.out i (by have := hLn.1; omega)).mono ?_
      rintro e w' ⟨A', c', D', d', rfl, ho1, ho2, hb'⟩
      refine ⟨A', c', D', d', _, rfl, hb', fun {W''} hb2 => ?_⟩
      have h9 := count_ (A := A') ((own_tr ho2).1.below hb2) (ofV es i).L.length c' d' (by rw [List.length_map]; have := hLn.1; omega) hLn.2
      rw [List.length_map] at h9
      exact h9
    have hgb : Hid (∀ i, 0 ≤ gO es i ∧ gO es i ≤ 1400000) := fun i => by
      have hLn : (ofV es i).L.length ≤ n ∧ ∀ t ∈ (ofV es i).L.map Prod.snd, t.2.1 ≤ 65534 := by
        unfold ofV
        split
        · rw [List.getD_eq_getElem?_getD]
          cases hx : es[i.toNat]? with
          | none => exact ⟨Nat.zero_le _, by simp⟩
          | some e =>
            have h9 := hall e.dat (List.mem_map_of_mem (List.mem_of_getElem? hx))
            exact ⟨h9.1, h9.2.2.2⟩
        · exact ⟨Nat.zero_le _, by simp⟩
      have h8 := sumR_in (runsOf ((ofV es i).L.map Prod.snd)) (fun p hp => by
        simp only [runsOf, List.mem_map] at hp
        obtain ⟨t, ht, rfl⟩ := hp
        exact hLn.2 t (by simpa using ht))
      have e9 : (runsOf ((ofV es i).L.map Prod.snd)).length = (ofV es i).L.length := by simp [runsOf]
      rw [e9] at h8
      unfold gO
      have := hLn.1
      omega
    have HUS := Lib.hid (fun (W' : World) (hb : Below w3.heap.size w3 W') => used_ (hcl.keep hb) helen)
    have hul := usedD_len (es.map Own.dat) 0
    rw [List.length_map] at hul
    obtain ⟨U, hU⟩ : ∃ U, U = usedD (es.map Own.dat) 0 := ⟨_, rfl⟩
    rw [← hU] at HUS HSUM HFR hul
    obtain ⟨un, hun⟩ : ∃ un, un = U.length := ⟨_, rfl⟩
    rw [← hun] at HUS HFR hul
    have HUN := Lib.hid hun
    have hun9 : un ≤ 65534 := by omega
    obtain ⟨hF1a, hF1b⟩ := hF10
    obtain ⟨hF2a, hF2b⟩ := hF20
    generalize es.length = el at *
    clear hso hno hsf hcl hes hsc e1 e2 hx1 hx2 hx1c hx2c hall helen hC1 hle hF1 hF2 hU hun HSC
    go_wp2_with fail
    refine HFR.out.mono ?_
    rintro e w4 ⟨rfl, hb4⟩
    have HB4 := Lib.hid hb4
    clear hb4
    go_wp2_with fail
    refine (HUS.out _ HB4.out).mono ?_
    rintro e w5 ⟨v5, rfl, ho5, hb5⟩
    obtain ⟨A5, c5, rfl⟩ := own_slice ho5
    have HR5 := Lib.hid (own_rk (k := .i64) ho5).1
    have HB5 := Lib.hid (bl_then HB4.out hb5)
    clear ho5 hb5
    go_wp2_with fail
    go_loopw [40, 10] (fun c40 c10 wr => ∃ (j : Nat) (S : Int), j ≤ un ∧ c40 = .int .i64 j ∧ c10 = .int .i64 S ∧ 0 ≤ S ∧ S ≤ 1400000 * (j : Int) ∧ Hid (S = lsum (gO es) (U.take j) ∧ Below w5.heap.size w5 wr)) (fun c40 _ _ => un - (intOf c40).toNat)
    case atStart => exact ⟨0, 0, Nat.zero_le _, rfl, rfl, by omega, by omega, rfl, Below.refl _ _⟩
    case round =>
      obtain ⟨j, S, hj, rfl, rfl, hS0, hS1, HR⟩ := hrel
      by_cases hlt : j < un
      · obtain ⟨x, hx⟩ := some_at (l := U) (i := j) (by rw [← HUN.out]; exact hlt)
        obtain ⟨a, rfl, -, ha⟩ := (HR5.out.below HR.out.2) j x hx
        have HX := Lib.hid hx
        have HGX := hgb.out x
        have HCX := Lib.hid (HCH.out x (W' := wr) (bl_then HB5.out HR.out.2))
        obtain ⟨hg0, hg1⟩ := HGX
        have HS : Hid (S + gO es x = lsum (gO es) (U.take (j + 1))) := by
          show _ = _
          rw [take_next HX.out, lsum_append, HR.out.1]
          show _ = _ + (gO es x + 0)
          omega
        clear hx
        generalize gO es x = gx at *
        go_wp2_with fail
        refine HCX.out.mono ?_
        rintro e w6 ⟨A6, c6, D6', d6, ll, rfl, hb6, hcnt⟩
        have HCN := Lib.hid (hcnt (Below.refl _ _))
        have HB6 := Lib.hid (bl_then HR.out.2 hb6)
        clear hb6 hcnt
        go_wp2_with fail
        refine HCN.out.mono ?_
        rintro e w7 ⟨rfl, hb7⟩
        have HB7 := Lib.hid (bl_then HB6.out hb7)
        clear hb7
        go_wp2_with fail
        go_roundw
        case rel => exact ⟨j + 1, S + gx, by omega, by go_num, rfl, by omega, by omega, HS.out, HB7.out⟩
        case measure => simp [intOf]; omega
      · have hju : j = un := by omega
        have HSF : Hid (S + F1 = (n : Int)) := by
          have h9 := HR.out.1
          rw [hju, HUN.out, List.take_length] at h9
          rw [h9]
          exact HSUM.out
        have hSF : (S + F1 == (n : Int)) = true := beq_iff_eq.2 HSF.out
        have hB9 := bl_then HB5.out HR.out.2
        have k0 := cell_of (blk_bl HQ3.out hB9) 0
        have HB9 := Lib.hid hB9
        have hSb : S ≤ 1000000000000 := by omega
        clear hju hB9
        go_wp2_with fail
        refine (HNS.out HB9.out).mono ?_
        rintro e w8 ⟨A8, ln, c8', rfl, hln, hb8⟩
        have hlnF : ((ln : Int) == F2) = true := beq_iff_eq.2 hln
        have HB8 := Lib.hid (bl_then HB9.out hb8)
        clear hln hb8
        go_wp2_with fail
        go_ret
        exact ⟨rfl, bl_then HB3.out HB8.out⟩

end Go.Proofs.YtgnagbbdnlmgeaaGreat.Cm
end
