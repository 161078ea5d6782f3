/- SuperReads: the law's walk. -/
import Derived.Test.YtlokklfkiechdaaRp
set_option linter.unusedVariables false
set_option linter.unusedSimpArgs false
set_option maxHeartbeats 4000000
namespace Go.Proofs.Ytlokklfkiechdaa.Rd
open Go Go.RowKit Go.Proofs.Ytlokklfkiechdaa.PF Go.Proofs.YtlokklfkiechdaaW.PrintWords Go.Proofs.YtlokklfkiechdaaW.PrintLast Go.Proofs.YtlokklfkiechdaaW.PrintMore
open Go.Proofs.Ytlokklfkiechdaa.Ob Go.Proofs.Ytlokklfkiechdaa.Mp Go.Proofs.Ytlokklfkiechdaa.Dv Go.Proofs.Ytlokklfkiechdaa.Wl Go.Proofs.Ytlokklfkiechdaa.Pm Go.Proofs.Ytlokklfkiechdaa.Fb
open Go.Proofs.Ytlokklfkiechdaa.Ko (pows up8 tot pows_in)

theorem dv_is {w : World} {b : Nat} {x : Int} {g : Lay} (L : List Nat) {n : Nat} (h : DevIs w b (newDev x) g) (hx : x = n) (hn : n ≤ 4194304) : DevIs w b (dv L n 0) g := by
  rw [← dv_zero L x n hx hn]
  exact h

set_option maxRecDepth 100000 in
theorem law_lo (a0 a1 a2 more sp : Int) (w : World) (p0 p1 t T mr : Int) (N M S : Nat) (e1 : a0.tmod 30 = p0) (e2 : wrap64 p0 = p0) (e3 : wrap64 (1 + p0) = N) (e4 : a1.tmod 30 = p1) (e5 : wrap64 p1 = p1) (e6 : wrap64 (1 + p1) = M)
    (e7 : a2.tmod 2 = t) (t0 : 0 ≤ t) (t1 : t ≤ 64) (e8 : IntKind.i64.wrap (64 * 2 ^ min t.toNat 64) = S) (e9 : IntKind.i64.wrap (64 * 2 ^ t.toNat) = S) (k1 k2 k3 k4 : Int) (hof : cantleref04_Of.f N M S = some (k1, k2, k3, k4, T, true)) (henc : super_Encode.f 1000 N M S = some (ints (enc N M S), 0)) (hT : 16 ≤ T ∧ T ≤ 2000)
    (q1 q2 q3 q4 : Int) (L : List Nat) (n : Nat) (hn : (n : Int) = T + mr)
    (hmr : (more < -T ∧ Hid (mr = -T) ∧ Hid (0 = q1 ∧ 0 = q2 ∧ 0 = q3 ∧ 2 = q4)) ∨ (-T ≤ more ∧ more < 0 ∧ Hid (mr = more) ∧ Hid (0 = q1 ∧ 0 = q2 ∧ 0 = q3 ∧ 2 = q4)) ∨ (0 = more ∧ Hid (mr = 0) ∧ Hid ((N : Int) = q1 ∧ (M : Int) = q2 ∧ (S : Int) = q3 ∧ 0 = q4)) ∨ (0 < more ∧ more ≤ 20 ∧ Hid (mr = more) ∧ Hid (0 = q1 ∧ 0 = q2 ∧ 0 = q3 ∧ 2 = q4)) ∨ (20 < more ∧ Hid (mr = 20) ∧ Hid (0 = q1 ∧ 0 = q2 ∧ 0 = q3 ∧ 2 = q4)))
    (hrd : ∀ W b g, DevIs W b (dv L n 8) g → Calls Try.prog 23 #[.pointer (some ⟨b, 0, none⟩)] W fun e w' => e = .returned (.tuple #[.agg #[.int .i64 q1, .int .i64 q2, .int .i64 q3], .int .i64 q4]) ∧ Below W.heap.size W w')
    (hL : Hid (L = enc N M S)) (hsc : sp = 0 ∨ 512 < sp) :
    Calls Try.prog 7 #[.int .u8 a0, .int .u8 a1, .int .u8 a2, .int .i64 more, .int .u16 sp] w fun e w' => e = .returned (.bool true) ∧ Below w.heap.size w w' := by
  have HL := Lib.hid (cantlelaw05_Lives.calls 1000 true w (lives5 1000 (by decide)))
  have HO := Lib.hid hof
  have HE := Lib.hid henc
  have HN := Lib.hid hn
  clear hof henc hn
  have T1 := hT.1
  have T2 := hT.2
  clear hT
  have e10 : wrap64 (-T) = -T := w64 _ (by omega) (by omega)
  have l8 : (ints (enc N M S)).length = 8 := enc_length N M S
  have HRD := Lib.hid hrd
  clear hrd
  rcases hsc with s1 | s1
  all_goals rcases hmr with ⟨hm, hmr, hq⟩ | ⟨hm, hm2, hmr, hq⟩ | ⟨hm, hmr, hq⟩ | ⟨hm, hm2, hmr, hq⟩ | ⟨hm, hmr, hq⟩
  all_goals obtain ⟨rfl, rfl, rfl, rfl⟩ := hq.out
  all_goals clear hq
  all_goals (try subst s1)
  all_goals (try subst hm)
  all_goals
    go_enter Try.func7, Try.ntmps7
    go_wp2_with (first | (go_at_call 16; refine HL.out.mono ?_; rintro e w1 ⟨rfl, hb0⟩; (have HB := Lib.hid hb0); clear hb0) |
      (go_at_call 22; refine (cantleref04_Of.calls N M S k1 k2 k3 k4 T true _ HO.out).mono ?_; rintro e w2 ⟨rfl, hb⟩; (have HB2 := Lib.hid (below_step (w := w) (by apply below_alloc; exact HB.out) hb)); (have BG2 := Aside0.mk (blk_below (g := w1.heap.size) (blk_new _ _) hb)); (have G1 := Lib.hid HB.out.size); clear HB hb; (have hcz0 : w2.cell? ⟨w1.heap.size, 0, none⟩ = some (.int .i64 N) := (blk_cell BG2.out 0).trans rfl); (have hcz1 : w2.cell? ⟨w1.heap.size, 1, none⟩ = some (.int .i64 M) := (blk_cell BG2.out 1).trans rfl); (have hcz2 : w2.cell? ⟨w1.heap.size, 2, none⟩ = some (.int .i64 S) := (blk_cell BG2.out 2).trans rfl); (have hlt2 := blk_lt BG2.out)) |
      (go_at_call 17; refine (super_Encode.calls 1000 N M S _ 0 _ HE.out).mono ?_; rintro e w3 ⟨v, rfl, hR, hb⟩; (have HB3 := Lib.hid (below_step (w := w) (by apply below_alloc; exact HB2.out) hb)); (have BG3 := Aside0.mk (blk_below (g := w1.heap.size) (blk_alloc BG2.out _) hb)); (have BP3 := Aside0.mk (blk_below (g := w2.heap.size) (blk_new _ _) hb)); (have HR := Lib.hid hR); (obtain ⟨Ao, co, eo⟩ := Kd.R_slice HR.out); subst eo; clear HB2 hb hcz0 hcz1 hcz2 hlt2 hR; (have hcz0 : w3.cell? ⟨w1.heap.size, 0, none⟩ = some (.int .i64 N) := (blk_cell BG3.out 0).trans rfl); (have hcz1 : w3.cell? ⟨w1.heap.size, 1, none⟩ = some (.int .i64 M) := (blk_cell BG3.out 1).trans rfl); (have hcz2 : w3.cell? ⟨w1.heap.size, 2, none⟩ = some (.int .i64 S) := (blk_cell BG3.out 2).trans rfl); (have hcp4 : w3.cell? ⟨w2.heap.size, 4, none⟩ = some (.int .i64 T) := (blk_cell BP3.out 4).trans rfl)) |
      (go_at_call 11; refine (new_any _ _).mono ?_; rintro e w4 ⟨_, rfl, b, g0, rfl, d1, d2, d3⟩; (have M4 : Hid (Mine w3 w4 b (dv L n 0) g0) := Mine.mk (dv_is L d1 (by have h1 := HN.out; have h2 := hmr.out; omega) (by have h1 := HN.out; have h2 := hmr.out; omega)) d2 d3); clear d1 d2 d3))
    go_loopw [74] (fun c74 wr => ∃ j : Nat, j ≤ 8 ∧ c74 = .int .i64 j ∧ Hid (∃ g, Mine w3 wr b (dv L n j) g)) (fun c74 _ => (8 - intOf c74).toNat)
    case atStart => exact ⟨0, Nat.zero_le _, rfl, _, M4.out⟩
    case round =>
      obtain ⟨j, hj, rfl, hM⟩ := hrel
      obtain ⟨g, hM⟩ := hM.out
      have M5 := Lib.hid hM
      clear hM
      by_cases hlt : j < 8
      · have hC := (Kd.R_reads' HR.out).2.2
        obtain ⟨ad, eA, hx⟩ := Kd.at_int hC (j : Int) (by omega) (by rw [l8]; omega)
        cases eA
        have hM := M5.out.below
        replace hx := (hM.cell (World.block_lt_of_cell? w3 _ hx)).trans hx
        rw [rd_ints _ j (by show j < 8; exact hlt)] at hx
        have hy : (enc N M S)[j]'(by show j < 8; exact hlt) = L.getD j 0 := by
          rw [hL.out, List.getD_eq_getElem?_getD, List.getElem?_eq_getElem (by show j < 8; exact hlt)]
          rfl
        rw [hy] at hx
        clear hy hM hC
        have hst := store_any M5.out.dev (j : Int) ((L.getD j 0 : Nat) : Int) (by have := dv_steps L n j; omega)
        rw [dv_step] at hst
        have HS := Lib.hid hst
        clear hst
        obtain ⟨y, hY⟩ : ∃ y, y = L.getD j 0 := ⟨_, rfl⟩
        rw [← hY] at hx HS
        simp only [Int.toNat_natCast] at hx
        have HYr := Lib.hid hY
        clear hY
        go_wp2_with (go_at_call 14; refine HS.out.mono ?_; rintro e w5 ⟨rfl, hd⟩; (obtain ⟨g6, m6⟩ := M5.out.to hd); (have M6 := Lib.hid m6); clear hd m6)
        have hme : (8 - ((j : Int) + 1)).toNat < (8 - (j : Int)).toNat := by omega
        exact ⟨⟨j + 1, by omega, by rw [show ((j + 1 : Nat) : Int) = (j : Int) + 1 from by omega], ⟨_, M6.out⟩⟩, hme⟩
      · obtain rfl : j = 8 := by omega
        clear hlt hj
        go_wp2_with (first | (go_at_call 23; refine (HRD.out _ _ _ M5.out.dev).mono ?_; rintro e w6 ⟨rfl, hb⟩; (have HB6 := Lib.hid (below_below M5.out.below.size M5.out.below hb)); (have BG6 := Aside0.mk (blk_below (g := w1.heap.size) BG3.out HB6.out)); clear hb hcz0 hcz1 hcz2 hcp4; (have hcz0 : w6.cell? ⟨w1.heap.size, 0, none⟩ = some (.int .i64 N) := (blk_cell BG6.out 0).trans rfl); (have hcz1 : w6.cell? ⟨w1.heap.size, 1, none⟩ = some (.int .i64 M) := (blk_cell BG6.out 1).trans rfl); (have hcz2 : w6.cell? ⟨w1.heap.size, 2, none⟩ = some (.int .i64 S) := (blk_cell BG6.out 2).trans rfl); (have hlt6 := blk_lt BG6.out)))
        go_ret
        exact ⟨rfl, by apply below_alloc; exact below_below HB3.out.size HB3.out HB6.out⟩

end Go.Proofs.Ytlokklfkiechdaa.Rd
