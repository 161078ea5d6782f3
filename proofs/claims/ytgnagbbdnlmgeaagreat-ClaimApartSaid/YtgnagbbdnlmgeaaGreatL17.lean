/- Parts of the proof, one behind the other: Eb, Ed, Ee. -/
import Derived.Test.YtgnagbbdnlmgeaaGreatL16
import Derived.Test.YtgnagbbdnlmgeaaGreatL14
import Derived.Test.YtgnagbbdnlmgeaaGreatL13
import Derived.Deep.AppendLies
import Derived.Deep.RegionHeld3
set_option linter.unusedVariables false
set_option linter.unusedSimpArgs false
set_option linter.unusedSectionVars false
section
set_option maxHeartbeats 40000000
set_option maxRecDepth 100000
namespace Go.Proofs.YtgnagbbdnlmgeaaGreat.Cm
open Go Go.RowKit
open Rr Ob Ba Ko Ge Oc Pk Su Rf Dv Vo Ra Jh Tr Iq Bm In Je Lo
def takeF (n s : Nat) (sl : Int → Option Tri) (l1 l2 : List Nat) (h z : Int) : Option (List Nat × List Nat × List (Int × Tri)) :=
  match chainF n sl n h with
  | none => none
  | some L =>
    if sumR (runsOf (L.map Prod.snd)) ≠ needF s z then none
    else if ((turnL n false l2 (L.map Prod.fst)).2 : Int) ≠ (L.length : Int) then none
    else if ((turnL n false l1 (blocksOf (L.map Prod.snd))).2 : Int) ≠ sumR (runsOf (L.map Prod.snd)) then none
    else some ((turnL n false l1 (blocksOf (L.map Prod.snd))).1, (turnL n false l2 (L.map Prod.fst)).1, L)
structure Bl (w W : World) : Prop where
  below : Below w.heap.size w W
theorem blocks_lenC : ∀ (T : List Tri), sumR (runsOf T) = ((blocksOf T).length : Int)
  | [] => rfl
  | t :: r => by
    have h := blocks_lenC r
    have e1 : blocksOf (t :: r) = run1 t.1 t.2.1.toNat ++ blocksOf r := rfl
    have e2 : sumR (runsOf (t :: r)) = max 0 t.2.1 + sumR (runsOf r) := rfl
    rw [e1, e2, h, List.length_append, run1_len]
    omega
def TakeIs (W w' : World) (B q b1 b2 n : Nat) (g1 g2 c1 c2 : Nat) (es : List Own) (k h z : Int) (e : Ending) : Option (List Nat × List Nat × List (Int × Tri)) → Prop
  | none => e = .returned (.bool false)
  | some r => e = .returned (.bool true) ∧ ∃ sa sc pa pc LA lc, Cl w' B q b1 b2 n r.1 r.2.1 g1 g2 c1 c2 (es ++ [⟨k, h, z, sa, sc, pa, pc, r.2.2⟩]) LA lc
theorem take_ {W : World} {v b n m s : Nat} {dv : Dev} {g : Lay} {ws : List Nat} (hv : VolIs W v b n m s dv g) (hwd : Pm.wordsOf dv = ints ws) (hlt : ∀ x ∈ ws, x < 18446744073709551616) (hfit : 16 + 8 * m + n ≤ ws.length) (hn : n ≤ 24) (hs1 : 1 ≤ s)
    {B q b1 b2 : Nat} {l1 l2 : List Nat} {g1 g2 c1 c2 : Nat} {es : List Own} {LA : Option Addr} {lc : Nat} (hc : Cl W B q b1 b2 n l1 l2 g1 g2 c1 c2 es LA lc) (hes : es.length ≤ 65534) (k h z : Int) (hz : z ≤ 9223372036854775807) :
    Calls Tryz.prog 110 #[.pointer (some ⟨q, 0, none⟩), .pointer (some ⟨v, 0, none⟩), .agg #[.int .i64 k, .int .i64 h, .int .i64 z]] W fun e w' =>
      TakeIs W w' B q b1 b2 n g1 g2 c1 c2 es k h z e (takeF n s (slF ws n m) l1 l2 h z) ∧ Below B W w' := by
  have hu := Tryz.underlying82
  have hu2 := Tryz.underlying42
  have hu3 := Tryz.underlying179
  have hu4 := Tryz.underlying185
  obtain ⟨zO, hiO, hzO0, hzO1, hzO2⟩ := info_parts (show (Tryz.prog.info? 185).map (fun i => (i.zero, i.size, i.bytes)) = some (some (.agg #[.int .i64 0, .int .i64 0, .int .i64 0, .slice none 0 0, .slice none 0 0]), 5, 72) by kernel_rfl)
  have HRD : Hid (∀ {W' : World}, Below W.heap.size W W' → _) := fun {W'} hb => read_ (hv.below hb) hwd hlt hfit (by omega) h
  have HG : Hid (∀ {W' : World}, Below W.heap.size W W' → _) := fun {W'} hb => Jh.geom_ (hv.below hb)
  have HND : Hid (∀ w, _) := fun w => need_ n m s hv.ok hs1 z hz w
  have HMAY : Hid (∀ i t, slF ws n m i = some t → sMay t.1 t.2.1 t.2.2 = true ∧ 0 ≤ i ∧ i < n) := fun i t h => slF_may h
  generalize slF ws n m = sl at *
  have HC := Lib.hid hc
  have HLO : Hid (B ≤ W.heap.size) := Nat.le_trans hc.lo (Nat.le_of_lt (lt_of hc.blk))
  obtain ⟨TF, hTF⟩ : ∃ TF, TF = takeF n s sl l1 l2 h z := ⟨_, rfl⟩
  rw [← hTF]
  have HTF0 := Lib.hid hTF
  clear hv hwd hlt hfit hc hz hTF
  have hq0 := alloc_new W (.cells #[.int .i64 k, .int .i64 h, .int .i64 z] 42)
  have HQ0 := Lib.hid hq0
  clear hq0
  go_enter Tryz.func110, Tryz.ntmps110
  go_wp2_with fail
  refine (HRD.out (bl_alloc (Below.refl _ _) _)).mono ?_
  rintro e w3 ⟨hso, hno, hb3⟩
  have HB3 := Lib.hid (bl_then (bl_alloc (Below.refl _ _) _) hb3)
  have HQ3 := Lib.hid (blk_bl HQ0.out hb3)
  clear hb3
  cases hch : chainF n sl n h with
  | none =>
    obtain rfl := hno hch
    have hT : TF = none := by rw [HTF0.out]; unfold takeF; rw [hch]
    subst hT
    clear hso hno hch
    go_wp2_with fail
    go_quiet (fail)
    go_wp2_with fail
    go_ret
    exact ⟨rfl, (bl_drewN (bl_alloc HB3.out _) _).mono HLO.out⟩
  | some L =>
    obtain ⟨A3, c3, B3, d3, rfl, hi3, ht3⟩ := hso L hch
    have hLn := chainF_len n h L hch
    have hTT : ∀ t ∈ L.map Prod.snd, 0 ≤ t.1 ∧ t.1 ≤ 65534 ∧ 0 ≤ t.2.1 ∧ t.2.1 ≤ 65534 := fun t ht => by
      obtain ⟨y, hy, rfl⟩ := List.mem_map.1 ht
      obtain ⟨i, hil, rfl⟩ := List.mem_iff_getElem.1 hy
      obtain ⟨-, h2, -, -⟩ := chainF_at n h L hch i _ (List.getElem?_eq_getElem hil)
      have := of_decide_eq_true (HMAY.out _ _ h2).1
      omega
    have HTF : Hid (TF = if sumR (runsOf (L.map Prod.snd)) ≠ needF s z then none
      else if ((turnL n false l2 (L.map Prod.fst)).2 : Int) ≠ (L.length : Int) then none
      else if ((turnL n false l1 (blocksOf (L.map Prod.snd))).2 : Int) ≠ sumR (runsOf (L.map Prod.snd)) then none
      else some ((turnL n false l1 (blocksOf (L.map Prod.snd))).1, (turnL n false l2 (L.map Prod.fst)).1, L)) := by show _ = _; rw [HTF0.out]; unfold takeF; rw [hch]
    clear HTF0
    have HLL : Hid (L.length ≤ n ∧ ∀ t ∈ L.map Prod.snd, 0 ≤ t.1 ∧ t.1 ≤ 65534 ∧ 0 ≤ t.2.1 ∧ t.2.1 ≤ 65534) := ⟨hLn, hTT⟩
    obtain ⟨N, hN⟩ : ∃ N, N = L.length := ⟨_, rfl⟩
    have HN := Lib.hid hN
    obtain ⟨cn, hcn⟩ : ∃ cn, cn = sumR (runsOf (L.map Prod.snd)) := ⟨_, rfl⟩
    have HCN0 := Lib.hid hcn
    obtain ⟨nd, hnd⟩ : ∃ nd, nd = needF s z := ⟨_, rfl⟩
    rw [← hnd] at HND HTF
    rw [← hcn, ← hN] at HTF
    obtain ⟨W3, hW3⟩ : ∃ W3, W3 = w3.alloc (.cells #[.slice A3 L.length c3, .slice B3 L.length d3] 82) := ⟨_, rfl⟩
    have hbw : Below w3.heap.size w3 W3 := by rw [hW3]; exact bl_alloc (Below.refl _ _) _
    have HQ4 : Hid (W3.heap[w3.heap.size]? = some (.cells #[.slice A3 N c3, .slice B3 N d3] 82 (0, 0))) := by rw [hW3, hN]; exact alloc_new _ _
    have HQ5 := Lib.hid (blk_bl HQ3.out hbw)
    have HCH : Hid (Ch W3 B ⟨k, h, z, A3, c3, B3, d3, L⟩) := ⟨own_base (own_bl hi3 hbw) (Nat.le_trans HLO.out (by rw [World.size_alloc]; omega)), own_base (own_bl ht3 hbw) (Nat.le_trans HLO.out (by rw [World.size_alloc]; omega))⟩
    have HB4 : Hid (Below W.heap.size W W3) := bl_then HB3.out hbw
    have HCN : Hid (∀ {W' : World}, Bl W3 W' → Calls Tryz.prog 42 #[.agg #[.slice A3 N c3, .slice B3 N d3]] W' fun e w' => e = .returned (.int .i64 cn) ∧ Bl W3 w') := fun {W'} hb => by
      have h9 := count_ (A := A3) (l := L.map Prod.snd) ((own_tr HCH.out.parts).1.below hb.below) N c3 d3 (by rw [List.length_map]; omega) (fun t ht => (HLL.out.2 t ht).2.2.2)
      rw [List.length_map, ← hN, ← hcn] at h9
      exact h9.mono fun e w' ⟨e1, e2⟩ => ⟨e1, ⟨bl_then hb.below e2⟩⟩
    have HGM : Hid (∀ {W' : World}, Bl W3 W' → Calls Tryz.prog 14 #[.pointer (some ⟨v, 0, none⟩)] W' fun e w' => e = .returned (.agg #[.int .i64 n, .int .i64 m, .int .i64 s]) ∧ Bl W3 w') := fun {W'} hb =>
      (HG.out (bl_then HB4.out hb.below)).mono fun e w' ⟨e1, e2⟩ => ⟨e1, ⟨bl_then hb.below e2⟩⟩
    have HNE : Hid (∀ {W' : World}, Bl W3 W' → Calls Tryz.prog 158 #[.agg #[.int .i64 n, .int .i64 m, .int .i64 s], .int .i64 z] W' fun e w' => e = .returned (.int .i64 nd) ∧ Bl W3 w') := fun {W'} hb =>
      (HND.out W').mono fun e w' ⟨e1, e2⟩ => ⟨e1, ⟨bl_then hb.below e2⟩⟩
    have HCL : Hid (∀ W', Bl W3 W' → W'.cell? ⟨W.heap.size, 0, none⟩ = some (.int .i64 k) ∧ W'.cell? ⟨W.heap.size, 1, none⟩ = some (.int .i64 h) ∧ W'.cell? ⟨W.heap.size, 2, none⟩ = some (.int .i64 z) ∧ W'.cell? ⟨w3.heap.size, 0, none⟩ = some (.slice A3 N c3) ∧ W'.cell? ⟨w3.heap.size, 1, none⟩ = some (.slice B3 N d3) ∧ Bl W3 W') := fun W' hb =>
      ⟨cell_of (blk_bl HQ5.out hb.below) 0, cell_of (blk_bl HQ5.out hb.below) 1, cell_of (blk_bl HQ5.out hb.below) 2, cell_of (blk_bl HQ4.out hb.below) 0, cell_of (blk_bl HQ4.out hb.below) 1, hb⟩
    have HB0 : Hid (Bl W3 W3.drew) := ⟨bl_drew (Below.refl _ _)⟩
    rw [← hN]
    rw [← hN] at hW3
    clear hso hno hch hi3 ht3 hLn hTT hbw hN hcn hnd
    go_wp2_with fail
    rw [← hW3]
    clear hW3
    generalize w3.heap.size = q3 at *
    by_cases hne : cn = nd
    rotate_left
    · have e1 : (cn != nd) = true := bne_iff_ne.2 hne
      have hT : TF = none := by rw [HTF.out, if_pos hne]
      subst hT
      go_region_held3 (fun W' => W'.cell? ⟨W.heap.size, 0, none⟩ = some (.int .i64 k) ∧ W'.cell? ⟨W.heap.size, 1, none⟩ = some (.int .i64 h) ∧ W'.cell? ⟨W.heap.size, 2, none⟩ = some (.int .i64 z) ∧ W'.cell? ⟨q3, 0, none⟩ = some (.slice A3 N c3) ∧ W'.cell? ⟨q3, 1, none⟩ = some (.slice B3 N d3) ∧ Bl W3 W')
        (first | exact HCL.out _ HB0.out | exact HCL.out _ HC5.out | exact HCL.out _ HC6.out | exact HCL.out _ HC7.out)
        (first | (go_at_call 42; refine (HCN.out HB0.out).mono ?_; rintro e w5 ⟨rfl, hb5⟩; (have HC5 := Lib.hid hb5); clear hb5) |
          (go_at_call 14; refine (HGM.out HC5.out).mono ?_; rintro e w6 ⟨rfl, hb6⟩; (have HC6 := Lib.hid hb6); clear hb6) |
          (go_at_call 158; refine (HNE.out HC6.out).mono ?_; rintro e w7 ⟨rfl, hb7⟩; (have HC7 := Lib.hid hb7); clear hb7))
      go_wp2_with fail
      go_ret
      exact ⟨rfl, (bl_then HB4.out HC7.out.below).mono HLO.out⟩
    subst hne
    have e1 : (cn != cn) = false := by simp
    go_region_held3 (fun W' => W'.cell? ⟨W.heap.size, 0, none⟩ = some (.int .i64 k) ∧ W'.cell? ⟨W.heap.size, 1, none⟩ = some (.int .i64 h) ∧ W'.cell? ⟨W.heap.size, 2, none⟩ = some (.int .i64 z) ∧ W'.cell? ⟨q3, 0, none⟩ = some (.slice A3 N c3) ∧ W'.cell? ⟨q3, 1, none⟩ = some (.slice B3 N d3) ∧ Bl W3 W')
      (first | exact HCL.out _ HB0.out | exact HCL.out _ HC5.out | exact HCL.out _ HC6.out | exact HCL.out _ HC7.out)
      (first | (go_at_call 42; refine (HCN.out HB0.out).mono ?_; rintro e w5 ⟨rfl, hb5⟩; (have HC5 := Lib.hid hb5); clear hb5) |
        (go_at_call 14; refine (HGM.out HC5.out).mono ?_; rintro e w6 ⟨rfl, hb6⟩; (have HC6 := Lib.hid hb6); clear hb6) |
        (go_at_call 158; refine (HNE.out HC6.out).mono ?_; rintro e w7 ⟨rfl, hb7⟩; (have HC7 := Lib.hid hb7); clear hb7))
    go_wp2_with fail
    have HCL7 : Hid (Cl w7.drew B q b1 b2 n l1 l2 g1 g2 c1 c2 es LA lc) := (HC.out.keep (bl_then HB4.out HC7.out.below)).keep (bl_drew (Below.refl _ _))
    have HX0 : Hid (w7.drew.heap[W.heap.size]? = some (.cells #[.int .i64 k, .int .i64 h, .int .i64 z] 42 (0, 0)) ∧ w7.drew.heap[q3]? = some (.cells #[.slice A3 N c3, .slice B3 N d3] 82 (0, 0)) ∧ Ch w7.drew B ⟨k, h, z, A3, c3, B3, d3, L⟩ ∧ Below B W w7.drew) :=
      ⟨blk_bl HQ5.out (bl_drew HC7.out.below), blk_bl HQ4.out (bl_drew HC7.out.below), HCH.out.keep (bl_drew HC7.out.below), (bl_then HB4.out (bl_drew HC7.out.below)).mono HLO.out⟩
    have HS1 : Hid (w7.drew.cell? ⟨W.heap.size, 0, none⟩ = some (.int .i64 k) ∧ w7.drew.cell? ⟨W.heap.size, 1, none⟩ = some (.int .i64 h) ∧ w7.drew.cell? ⟨W.heap.size, 2, none⟩ = some (.int .i64 z) ∧ w7.drew.cell? ⟨q3, 0, none⟩ = some (.slice A3 N c3) ∧ w7.drew.cell? ⟨q3, 1, none⟩ = some (.slice B3 N d3) ∧ w7.drew.cell? ⟨q, 0, none⟩ = some (.slice LA es.length lc)) :=
      ⟨cell_of HX0.out.1 0, cell_of HX0.out.1 1, cell_of HX0.out.1 2, cell_of HX0.out.2.1 0, cell_of HX0.out.2.1 1, cell_of HCL7.out.blk 0⟩
    obtain ⟨en, hen⟩ : ∃ en, en = es.length := ⟨_, rfl⟩
    have HEN := Lib.hid hen
    rw [← hen] at hes
    rw [← hen] at HS1
    refine Wc.region_till (S0 := fun _ => True) (S1 := fun w' => w'.cell? ⟨W.heap.size, 0, none⟩ = some (.int .i64 k) ∧ w'.cell? ⟨W.heap.size, 1, none⟩ = some (.int .i64 h) ∧ w'.cell? ⟨W.heap.size, 2, none⟩ = some (.int .i64 z) ∧ w'.cell? ⟨q3, 0, none⟩ = some (.slice A3 N c3) ∧ w'.cell? ⟨q3, 1, none⟩ = some (.slice B3 N d3) ∧ w'.cell? ⟨q, 0, none⟩ = some (.slice LA en lc)) (E := fun j => [4, 5, 6, 8, 9].contains j) (by kernel_rfl) ?_
    change Wc.Till _ _ _ _ _ _ _ _ _ _ w7.drew
    clear hen
    generalize w7.drew = X0 at *
    refine Wc.till_take0 (i := 0) rfl rfl (by kernel_rfl) (by kernel_rfl) (by kernel_rfl) (fun _ _ _ h => h) (.inl ⟨rfl, fun w' _ => rfl⟩) trivial ?_
    refine Wc.till_take0 (i := 1) rfl rfl (by kernel_rfl) (by kernel_rfl) (by kernel_rfl) (fun _ _ _ h => h) (.inl ⟨rfl, fun w' _ => rfl⟩) trivial ?_
    refine Wc.till_take0 (i := 2) rfl rfl (by kernel_rfl) (by kernel_rfl) (by kernel_rfl) (fun _ _ _ h => h) (.inl ⟨rfl, fun w' _ => rfl⟩) trivial ?_
    refine Wc.till_take0 (i := 3) rfl rfl (by kernel_rfl) (by kernel_rfl) (by kernel_rfl) (fun _ _ _ h => h) (.inl ⟨rfl, fun w' _ => rfl⟩) trivial ?_
    refine Wc.till_take (i := 5) (v := .agg #[.int .i64 k, .int .i64 h, .int .i64 z]) rfl (by kernel_rfl) (by kernel_rfl) (by kernel_rfl) (by kernel_rfl) (fun _ _ _ h => h) (.inl ⟨rfl, fun w' h => by obtain ⟨-, e0, e1, e2, -⟩ := h; go_simp⟩) trivial HS1.out ?_
    refine Wc.till_take (i := 6) (v := .agg #[.slice A3 N c3, .slice B3 N d3]) rfl (by kernel_rfl) (by kernel_rfl) (by kernel_rfl) (by kernel_rfl) (fun _ _ _ h => h) (.inl ⟨rfl, fun w' h => by obtain ⟨-, -, -, -, e3, e4, -⟩ := h; go_simp⟩) trivial HS1.out ?_
    refine Wc.till_take0 (i := 7) (v := .agg #[.int .i64 k, .int .i64 h, .int .i64 z, .slice A3 N c3, .slice B3 N d3]) rfl rfl (by kernel_rfl) (by kernel_rfl) (by kernel_rfl) (fun _ _ _ h => h) (.inl ⟨rfl, fun w' h => by go_simp⟩) trivial ?_
    refine Wc.till_take (i := 4) (v := .slice LA en lc) rfl (by kernel_rfl) (by kernel_rfl) (by kernel_rfl) (by kernel_rfl) (fun _ _ _ h => h) (.inl ⟨rfl, fun w' h => by obtain ⟨-, -, -, -, -, -, e5⟩ := h; go_simp⟩) trivial HS1.out ?_
    refine Wc.till_all (rs := [8]) (by kernel_rfl) (by simp) ?_
    intro i hi
    simp only [List.mem_cons, List.not_mem_nil, or_false] at hi
    subst hi
    refine wpOp_step rfl (fun K' hK => ?_)
    rw [if_pos (show Region.wanted _ _ = true from rfl)]
    go_simp
    have hb8 : Below X0.heap.size X0 (X0.alloc (.cells #[.int .i64 k, .int .i64 h, .int .i64 z, .slice A3 N c3, .slice B3 N d3] 185)) := bl_alloc (Below.refl _ _) _
    have HP8 := Lib.hid (alloc_new X0 (.cells #[.int .i64 k, .int .i64 h, .int .i64 z, .slice A3 N c3, .slice B3 N d3] 185))
    have HCL8 := Lib.hid (HCL7.out.keep hb8)
    have HX1 : Hid ((X0.alloc (.cells #[.int .i64 k, .int .i64 h, .int .i64 z, .slice A3 N c3, .slice B3 N d3] 185)).heap[W.heap.size]? = some (.cells #[.int .i64 k, .int .i64 h, .int .i64 z] 42 (0, 0)) ∧ (X0.alloc (.cells #[.int .i64 k, .int .i64 h, .int .i64 z, .slice A3 N c3, .slice B3 N d3] 185)).heap[q3]? = some (.cells #[.slice A3 N c3, .slice B3 N d3] 82 (0, 0)) ∧ Ch (X0.alloc (.cells #[.int .i64 k, .int .i64 h, .int .i64 z, .slice A3 N c3, .slice B3 N d3] 185)) B ⟨k, h, z, A3, c3, B3, d3, L⟩ ∧ Below B W (X0.alloc (.cells #[.int .i64 k, .int .i64 h, .int .i64 z, .slice A3 N c3, .slice B3 N d3] 185))) :=
      ⟨blk_bl HX0.out.1 hb8, blk_bl HX0.out.2.1 hb8, HX0.out.2.2.1.keep hb8, HX0.out.2.2.2.trans (hb8.mono HCL7.out.far)⟩
    clear hb8
    generalize X0.alloc (.cells #[.int .i64 k, .int .i64 h, .int .i64 z, .slice A3 N c3, .slice B3 N d3] 185) = X1 at *
    refine hK _ _ ⟨⟨trivial, fun _ => ⟨cell_of HX1.out.1 0, cell_of HX1.out.1 1, cell_of HX1.out.1 2, cell_of HX1.out.2.1 0, cell_of HX1.out.2.1 1, by rw [HEN.out]; exact cell_of HCL8.out.blk 0⟩⟩, ?_⟩
    refine Wc.till_all (rs := [9]) (by kernel_rfl) (by simp) ?_
    intro i hi
    simp only [List.mem_cons, List.not_mem_nil, or_false] at hi
    subst hi
    refine wpOp_step rfl (fun K' hK => ?_)
    refine step_append_lies _ (by rfl) _ _ _ (by rfl) B 185 zO (.agg #[.int .i64 0, .int .i64 0, .int .i64 0, .slice none 0 0, .slice none 0 0]) 5 72 Tryz.underlying177 hiO hzO0 hzO1 hzO2 rfl (by decide) (.slice LA en lc) en (ovs es) (by rfl) (by rw [HEN.out]; exact HCL8.out.row) ⟨X0.heap.size, 0, none⟩ 1 1 [.int .i64 k, .int .i64 h, .int .i64 z, .slice A3 N c3, .slice B3 N d3] (by rfl) (by rfl) (World.news_of_block (cs := #[.int .i64 k, .int .i64 h, .int .i64 z, .slice A3 N c3, .slice B3 N d3]) (t := 185) (fr := (0, 0)) HP8.out) (by simp [Value.oneCell']) (by decide) (by unfold maxLen; omega) (by omega) HCL8.out.far _ rfl ?_
    intro p1 cap1 w8 hown8 hgrow8 _ _
    have HP := Lib.hid (HCL8.out.push (e := ⟨k, h, z, A3, c3, B3, d3, L⟩) HX1.out.2.2.1 (p := some ⟨p1, 0, none⟩) (cap := cap1) (by rw [← HEN.out]; unfold Own.vs; rw [← HN.out]; exact hown8) (by rw [← HEN.out]; exact hgrow8))
    rw [← HEN.out] at HP
    have HX8 : Hid (w8.heap[W.heap.size]? = some (.cells #[.int .i64 k, .int .i64 h, .int .i64 z] 42 (0, 0)) ∧ w8.heap[q3]? = some (.cells #[.slice A3 N c3, .slice B3 N d3] 82 (0, 0)) ∧ Below B W w8) := by
      have hrow := HCL8.out.row
      rw [← HEN.out] at hrow
      exact ⟨grown_blk hgrow8 HX1.out.1 (ne_type hrow HX1.out.1 (by decide)), grown_blk hgrow8 HX1.out.2.1 (ne_type hrow HX1.out.2.1 (by decide)), HX1.out.2.2.2.grown hgrow8 HCL8.out.far (own_lo hrow)⟩
    have j0 := cell_of HP.out.1 0
    have s0 := free_of HP.out.1 0
    clear hown8 hgrow8
    refine hK _ _ ⟨⟨trivial, fun _ => ⟨cell_of HX8.out.1 0, cell_of HX8.out.1 1, cell_of HX8.out.1 2, cell_of HX8.out.2.1 0, cell_of HX8.out.2.1 1, j0⟩⟩, ?_⟩
    refine Wc.till_take0 (i := 10) rfl rfl (by kernel_rfl) (by kernel_rfl) (by kernel_rfl) (fun _ _ _ h => h) (.inl ⟨rfl, fun w' _ => rfl⟩) trivial ?_
    refine Wc.till_take0 (i := 11) rfl rfl (by kernel_rfl) (by kernel_rfl) (by kernel_rfl) (fun _ _ _ h => h) (.inl ⟨rfl, fun w' _ => rfl⟩) trivial ?_
    refine Wc.till_all (rs := [12]) (by kernel_rfl) (by simp) ?_
    intro i hi
    simp only [List.mem_cons, List.not_mem_nil, or_false] at hi
    subst hi
    refine wpOp_step rfl (fun K' hK => ?_)
    rw [if_pos (show Region.wanted _ _ = true from rfl)]
    go_simp
    have HX9 : Hid ((w8.setCell ⟨q, 0, none⟩ (.slice (some ⟨p1, 0, none⟩) (en + 1) cap1)).heap[q3]? = some (.cells #[.slice A3 N c3, .slice B3 N d3] 82 (0, 0)) ∧ Below B W (w8.setCell ⟨q, 0, none⟩ (.slice (some ⟨p1, 0, none⟩) (en + 1) cap1))) :=
      ⟨set_blk HX8.out.2.1 (fun e => by have h1 := HP.out.1; rw [e, HX8.out.2.1] at h1; simp at h1), HX8.out.2.2.setCell HCL8.out.lo _⟩
    have HCL9 := Lib.hid HP.out.2
    generalize w8.setCell ⟨q, 0, none⟩ (.slice (some ⟨p1, 0, none⟩) (en + 1) cap1) = w9 at *
    refine hK _ _ ⟨⟨trivial, fun h => (by cases h)⟩, ?_⟩
    refine Wc.till_done (by kernel_rfl) ?_ _
    clear j0 s0 HP HX8 HX1 HCL8 HP8 HX0 HS1 HCL7
    go_wp2_with fail
    obtain ⟨l2', hl2'⟩ : ∃ l, l = (turnL n false l2 (L.map Prod.fst)).1 := ⟨_, rfl⟩
    obtain ⟨t2, ht2⟩ : ∃ t : Int, t = ((turnL n false l2 (L.map Prod.fst)).2 : Int) := ⟨_, rfl⟩
    obtain ⟨l1', hl1'⟩ : ∃ l, l = (turnL n false l1 (blocksOf (L.map Prod.snd))).1 := ⟨_, rfl⟩
    obtain ⟨t1, ht1⟩ : ∃ t : Int, t = ((turnL n false l1 (blocksOf (L.map Prod.snd))).2 : Int) := ⟨_, rfl⟩
    obtain ⟨nb, hnb⟩ : ∃ t, t = (blocksOf (L.map Prod.snd)).length := ⟨_, rfl⟩
    have HNB : Hid (nb ≤ 1000000000 ∧ N ≤ 1000000000) := by
      have h9 := blocks_lenC (L.map Prod.snd)
      have h8 := sumR_in (runsOf (L.map Prod.snd)) (fun p hp => by
        simp only [runsOf, List.mem_map] at hp
        obtain ⟨t, ht, rfl⟩ := hp
        exact (HLL.out.2 t (by simpa using ht)).2.2.2)
      have e9 : (runsOf (L.map Prod.snd)).length = N := by simp [runsOf, HN.out]
      have := HLL.out.1
      have := HN.out
      rw [h9, ← hnb, e9] at h8
      exact ⟨by omega, by omega⟩
    have HPT2 : Hid (∀ {W' : World}, Cl W' B q b1 b2 n l1 l2 g1 g2 c1 c2 (es ++ [⟨k, h, z, A3, c3, B3, d3, L⟩]) (some ⟨p1, 0, none⟩) cap1 → W'.heap[q3]? = some (.cells #[.slice A3 N c3, .slice B3 N d3] 82 (0, 0)) → Calls Tryz.prog 61 #[.pointer (some ⟨b2, 0, none⟩), .slice A3 N c3] W' fun e w' => e = .returned (.int .i64 t2) ∧ Cl w' B q b1 b2 n l1 l2' g1 g2 c1 c2 (es ++ [⟨k, h, z, A3, c3, B3, d3, L⟩]) (some ⟨p1, 0, none⟩) cap1 ∧ w'.heap[q3]? = some (.cells #[.slice A3 N c3, .slice B3 N d3] 82 (0, 0)) ∧ Below B W' w') := fun {W'} hcl hbx => by
      have hch := hcl.chs ⟨k, h, z, A3, c3, B3, d3, L⟩ (by simp)
      obtain ⟨cu, hgb⟩ := bm_blkg hcl.bm2
      have h9 := put_ hcl.bm2 (own_rk (k := .i64) hch.slots).1 (fun a a' ha ha' => by
        cases ha'
        obtain ⟨cur, hc9⟩ := Bm.own_blk' (k := a.block) hch.slots (by have ha : A3 = some a := ha; show (Value.slice A3 _ _).ownBlock = _; rw [ha]; rfl)
        intro e9
        simp only at e9
        rw [← e9, hgb] at hc9
        simp at hc9) c3 (by rw [List.length_map, ← HN.out]; exact HNB.out.2)
      rw [List.length_map, ← HN.out, ← hl2', ← ht2] at h9
      refine h9.mono ?_
      rintro e w' ⟨r1, r2, r3⟩
      exact ⟨r1, hcl.put2 r3 r2, only_blk r3 hgb hbx (by decide), only_below r3 (bm_lo hcl.bm2)⟩
    have HPT1 : Hid (∀ {W' : World} {D : Option Addr} {cd B' : Nat}, Cl W' B q b1 b2 n l1 l2' g1 g2 c1 c2 (es ++ [⟨k, h, z, A3, c3, B3, d3, L⟩]) (some ⟨p1, 0, none⟩) cap1 → W'.heap[q3]? = some (.cells #[.slice A3 N c3, .slice B3 N d3] 82 (0, 0)) → W'.ownsRow B' 3 1 (.slice D nb cd) nb (ivs .i64 (blocksOf (L.map Prod.snd))) → Calls Tryz.prog 61 #[.pointer (some ⟨b1, 0, none⟩), .slice D nb cd] W' fun e w' => e = .returned (.int .i64 t1) ∧ Cl w' B q b1 b2 n l1' l2' g1 g2 c1 c2 (es ++ [⟨k, h, z, A3, c3, B3, d3, L⟩]) (some ⟨p1, 0, none⟩) cap1 ∧ w'.heap[q3]? = some (.cells #[.slice A3 N c3, .slice B3 N d3] 82 (0, 0)) ∧ Below B W' w') := fun {W'} {D} {cd} {B'} hcl hbx hD => by
      obtain ⟨cu, hgb⟩ := bm_blkg hcl.bm1
      have h9 := put_ hcl.bm1 (own_rk (k := .i64) hD).1 (fun a a' ha ha' => by
        cases ha'
        obtain ⟨cur, hc9⟩ := Bm.own_blk' (k := a.block) hD (by rw [ha]; rfl)
        intro e9
        simp only at e9
        rw [← e9, hgb] at hc9
        simp at hc9) cd (by rw [← hnb]; exact HNB.out.1)
      rw [← hnb, ← hl1', ← ht1] at h9
      refine h9.mono ?_
      rintro e w' ⟨r1, r2, r3⟩
      exact ⟨r1, hcl.put1 r3 r2, only_blk r3 hgb hbx (by decide), only_below r3 (bm_lo hcl.bm1)⟩
    have HBK : Hid (∀ {W' : World}, Ch W' B ⟨k, h, z, A3, c3, B3, d3, L⟩ → Calls Tryz.prog 47 #[.agg #[.slice A3 N c3, .slice B3 N d3]] W' fun e w' => ∃ D cd, e = .returned (.slice D nb cd) ∧ w'.ownsRow W'.heap.size 3 1 (.slice D nb cd) nb (ivs .i64 (blocksOf (L.map Prod.snd))) ∧ Below W'.heap.size W' w') := fun {W'} hch => by
      have h9 := blocks_ (A := A3) (l := L.map Prod.snd) (own_tr hch.parts).1 N c3 d3 (by rw [List.length_map]; have := HLL.out.1; omega) HLL.out.2
      rw [List.length_map, ← HN.out, ← hnb] at h9
      refine h9.mono ?_
      rintro e w' ⟨v', rfl, ho, hb'⟩
      obtain ⟨D, cd, rfl⟩ := own_slice ho
      exact ⟨D, cd, rfl, ho, hb'⟩
    have HCT : Hid (∀ {W' : World}, Ch W' B ⟨k, h, z, A3, c3, B3, d3, L⟩ → Calls Tryz.prog 42 #[.agg #[.slice A3 N c3, .slice B3 N d3]] W' fun e w' => e = .returned (.int .i64 cn) ∧ Below W'.heap.size W' w') := fun {W'} hch => by
      have h9 := count_ (A := A3) (l := L.map Prod.snd) (own_tr hch.parts).1 N c3 d3 (by rw [List.length_map]; have := HLL.out.1; omega) (fun t ht => (HLL.out.2 t ht).2.2.2)
      rw [List.length_map, ← HN.out, ← HCN0.out] at h9
      exact h9
    have HSC : Hid (∀ {W' : World} {a b : List Nat}, Cl W' B q b1 b2 n a b g1 g2 c1 c2 (es ++ [⟨k, h, z, A3, c3, B3, d3, L⟩]) (some ⟨p1, 0, none⟩) cap1 → W'.heap[q3]? = some (.cells #[.slice A3 N c3, .slice B3 N d3] 82 (0, 0)) → W'.cell? ⟨q, 1, none⟩ = some (.pointer (some ⟨b1, 0, none⟩)) ∧ W'.cell? ⟨q, 2, none⟩ = some (.pointer (some ⟨b2, 0, none⟩)) ∧ W'.cell? ⟨q3, 0, none⟩ = some (.slice A3 N c3) ∧ W'.cell? ⟨q3, 1, none⟩ = some (.slice B3 N d3)) := fun {W'} {a} {b} hcl hbx => ⟨cell_of hcl.blk 1, cell_of hcl.blk 2, cell_of hbx 0, cell_of hbx 1⟩
    have HY9 : Hid (Cl w9.drew B q b1 b2 n l1 l2 g1 g2 c1 c2 (es ++ [⟨k, h, z, A3, c3, B3, d3, L⟩]) (some ⟨p1, 0, none⟩) cap1 ∧ w9.drew.heap[q3]? = some (.cells #[.slice A3 N c3, .slice B3 N d3] 82 (0, 0)) ∧ Below B W w9.drew) := ⟨HCL9.out.keep (bl_drew (Below.refl _ _)), HX9.out.1, ⟨HX9.out.2.os, HX9.out.2.tape, HX9.out.2.output, HX9.out.2.size, HX9.out.2.block⟩⟩
    have HS9 := Lib.hid (HSC.out HY9.out.1 HY9.out.2.1)
    rw [← hl2', ← ht2, ← hl1', ← ht1] at HTF
    clear hl2' ht2 hl1' ht1 hnb
    by_cases hc2 : t2 = (N : Int)
    rotate_left
    · have hT : TF = none := by rw [HTF.out, if_neg (by simp), if_pos hc2]
      subst hT
      have f2 : (t2 == (N : Int)) = false := beq_eq_false_iff_ne.2 hc2
      clear hc2
      refine Wc.region_till (S0 := fun _ => True) (S1 := fun W' => W'.cell? ⟨q, 1, none⟩ = some (.pointer (some ⟨b1, 0, none⟩)) ∧ W'.cell? ⟨q, 2, none⟩ = some (.pointer (some ⟨b2, 0, none⟩)) ∧ W'.cell? ⟨q3, 0, none⟩ = some (.slice A3 N c3) ∧ W'.cell? ⟨q3, 1, none⟩ = some (.slice B3 N d3)) (E := fun _ => true) (by kernel_rfl) ?_
      change Wc.Till _ _ _ _ _ _ _ _ _ _ w9.drew
      refine Wc.till_take (i := 0) (v := .pointer (some ⟨q, 0, none⟩)) rfl (by kernel_rfl) (by kernel_rfl) (by kernel_rfl) (by kernel_rfl) (fun _ _ _ h => h) (.inl ⟨by rfl, fun w' _ => rfl⟩) trivial HS9.out ?_
      try simp only [Act.put, List.getElem_toArray, List.getElem_cons_zero, List.getElem_cons_succ, List.setIfInBounds_toArray, List.set_cons_zero, List.set_cons_succ]
      refine Wc.till_take (i := 1) (v := .pointer (some ⟨q, 0, none⟩)) rfl (by kernel_rfl) (by kernel_rfl) (by kernel_rfl) (by kernel_rfl) (fun _ _ _ h => h) (.inl ⟨by rfl, fun w' _ => rfl⟩) trivial HS9.out ?_
      try simp only [Act.put, List.getElem_toArray, List.getElem_cons_zero, List.getElem_cons_succ, List.setIfInBounds_toArray, List.set_cons_zero, List.set_cons_succ]
      refine Wc.till_take (i := 2) (v := .pointer (some ⟨q, 2, none⟩)) rfl (by kernel_rfl) (by kernel_rfl) (by kernel_rfl) (by kernel_rfl) (fun _ _ _ h => h) (.inl ⟨by rfl, fun w' _ => rfl⟩) trivial HS9.out ?_
      try simp only [Act.put, List.getElem_toArray, List.getElem_cons_zero, List.getElem_cons_succ, List.setIfInBounds_toArray, List.set_cons_zero, List.set_cons_succ]
      refine Wc.till_take (i := 3) (v := .pointer (some ⟨b2, 0, none⟩)) rfl (by kernel_rfl) (by kernel_rfl) (by kernel_rfl) (by kernel_rfl) (fun _ _ _ h => h) (.inl ⟨by rfl, fun w' h => by obtain ⟨-, e0, e1, e2, e3⟩ := h; go_simp⟩) trivial HS9.out ?_
      try simp only [Act.put, List.getElem_toArray, List.getElem_cons_zero, List.getElem_cons_succ, List.setIfInBounds_toArray, List.set_cons_zero, List.set_cons_succ]
      refine Wc.till_take (i := 4) (v := .pointer (some ⟨q3, 0, none⟩)) rfl (by kernel_rfl) (by kernel_rfl) (by kernel_rfl) (by kernel_rfl) (fun _ _ _ h => h) (.inl ⟨by rfl, fun w' _ => rfl⟩) trivial HS9.out ?_
      try simp only [Act.put, List.getElem_toArray, List.getElem_cons_zero, List.getElem_cons_succ, List.setIfInBounds_toArray, List.set_cons_zero, List.set_cons_succ]
      refine Wc.till_take (i := 5) (v := .slice A3 N c3) rfl (by kernel_rfl) (by kernel_rfl) (by kernel_rfl) (by kernel_rfl) (fun _ _ _ h => h) (.inl ⟨by rfl, fun w' h => by obtain ⟨-, e0, e1, e2, e3⟩ := h; go_simp⟩) trivial HS9.out ?_
      try simp only [Act.put, List.getElem_toArray, List.getElem_cons_zero, List.getElem_cons_succ, List.setIfInBounds_toArray, List.set_cons_zero, List.set_cons_succ]
      refine Wc.till_take (i := 7) (v := .pointer (some ⟨q3, 0, none⟩)) rfl (by kernel_rfl) (by kernel_rfl) (by kernel_rfl) (by kernel_rfl) (fun _ _ _ h => h) (.inl ⟨by rfl, fun w' _ => by go_simp⟩) trivial HS9.out ?_
      try simp only [Act.put, List.getElem_toArray, List.getElem_cons_zero, List.getElem_cons_succ, List.setIfInBounds_toArray, List.set_cons_zero, List.set_cons_succ]
      refine Wc.till_take (i := 8) (v := .slice A3 N c3) rfl (by kernel_rfl) (by kernel_rfl) (by kernel_rfl) (by kernel_rfl) (fun _ _ _ h => h) (.inl ⟨by rfl, fun w' h => by obtain ⟨-, e0, e1, e2, e3⟩ := h; go_simp⟩) trivial HS9.out ?_
      try simp only [Act.put, List.getElem_toArray, List.getElem_cons_zero, List.getElem_cons_succ, List.setIfInBounds_toArray, List.set_cons_zero, List.set_cons_succ]
      refine Wc.till_take (i := 9) (v := .int .i64 (N : Int)) rfl (by kernel_rfl) (by kernel_rfl) (by kernel_rfl) (by kernel_rfl) (fun _ _ _ h => h) (.inl ⟨by rfl, fun w' h => by go_simp⟩) trivial HS9.out ?_
      try simp only [Act.put, List.getElem_toArray, List.getElem_cons_zero, List.getElem_cons_succ, List.setIfInBounds_toArray, List.set_cons_zero, List.set_cons_succ]
      refine Wc.till_all (rs := [6]) (by kernel_rfl) (by simp) ?_
      intro i hi
      simp only [List.mem_cons, List.not_mem_nil, or_false] at hi
      subst hi
      refine wpOp_step rfl (fun K' hK => ?_)
      rw [if_pos (show Region.wanted _ _ = true from rfl)]
      go_simp
      go_at_call 61
      refine (HPT2.out HY9.out.1 HY9.out.2.1).mono ?_
      rintro e w10 ⟨rfl, r1, r2, r3⟩
      have HY10 : Hid (Cl w10 B q b1 b2 n l1 l2' g1 g2 c1 c2 (es ++ [⟨k, h, z, A3, c3, B3, d3, L⟩]) (some ⟨p1, 0, none⟩) cap1 ∧ w10.heap[q3]? = some (.cells #[.slice A3 N c3, .slice B3 N d3] 82 (0, 0)) ∧ Below B W w10) := ⟨r1, r2, HY9.out.2.2.trans r3⟩
      have HS10 := Lib.hid (HSC.out r1 r2)
      clear r1 r2 r3
      refine hK _ _ ⟨⟨trivial, fun _ => HS10.out⟩, ?_⟩
      try simp only [Act.put, List.getElem_toArray, List.getElem_cons_zero, List.getElem_cons_succ, List.setIfInBounds_toArray, List.set_cons_zero, List.set_cons_succ]
      refine Wc.till_take (i := 10) (v := .bool false) rfl (by kernel_rfl) (by kernel_rfl) (by kernel_rfl) (by kernel_rfl) (fun _ _ _ h => h) (.inl ⟨by rfl, fun w' h => by go_simp⟩) trivial HS10.out ?_
      try simp only [Act.put, List.getElem_toArray, List.getElem_cons_zero, List.getElem_cons_succ, List.setIfInBounds_toArray, List.set_cons_zero, List.set_cons_succ]
      refine Wc.till_take (i := 11) (v := .bool false) rfl (by kernel_rfl) (by kernel_rfl) (by kernel_rfl) (by kernel_rfl) (fun _ _ _ h => h) (.inl ⟨by rfl, fun w' _ => by go_simp⟩) trivial HS10.out ?_
      try simp only [Act.put, List.getElem_toArray, List.getElem_cons_zero, List.getElem_cons_succ, List.setIfInBounds_toArray, List.set_cons_zero, List.set_cons_succ]
      refine Wc.till_take (i := 12) (v := undef) rfl (by kernel_rfl) (by kernel_rfl) (by kernel_rfl) (by kernel_rfl) (fun _ _ _ h => h) (.inr ⟨by rfl, by rfl⟩) trivial HS10.out ?_
      try simp only [Act.put, List.getElem_toArray, List.getElem_cons_zero, List.getElem_cons_succ, List.setIfInBounds_toArray, List.set_cons_zero, List.set_cons_succ]
      refine Wc.till_take (i := 13) (v := undef) rfl (by kernel_rfl) (by kernel_rfl) (by kernel_rfl) (by kernel_rfl) (fun _ _ _ h => h) (.inr ⟨by rfl, by rfl⟩) trivial HS10.out ?_
      try simp only [Act.put, List.getElem_toArray, List.getElem_cons_zero, List.getElem_cons_succ, List.setIfInBounds_toArray, List.set_cons_zero, List.set_cons_succ]
      refine Wc.till_take (i := 14) (v := undef) rfl (by kernel_rfl) (by kernel_rfl) (by kernel_rfl) (by kernel_rfl) (fun _ _ _ h => h) (.inr ⟨by rfl, by rfl⟩) trivial HS10.out ?_
      try simp only [Act.put, List.getElem_toArray, List.getElem_cons_zero, List.getElem_cons_succ, List.setIfInBounds_toArray, List.set_cons_zero, List.set_cons_succ]
      refine Wc.till_take (i := 15) (v := undef) rfl (by kernel_rfl) (by kernel_rfl) (by kernel_rfl) (by kernel_rfl) (fun _ _ _ h => h) (.inr ⟨by rfl, by rfl⟩) trivial HS10.out ?_
      try simp only [Act.put, List.getElem_toArray, List.getElem_cons_zero, List.getElem_cons_succ, List.setIfInBounds_toArray, List.set_cons_zero, List.set_cons_succ]
      refine Wc.till_take (i := 16) (v := undef) rfl (by kernel_rfl) (by kernel_rfl) (by kernel_rfl) (by kernel_rfl) (fun _ _ _ h => h) (.inr ⟨by rfl, by rfl⟩) trivial HS10.out ?_
      try simp only [Act.put, List.getElem_toArray, List.getElem_cons_zero, List.getElem_cons_succ, List.setIfInBounds_toArray, List.set_cons_zero, List.set_cons_succ]
      refine Wc.till_take (i := 17) (v := undef) rfl (by kernel_rfl) (by kernel_rfl) (by kernel_rfl) (by kernel_rfl) (fun _ _ _ h => h) (.inr ⟨by rfl, by rfl⟩) trivial HS10.out ?_
      try simp only [Act.put, List.getElem_toArray, List.getElem_cons_zero, List.getElem_cons_succ, List.setIfInBounds_toArray, List.set_cons_zero, List.set_cons_succ]
      refine Wc.till_take (i := 18) (v := undef) rfl (by kernel_rfl) (by kernel_rfl) (by kernel_rfl) (by kernel_rfl) (fun _ _ _ h => h) (.inr ⟨by rfl, by rfl⟩) trivial HS10.out ?_
      try simp only [Act.put, List.getElem_toArray, List.getElem_cons_zero, List.getElem_cons_succ, List.setIfInBounds_toArray, List.set_cons_zero, List.set_cons_succ]
      refine Wc.till_take (i := 19) (v := undef) rfl (by kernel_rfl) (by kernel_rfl) (by kernel_rfl) (by kernel_rfl) (fun _ _ _ h => h) (.inr ⟨by rfl, by rfl⟩) trivial HS10.out ?_
      try simp only [Act.put, List.getElem_toArray, List.getElem_cons_zero, List.getElem_cons_succ, List.setIfInBounds_toArray, List.set_cons_zero, List.set_cons_succ]
      refine Wc.till_take (i := 20) (v := undef) rfl (by kernel_rfl) (by kernel_rfl) (by kernel_rfl) (by kernel_rfl) (fun _ _ _ h => h) (.inr ⟨by rfl, by rfl⟩) trivial HS10.out ?_
      try simp only [Act.put, List.getElem_toArray, List.getElem_cons_zero, List.getElem_cons_succ, List.setIfInBounds_toArray, List.set_cons_zero, List.set_cons_succ]
      refine Wc.till_take (i := 21) (v := undef) rfl (by kernel_rfl) (by kernel_rfl) (by kernel_rfl) (by kernel_rfl) (fun _ _ _ h => h) (.inr ⟨by rfl, by rfl⟩) trivial HS10.out ?_
      try simp only [Act.put, List.getElem_toArray, List.getElem_cons_zero, List.getElem_cons_succ, List.setIfInBounds_toArray, List.set_cons_zero, List.set_cons_succ]
      refine Wc.till_take (i := 22) (v := .bool false) rfl (by kernel_rfl) (by kernel_rfl) (by kernel_rfl) (by kernel_rfl) (fun _ _ _ h => h) (.inl ⟨by rfl, fun w' h => by go_simp⟩) trivial HS10.out ?_
      try simp only [Act.put, List.getElem_toArray, List.getElem_cons_zero, List.getElem_cons_succ, List.setIfInBounds_toArray, List.set_cons_zero, List.set_cons_succ]
      refine Wc.till_take (i := 23) (v := .bool false) rfl (by kernel_rfl) (by kernel_rfl) (by kernel_rfl) (by kernel_rfl) (fun _ _ _ h => h) (.inl ⟨by rfl, fun w' _ => by go_simp⟩) trivial HS10.out ?_
      try simp only [Act.put, List.getElem_toArray, List.getElem_cons_zero, List.getElem_cons_succ, List.setIfInBounds_toArray, List.set_cons_zero, List.set_cons_succ]
      refine Wc.till_done (by kernel_rfl) ?_ _
      go_wp2_with fail
      go_ret
      exact ⟨rfl, HY10.out.2.2⟩
    have f2 : (t2 == (N : Int)) = true := beq_iff_eq.2 hc2
    by_cases hc1 : t1 = cn
    rotate_left
    · have hT : TF = none := by rw [HTF.out, if_neg (by simp), if_neg (by simp [hc2]), if_pos hc1]
      subst hT
      have f1 : (t1 == cn) = false := beq_eq_false_iff_ne.2 hc1
      clear hc1 hc2
      go_region_held3 (fun W' => W'.cell? ⟨q, 1, none⟩ = some (.pointer (some ⟨b1, 0, none⟩)) ∧ W'.cell? ⟨q, 2, none⟩ = some (.pointer (some ⟨b2, 0, none⟩)) ∧ W'.cell? ⟨q3, 0, none⟩ = some (.slice A3 N c3) ∧ W'.cell? ⟨q3, 1, none⟩ = some (.slice B3 N d3))
        (first | exact HS9.out | exact HS10.out | exact HS11.out | exact HS12.out | exact HS13.out)
        (first | (go_at_call 61; refine (HPT2.out HY9.out.1 HY9.out.2.1).mono ?_; rintro e w10 ⟨rfl, r1, r2, r3⟩; (have HY10 : Hid (Cl w10 B q b1 b2 n l1 l2' g1 g2 c1 c2 (es ++ [⟨k, h, z, A3, c3, B3, d3, L⟩]) (some ⟨p1, 0, none⟩) cap1 ∧ w10.heap[q3]? = some (.cells #[.slice A3 N c3, .slice B3 N d3] 82 (0, 0)) ∧ Below B W w10) := ⟨r1, r2, HY9.out.2.2.trans r3⟩); (have HS10 := Lib.hid (HSC.out r1 r2)); clear r1 r2 r3) |
          (go_at_call 47; refine (HBK.out (HY10.out.1.chs ⟨k, h, z, A3, c3, B3, d3, L⟩ (by simp))).mono ?_; rintro e w11 ⟨D, cd, rfl, ho, hb⟩; (have HD := Lib.hid ho); (have HY11 : Hid (Cl w11 B q b1 b2 n l1 l2' g1 g2 c1 c2 (es ++ [⟨k, h, z, A3, c3, B3, d3, L⟩]) (some ⟨p1, 0, none⟩) cap1 ∧ w11.heap[q3]? = some (.cells #[.slice A3 N c3, .slice B3 N d3] 82 (0, 0)) ∧ Below B W w11) := ⟨HY10.out.1.keep hb, blk_bl HY10.out.2.1 hb, HY10.out.2.2.trans (hb.mono HY10.out.1.far)⟩); (have HS11 := Lib.hid (HSC.out HY11.out.1 HY11.out.2.1)); clear ho hb) |
          (go_at_call 61; refine (HPT1.out HY11.out.1 HY11.out.2.1 HD.out).mono ?_; rintro e w12 ⟨rfl, r1, r2, r3⟩; (have HY12 : Hid (Cl w12 B q b1 b2 n l1' l2' g1 g2 c1 c2 (es ++ [⟨k, h, z, A3, c3, B3, d3, L⟩]) (some ⟨p1, 0, none⟩) cap1 ∧ w12.heap[q3]? = some (.cells #[.slice A3 N c3, .slice B3 N d3] 82 (0, 0)) ∧ Below B W w12) := ⟨r1, r2, HY11.out.2.2.trans r3⟩); (have HS12 := Lib.hid (HSC.out r1 r2)); clear r1 r2 r3) |
          (go_at_call 42; refine (HCT.out (HY12.out.1.chs ⟨k, h, z, A3, c3, B3, d3, L⟩ (by simp))).mono ?_; rintro e w13 ⟨rfl, hb⟩; (have HY13 : Hid (Cl w13 B q b1 b2 n l1' l2' g1 g2 c1 c2 (es ++ [⟨k, h, z, A3, c3, B3, d3, L⟩]) (some ⟨p1, 0, none⟩) cap1 ∧ w13.heap[q3]? = some (.cells #[.slice A3 N c3, .slice B3 N d3] 82 (0, 0)) ∧ Below B W w13) := ⟨HY12.out.1.keep hb, blk_bl HY12.out.2.1 hb, HY12.out.2.2.trans (hb.mono HY12.out.1.far)⟩); (have HS13 := Lib.hid (HSC.out HY13.out.1 HY13.out.2.1)); clear hb))
      go_wp2_with fail
      go_ret
      exact ⟨rfl, HY13.out.2.2⟩
    have hT : TF = some (l1', l2', L) := by rw [HTF.out, if_neg (by simp), if_neg (by simp [hc2]), if_neg (by simp [hc1])]
    subst hT
    have f1 : (t1 == cn) = true := beq_iff_eq.2 hc1
    clear hc1 hc2
    go_region_held3 (fun W' => W'.cell? ⟨q, 1, none⟩ = some (.pointer (some ⟨b1, 0, none⟩)) ∧ W'.cell? ⟨q, 2, none⟩ = some (.pointer (some ⟨b2, 0, none⟩)) ∧ W'.cell? ⟨q3, 0, none⟩ = some (.slice A3 N c3) ∧ W'.cell? ⟨q3, 1, none⟩ = some (.slice B3 N d3))
      (first | exact HS9.out | exact HS10.out | exact HS11.out | exact HS12.out | exact HS13.out)
      (first | (go_at_call 61; refine (HPT2.out HY9.out.1 HY9.out.2.1).mono ?_; rintro e w10 ⟨rfl, r1, r2, r3⟩; (have HY10 : Hid (Cl w10 B q b1 b2 n l1 l2' g1 g2 c1 c2 (es ++ [⟨k, h, z, A3, c3, B3, d3, L⟩]) (some ⟨p1, 0, none⟩) cap1 ∧ w10.heap[q3]? = some (.cells #[.slice A3 N c3, .slice B3 N d3] 82 (0, 0)) ∧ Below B W w10) := ⟨r1, r2, HY9.out.2.2.trans r3⟩); (have HS10 := Lib.hid (HSC.out r1 r2)); clear r1 r2 r3) |
        (go_at_call 47; refine (HBK.out (HY10.out.1.chs ⟨k, h, z, A3, c3, B3, d3, L⟩ (by simp))).mono ?_; rintro e w11 ⟨D, cd, rfl, ho, hb⟩; (have HD := Lib.hid ho); (have HY11 : Hid (Cl w11 B q b1 b2 n l1 l2' g1 g2 c1 c2 (es ++ [⟨k, h, z, A3, c3, B3, d3, L⟩]) (some ⟨p1, 0, none⟩) cap1 ∧ w11.heap[q3]? = some (.cells #[.slice A3 N c3, .slice B3 N d3] 82 (0, 0)) ∧ Below B W w11) := ⟨HY10.out.1.keep hb, blk_bl HY10.out.2.1 hb, HY10.out.2.2.trans (hb.mono HY10.out.1.far)⟩); (have HS11 := Lib.hid (HSC.out HY11.out.1 HY11.out.2.1)); clear ho hb) |
        (go_at_call 61; refine (HPT1.out HY11.out.1 HY11.out.2.1 HD.out).mono ?_; rintro e w12 ⟨rfl, r1, r2, r3⟩; (have HY12 : Hid (Cl w12 B q b1 b2 n l1' l2' g1 g2 c1 c2 (es ++ [⟨k, h, z, A3, c3, B3, d3, L⟩]) (some ⟨p1, 0, none⟩) cap1 ∧ w12.heap[q3]? = some (.cells #[.slice A3 N c3, .slice B3 N d3] 82 (0, 0)) ∧ Below B W w12) := ⟨r1, r2, HY11.out.2.2.trans r3⟩); (have HS12 := Lib.hid (HSC.out r1 r2)); clear r1 r2 r3) |
        (go_at_call 42; refine (HCT.out (HY12.out.1.chs ⟨k, h, z, A3, c3, B3, d3, L⟩ (by simp))).mono ?_; rintro e w13 ⟨rfl, hb⟩; (have HY13 : Hid (Cl w13 B q b1 b2 n l1' l2' g1 g2 c1 c2 (es ++ [⟨k, h, z, A3, c3, B3, d3, L⟩]) (some ⟨p1, 0, none⟩) cap1 ∧ w13.heap[q3]? = some (.cells #[.slice A3 N c3, .slice B3 N d3] 82 (0, 0)) ∧ Below B W w13) := ⟨HY12.out.1.keep hb, blk_bl HY12.out.2.1 hb, HY12.out.2.2.trans (hb.mono HY12.out.1.far)⟩); (have HS13 := Lib.hid (HSC.out HY13.out.1 HY13.out.2.1)); clear hb))
    go_wp2_with fail
    go_ret
    exact ⟨⟨rfl, A3, c3, B3, d3, some ⟨p1, 0, none⟩, cap1, HY13.out.1⟩, HY13.out.2.2⟩
end Go.Proofs.YtgnagbbdnlmgeaaGreat.Cm
end
section
set_option maxHeartbeats 4000000
set_option maxRecDepth 100000
namespace Go.Proofs.YtgnagbbdnlmgeaaGreat.Cm
open Go Go.RowKit
open Rr Ob Ba Ko Ge Oc Pk Su Rf Dv Vo Ra Jh Tr Iq Bm In Je Lo
abbrev Dat := (Int × Int × Int) × List (Int × Tri)
def Own.dat (e : Own) : Dat := ((e.k, e.h, e.z), e.L)
abbrev St := List Nat × List Nat × List Dat
def stepG (n s : Nat) (sl : Int → Option Tri) (inf : Int → Option (Int × Int × Int)) (i : Nat) (st : St) : Option St :=
  match inf i with
  | none => none
  | some t => match takeF n s sl st.1 st.2.1 t.2.1 t.2.2 with
    | none => none
    | some r => some (r.1, r.2.1, st.2.2 ++ [(t, r.2.2)])
def scanG (n s : Nat) (sl : Int → Option Tri) (inf : Int → Option (Int × Int × Int)) : Nat → Nat → St → Option St
  | 0, _, st => some st
  | k + 1, i, st => match stepG n s sl inf i st with
    | none => none
    | some st' => scanG n s sl inf k (i + 1) st'
def scanF (n m s : Nat) (ws : List Nat) : Option St := scanG n s (slF ws n m) (inF ws m) m 0 (List.replicate ((n + 63) / 64) 0, List.replicate ((n + 63) / 64) 0, [])
theorem bm_base {W : World} {B B' b n : Nat} {l : List Nat} {A : Option Addr} {c : Nat} (h : Bm W B b n l A c) (hB : B' ≤ B) : Bm W B' b n l A c := ⟨h.box, own_base h.row hB, Nat.le_trans hB h.lo, h.apart, h.len, h.lt, h.le⟩
theorem ok_tail {ws : List Nat} {m : Nat} {i : Int} {t : Int × Int × Int} (h : inF ws m i = some t) : t.2.2 ≤ 9223372036854775807 := by
  unfold inF at h
  split at h
  · split at h
    · rename_i h9
      have : t = n6 (inL ws i.toNat) := (Option.some.inj h).symm
      rw [this]
      unfold n6
      rw [if_pos h9]
      unfold ok6 at h9
      simp at h9
      show ((inL ws i.toNat).getD 1 0 : Int) ≤ _
      have := h9.2.1
      simp only [List.getD_eq_getElem?_getD]
      omega
    · cases h
  · cases h
theorem scan_ {W : World} {v b n m s : Nat} {dv : Dev} {g : Lay} {ws : List Nat} (hv : VolIs W v b n m s dv g) (hwd : Pm.wordsOf dv = ints ws) (hlt : ∀ x ∈ ws, x < 18446744073709551616) (hfit : 16 + 8 * m + n ≤ ws.length) (hn : n ≤ 24) (hm : m ≤ 24) (hs1 : 1 ≤ s) :
    Calls Tryz.prog 53 #[.pointer (some ⟨v, 0, none⟩)] W fun e w' =>
      (∀ st, scanF n m s ws = some st → ∃ q b1 b2 g1 g2 c1 c2 es LA lc, e = .returned (.tuple #[.pointer (some ⟨q, 0, none⟩), .int .i64 0]) ∧ Cl w' W.heap.size q b1 b2 n st.1 st.2.1 g1 g2 c1 c2 es LA lc ∧ es.map Own.dat = st.2.2) ∧
      (scanF n m s ws = none → e = .returned (.tuple #[.pointer none, .int .i64 2])) ∧ Below W.heap.size W w' := by
  have hu := Tryz.underlying34
  have hu2 := Tryz.underlying179
  have hu3 := Tryz.underlying42
  have HG := Lib.hid (Jh.geom_ hv)
  have HIN : Hid (∀ {W' : World} (i : Int), Below W.heap.size W W' → _) := fun {W'} i hb => inode_call (hv.below hb) hwd hlt (by omega) i
  have HTK : Hid (∀ {W' : World} {q b1 b2 : Nat} {l1 l2 : List Nat} {g1 g2 c1 c2 : Nat} {es : List Own} {LA : Option Addr} {lc : Nat} (k h z : Int), Below W.heap.size W W' → Cl W' W.heap.size q b1 b2 n l1 l2 g1 g2 c1 c2 es LA lc → es.length ≤ 65534 → z ≤ 9223372036854775807 → _) :=
    fun {W'} {q} {b1} {b2} {l1} {l2} {g1} {g2} {c1} {c2} {es} {LA} {lc} k h z hb hc hes hz => take_ (hv.below hb) hwd hlt hfit hn hs1 hc hes k h z hz
  have HTL : Hid (∀ i t, inF ws m i = some t → t.2.2 ≤ 9223372036854775807) := fun i t h => ok_tail h
  obtain ⟨R, hR⟩ : ∃ R, R = scanF n m s ws := ⟨_, rfl⟩
  rw [← hR]
  unfold scanF at hR
  generalize slF ws n m = sl at *
  generalize inF ws m = inf at *
  have HR := Lib.hid hR
  clear hv hwd hlt hfit hR
  go_enter Tryz.func53, Tryz.ntmps53
  go_wp2_with fail
  refine HG.out.mono ?_
  rintro e w1 ⟨rfl, hb1⟩
  obtain ⟨W1, hW1⟩ : ∃ W1, W1 = w1.alloc (.cells #[.int .i64 n, .int .i64 m, .int .i64 s] 34) := ⟨_, rfl⟩
  have hbw : Below w1.heap.size w1 W1 := by rw [hW1]; exact bl_alloc (Below.refl _ _) _
  have HQ1 : Hid (W1.heap[w1.heap.size]? = some (.cells #[.int .i64 n, .int .i64 m, .int .i64 s] 34 (0, 0))) := by rw [hW1]; exact alloc_new _ _
  have HB1 := Lib.hid (bl_then hb1 hbw)
  have HCL : Hid (∀ W', Bl W1 W' → W'.cell? ⟨w1.heap.size, 0, none⟩ = some (.int .i64 n) ∧ W'.cell? ⟨w1.heap.size, 1, none⟩ = some (.int .i64 m) ∧ Bl W1 W') := fun W' hb => ⟨cell_of (blk_bl HQ1.out hb.below) 0, cell_of (blk_bl HQ1.out hb.below) 1, hb⟩
  have HB0 : Hid (Bl W1 W1.drew) := ⟨bl_drew (Below.refl _ _)⟩
  clear hb1 hbw
  go_wp2_with fail
  rw [← hW1]
  clear hW1
  generalize w1.heap.size = q1 at *
  go_region_held3 (fun W' => W'.cell? ⟨q1, 0, none⟩ = some (.int .i64 n) ∧ W'.cell? ⟨q1, 1, none⟩ = some (.int .i64 m) ∧ Bl W1 W')
    (first | exact HCL.out _ HB0.out | exact HCL.out _ HC5.out | exact HCL.out _ HC6.out | exact HCL.out _ ⟨bl_alloc HC6.out.below _⟩)
    (first | (go_at_call 109; refine (new_ n (by omega) _).mono ?_; rintro e w5 ⟨b1, rfl, hm1, hb5⟩; (have HM1 := Lib.hid hm1); (have HC5 : Hid (Bl W1 w5) := ⟨bl_then HB0.out.below hb5⟩); clear hm1 hb5) |
      (go_at_call 109; refine (new_ n (by omega) _).mono ?_; rintro e w6 ⟨b2, rfl, hm2, hb6⟩; (have HM2 := Lib.hid hm2); (have HM3 := Lib.hid (HM1.out.keep hb6)); (have HC6 : Hid (Bl W1 w6) := ⟨bl_then HC5.out.below hb6⟩); clear hm2 hb6))
  have HC7 : Hid (Cl (w6.alloc (.cells #[.slice none 0 0, .pointer (some ⟨b1, 0, none⟩), .pointer (some ⟨b2, 0, none⟩)] 179)) W.heap.size w6.heap.size b1 b2 n (List.replicate ((n + 63) / 64) 0) (List.replicate ((n + 63) / 64) 0) W1.drew.heap.size w5.heap.size ((n + 63) / 64) ((n + 63) / 64) [] none 0 ∧ Below W.heap.size W (w6.alloc (.cells #[.slice none 0 0, .pointer (some ⟨b1, 0, none⟩), .pointer (some ⟨b2, 0, none⟩)] 179))) := by
    have hb : Below w6.heap.size w6 (w6.alloc (.cells #[.slice none 0 0, .pointer (some ⟨b1, 0, none⟩), .pointer (some ⟨b2, 0, none⟩)] 179)) := bl_alloc (Below.refl _ _) _
    have z1 := HB1.out.size
    have z2 := HC5.out.below.size
    have z3 := HC6.out.below.size
    have z4 : w5.heap.size ≤ w6.heap.size := by have := lt_of HM2.out.box; have := HM2.out.lo; omega
    have y1 := lt_of HM1.out.box
    have y2 := HM2.out.lo
    obtain ⟨cu, y3⟩ := bm_blkg HM1.out
    have y4 := lt_of y3
    exact ⟨⟨alloc_new _ _, by omega, own_nil0 _ _ _ _, (fun e he => by cases he), bm_base (HM3.out.keep hb) z1, bm_base (HM2.out.keep hb) (by omega), by omega, by omega⟩, bl_then HB1.out (bl_then HC6.out.below hb)⟩
  have k1 := (HCL.out (w6.alloc (.cells #[.slice none 0 0, .pointer (some ⟨b1, 0, none⟩), .pointer (some ⟨b2, 0, none⟩)] 179)) ⟨bl_alloc HC6.out.below _⟩).2.1
  generalize w6.alloc (.cells #[.slice none 0 0, .pointer (some ⟨b1, 0, none⟩), .pointer (some ⟨b2, 0, none⟩)] 179) = W7 at *
  generalize w6.heap.size = q at *
  generalize W1.drew.heap.size = g1 at *
  generalize w5.heap.size = g2 at *
  generalize (n + 63) / 64 = cc at *
  go_wp2_with fail
  clear k1
  go_loopw [21] (fun c21 wr => ∃ i : Nat, i ≤ m ∧ c21 = .int .i64 i ∧ Hid (∃ (st : St) (es : List Own) (LA : Option Addr) (lc : Nat), R = scanG n s sl inf (m - i) i st ∧ Cl wr W.heap.size q b1 b2 n st.1 st.2.1 g1 g2 cc cc es LA lc ∧ es.map Own.dat = st.2.2 ∧ es.length = i ∧ Below W.heap.size W wr)) (fun c21 _ => m - (intOf c21).toNat)
  case atStart => exact ⟨0, Nat.zero_le _, rfl, _, [], none, 0, HR.out, HC7.out.1, rfl, rfl, HC7.out.2⟩
  case round =>
    obtain ⟨i, hi, rfl, HI⟩ := hrel
    by_cases hlt : i < m
    · obtain ⟨st, es, LA, lc, r1, r2, r3, r4, r5⟩ := HI.out
      have HIC := Lib.hid (HIN.out (W' := wr) (i : Int) r5)
      obtain ⟨j, hj⟩ : ∃ j, m - i = j + 1 := ⟨m - i - 1, by omega⟩
      rw [hj] at r1
      have HRR := Lib.hid r1
      have HRC := Lib.hid (And.intro r2 (And.intro r3 (And.intro r4 r5)))
      have HJ : Hid (m - (i + 1) = j) := by show _ = _; omega
      clear r1 r2 r3 r4 r5 HI hj
      go_wp2_with fail
      refine HIC.out.mono ?_
      rintro e w8 ⟨er, rfl, he, hb8⟩
      cases ht : inf (i : Int) with
      | none =>
        rw [ht] at he
        have he : (er != 0) = true := he
        have hRn : R = none := by rw [HRR.out]; unfold scanG stepG; rw [ht]
        have HB8 := Lib.hid (bl_then HRC.out.2.2.2 hb8)
        rw [show inV none = (0, -1, 0) from rfl]
        clear ht hb8
        go_wp2_with fail
        go_ret2
        exact ⟨fun st h9 => (by rw [hRn] at h9; cases h9), fun _ => rfl, bl_alloc HB8.out _⟩
      | some t =>
        rw [ht] at he
        have he : (er != 0) = false := he
        have her : er = 0 := by simpa using he
        subst her
        obtain ⟨x, y, z⟩ := t
        rw [show inV (some (x, y, z)) = (x, y, z) from rfl]
        have HT := Lib.hid ht
        have HB8 := Lib.hid (bl_then HRC.out.2.2.2 hb8)
        have HK := Lib.hid (HTK.out (W' := w8.alloc (.cells #[.int .i64 x, .int .i64 y, .int .i64 z] 42)) x y z (bl_alloc HB8.out _) ((HRC.out.1.keep hb8).keep (bl_alloc (Below.refl _ _) _)) (by rw [HRC.out.2.2.1]; omega) (HTL.out _ _ ht))
        clear ht hb8 he
        go_wp2_with fail
        refine HK.out.mono ?_
        rintro e w9 ⟨htk, hb9⟩
        have HB9 : Hid (Below W.heap.size W w9) := (bl_alloc HB8.out _).trans hb9
        cases hf : takeF n s sl st.1 st.2.1 y z with
        | none =>
          rw [hf] at htk
          obtain rfl : e = .returned (.bool false) := htk
          have hRn : R = none := by rw [HRR.out]; unfold scanG stepG; rw [HT.out]; simp only; rw [hf]
          clear hf hb9
          go_wp2_with fail
          go_ret2
          exact ⟨fun st h9 => (by rw [hRn] at h9; cases h9), fun _ => rfl, HB9.out⟩
        | some r =>
          rw [hf] at htk
          obtain ⟨rfl, sa, sc, pa, pc, LA', lc', hcl⟩ := htk
          have HF := Lib.hid hf
          have HCL9 := Lib.hid hcl
          clear hf hb9 hcl
          go_wp2_with fail
          go_roundw
          case rel =>
            refine ⟨i + 1, by omega, by go_num, (r.1, r.2.1, st.2.2 ++ [((x, y, z), r.2.2)]), _, LA', lc', ?_, HCL9.out, ?_, ?_, HB9.out⟩
            · rw [HRR.out, HJ.out]
              show (match stepG n s sl inf i st with | none => none | some st' => scanG n s sl inf j (i + 1) st') = _
              have e9 : stepG n s sl inf i st = some (r.1, r.2.1, st.2.2 ++ [((x, y, z), r.2.2)]) := by unfold stepG; rw [HT.out]; simp only; rw [HF.out]
              rw [e9]
            · rw [List.map_append, HRC.out.2.1]; rfl
            · simp [HRC.out.2.2.1]
          case measure => simp [intOf]; omega
    · obtain rfl : i = m := by omega
      have HI2 : Hid _ := HI.out
      go_wp2_with fail
      go_ret2
      obtain ⟨st, es, LA, lc, r1, r2, r3, r4, r5⟩ := HI.out
      rw [Nat.sub_self] at r1
      refine ⟨fun st' h9 => ?_, fun h9 => (by rw [r1] at h9; cases h9), r5⟩
      rw [r1] at h9
      obtain rfl : st = st' := Option.some.inj h9
      exact ⟨_, _, _, _, _, _, _, es, LA, lc, rfl, r2, r3⟩
end Go.Proofs.YtgnagbbdnlmgeaaGreat.Cm
end
section
set_option maxHeartbeats 4000000
set_option maxRecDepth 100000
namespace Go.Proofs.YtgnagbbdnlmgeaaGreat.Cm
open Go Go.RowKit
open Rr Ob Ba Ko Ge Oc Pk Su Rf Dv Vo Ra Jh Tr Iq Bm In Je
structure Bk (w W : World) : Prop where
  below : Below w.heap.size w W
theorem copy_ {W : World} {B b n : Nat} {l : List Nat} {A : Option Addr} {c : Nat} (h : Bm W B b n l A c) (hA : A = none → l = [] ∧ c = 0) :
    Calls Tryz.prog 111 #[.pointer (some ⟨b, 0, none⟩)] W fun e w' => ∃ b' A' c', e = .returned (.pointer (some ⟨b', 0, none⟩)) ∧ Bm w' W.heap.size b' n l A' c' ∧ Below W.heap.size W w' := by
  have hu := Tryz.underlying182
  have hl9 : l.length ≤ 4194304 := by have := h.len; have := h.le; omega
  have HCO : Hid (∀ {W' : World}, Bk W W' → Calls Tryz.prog 75 #[.slice A l.length c] W' fun e w' => ∃ A' c', e = .returned (.slice A' l.length c') ∧ w'.ownsRow W'.heap.size 94 1 (.slice A' l.length c') l.length (ivs .u64 (ints l)) ∧ Below W'.heap.size W' w') := fun {W'} hb => by
    have hr : Rk .u64 W' A (ints l) := (own_rk (k := .u64) h.row).1.below hb.below
    have h9 := Pm.clone_any (show Pm.Rd W' A (ints l) from hr) c (by rw [ints_length]; exact hl9) (fun e => by obtain ⟨e1, e2⟩ := hA e; rw [e1]; exact ⟨rfl, e2⟩)
    rw [ints_length] at h9
    refine h9.mono ?_
    rintro e w' ⟨v, rfl, ho, hb'⟩
    obtain ⟨A', c', rfl⟩ := own_slice ho
    exact ⟨A', c', rfl, ho, hb'⟩
  have HCL : Hid (∀ W', Bk W W' → W'.cell? ⟨b, 0, none⟩ = some (.int .i64 n) ∧ W'.cell? ⟨b, 1, none⟩ = some (.slice A l.length c) ∧ Bk W W') := fun W' hb => ⟨cell_of (blk_bl h.box hb.below) 0, cell_of (blk_bl h.box hb.below) 1, hb⟩
  have HB0 : Hid (Bk W W.drew) := ⟨bl_drew (Below.refl _ _)⟩
  have HH : Hid (l.length = (n + 63) / 64 ∧ (∀ x ∈ l, x < 18446744073709551616) ∧ n ≤ 65534) := ⟨h.len, h.lt, h.le⟩
  obtain ⟨ln, hln⟩ : ∃ ln, ln = l.length := ⟨_, rfl⟩
  have HLN := Lib.hid hln
  rw [← hln] at HCO HCL
  clear h hA hl9 hln
  go_enter Tryz.func111, Tryz.ntmps111
  go_wp2_with fail
  go_region_held3 (fun W' => W'.cell? ⟨b, 0, none⟩ = some (.int .i64 n) ∧ W'.cell? ⟨b, 1, none⟩ = some (.slice A ln c) ∧ Bk W W')
    (first | exact HCL.out _ HB0.out | exact HCL.out _ HC5.out | exact HCL.out _ ⟨bl_alloc HC5.out.below _⟩)
    (first | (go_at_call 75; refine (HCO.out HB0.out).mono ?_; rintro e w5 ⟨A5, c5, rfl, ho5, hb5⟩; (have HO5 := Lib.hid ho5); (have HC5 : Hid (Bk W w5) := ⟨bl_then HB0.out.below hb5⟩); clear ho5 hb5))
  go_wp2_with fail
  go_ret
  have hb : Below w5.heap.size w5 (w5.alloc (.cells #[.int .i64 n, .slice A5 ln c5] 182)) := bl_alloc (Below.refl _ _) _
  have hsz : W.heap.size ≤ w5.heap.size := HC5.out.below.size
  refine ⟨_, A5, c5, rfl, ⟨by rw [← HLN.out]; exact alloc_new _ _, by rw [← HLN.out]; exact own_bl HO5.out hb, hsz, fun a ha e => ?_, HH.out.1, HH.out.2.1, HH.out.2.2⟩, bl_then HC5.out.below hb⟩
  obtain ⟨cur, hc9⟩ := Bm.own_blk' (k := a.block) HO5.out (by rw [ha]; rfl)
  have := lt_of hc9
  omega
theorem cblocks_ {W : World} {B q b1 b2 n : Nat} {l1 l2 : List Nat} {g1 g2 c1 c2 : Nat} {es : List Own} {LA : Option Addr} {lc : Nat} (h : Cl W B q b1 b2 n l1 l2 g1 g2 c1 c2 es LA lc) :
    Calls Tryz.prog 54 #[.pointer (some ⟨q, 0, none⟩)] W fun e w' => ∃ b' A' c', e = .returned (.pointer (some ⟨b', 0, none⟩)) ∧ Bm w' W.heap.size b' n l1 A' c' ∧ Below W.heap.size W w' := by
  have hu := Tryz.underlying179
  have HC := Lib.hid (copy_ h.bm1 (fun e => by cases e))
  have k1 := cell_of h.blk 1
  clear h
  go_enter Tryz.func54, Tryz.ntmps54
  go_wp2_with fail
  refine HC.out.mono ?_
  rintro e w1 ⟨b', A', c', rfl, hm, hb⟩
  have HM := Lib.hid (And.intro hm hb)
  clear hm hb
  go_wp2_with fail
  go_ret
  exact ⟨_, A', c', rfl, HM.out⟩
theorem cslots_ {W : World} {B q b1 b2 n : Nat} {l1 l2 : List Nat} {g1 g2 c1 c2 : Nat} {es : List Own} {LA : Option Addr} {lc : Nat} (h : Cl W B q b1 b2 n l1 l2 g1 g2 c1 c2 es LA lc) :
    Calls Tryz.prog 62 #[.pointer (some ⟨q, 0, none⟩)] W fun e w' => ∃ b' A' c', e = .returned (.pointer (some ⟨b', 0, none⟩)) ∧ Bm w' W.heap.size b' n l2 A' c' ∧ Below W.heap.size W w' := by
  have hu := Tryz.underlying179
  have HC := Lib.hid (copy_ h.bm2 (fun e => by cases e))
  have k1 := cell_of h.blk 2
  clear h
  go_enter Tryz.func62, Tryz.ntmps62
  go_wp2_with fail
  refine HC.out.mono ?_
  rintro e w1 ⟨b', A', c', rfl, hm, hb⟩
  have HM := Lib.hid (And.intro hm hb)
  clear hm hb
  go_wp2_with fail
  go_ret
  exact ⟨_, A', c', rfl, HM.out⟩
def OR (w : World) (A : Option Addr) (l : List Own) : Prop := ∀ (i : Nat) p, l[i]? = some p → ∃ q off, A = some ⟨q, off, none⟩ ∧ q < w.heap.size ∧ w.cell? ⟨q, off + i * 5, none⟩ = some (.int .i64 p.k) ∧ w.cell? ⟨q, off + i * 5 + 1, none⟩ = some (.int .i64 p.h) ∧ w.cell? ⟨q, off + i * 5 + 2, none⟩ = some (.int .i64 p.z) ∧
  w.cell? ⟨q, off + i * 5 + 3, none⟩ = some (.slice p.sa p.L.length p.sc) ∧ w.cell? ⟨q, off + i * 5 + 4, none⟩ = some (.slice p.pa p.L.length p.pc)
theorem OR.below {w w' : World} {A : Option Addr} {l : List Own} (h : OR w A l) (hb : Below w.heap.size w w') : OR w' A l := by
  intro i p hi
  obtain ⟨q, off, rfl, h0, h1, h2, h3, h4, h5⟩ := h i p hi
  exact ⟨q, off, rfl, Nat.lt_of_lt_of_le h0 hb.size, (hb.cell (p := ⟨q, _, none⟩) h0).trans h1, (hb.cell (p := ⟨q, _, none⟩) h0).trans h2, (hb.cell (p := ⟨q, _, none⟩) h0).trans h3, (hb.cell (p := ⟨q, _, none⟩) h0).trans h4, (hb.cell (p := ⟨q, _, none⟩) h0).trans h5⟩
theorem own_or {w : World} {B T n : Nat} {A : Option Addr} {c : Nat} {l : List Own} (h : w.ownsRow B T 5 (.slice A n c) n (ovs l)) : OR w A l := by
  obtain ⟨h1, ⟨h2, h3⟩ | ⟨g, cap, cur, hv, hg, hb, hn, hm, hs, ht⟩⟩ := h
  · intro i p hi
    have hl : (ovs l).length = 0 := by simp only [Value.slice.injEq] at h2; omega
    rw [ovs_length] at hl
    have : l = [] := by cases l with | nil => rfl | cons a r => simp at hl
    subst this
    simp at hi
  · intro i p hi
    simp only [Value.slice.injEq] at hv
    obtain ⟨rfl, -, -⟩ := hv
    obtain ⟨g1, g2, g3, g4, g5⟩ := ovs_get hi
    have key : ∀ {j : Nat} {v : Value}, (ovs l)[j]? = some v → w.cell? ⟨g, 0 + j, none⟩ = some v := fun {j} {v} hj => by
      rw [cell_of hb, Nat.zero_add]
      rw [← ht, List.getElem?_take] at hj
      split at hj
      · simpa using hj
      · cases hj
    exact ⟨g, 0, rfl, lt_of hb, key g1, key g2, key g3, key g4, key g5⟩
theorem next1_ (k h z : Int) (a b : Value) (w : World) : Calls Tryz.prog 155 #[.agg #[.int .i64 k, .int .i64 h, .int .i64 z, a, b]] w fun e w' => e = .returned (.bool (k == 0)) ∧ Below w.heap.size w w' := by
  have hu := Tryz.underlying185
  have hu2 := Tryz.underlying42
  go_enter Tryz.func155, Tryz.ntmps155
  go_wp2_with fail
  go_ret
  exact ⟨rfl, bl_alloc (Below.refl _ _) _⟩
end Go.Proofs.YtgnagbbdnlmgeaaGreat.Cm
end
