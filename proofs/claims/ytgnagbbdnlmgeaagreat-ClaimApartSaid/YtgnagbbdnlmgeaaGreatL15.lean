/- Parts of the proof, one behind the other: Ca, Rt, Rx. -/
import Derived.Test.YtgnagbbdnlmgeaaGreatL13
import Derived.Test.YtgnagbbdnlmgeaaGreatL14
import Derived.Test.YtgnagbbdnlmgeaaGreatL10
set_option linter.unusedVariables false
set_option linter.unusedSimpArgs false
set_option linter.unusedSectionVars false
section
set_option maxHeartbeats 4000000
set_option maxRecDepth 100000
namespace Go.Proofs.YtgnagbbdnlmgeaaGreat.Tr
open Go Go.RowKit
open Ob Ba Oc Pk Ko Dv Vo Ra Su Lo Je
structure Rd (W w1 wr : World) (q : Nat) (A B : Option Addr) (c1 c2 d : Nat) (done : List (Int × Tri)) : Prop where
  len : done.length = d
  bl : Below W.heap.size W wr
  lt : w1.heap.size ≤ wr.heap.size
  res : wr.heap[W.heap.size]? = some (.cells #[.slice none 0 0, .slice none 0 0] 82 (0, 0))
  box : wr.heap[W.heap.size + 1]? = some (.cells #[.slice A d c1, .slice B d c2] 82 (0, 0))
  ints : wr.ownsRow w1.heap.size 3 1 (.slice A d c1) d (ivs .i64 (done.map Prod.fst))
  tris : wr.ownsRow w1.heap.size 51 3 (.slice B d c2) d (tvs (done.map Prod.snd))
theorem Rd.keep {W w1 wr w' : World} {q : Nat} {A B : Option Addr} {c1 c2 d : Nat} {done : List (Int × Tri)} (h : Rd W w1 wr q A B c1 c2 d done) (hb : Below wr.heap.size wr w') : Rd W w1 w' q A B c1 c2 d done :=
  ⟨h.len, bl_then h.bl hb, Nat.le_trans h.lt hb.size, blk_bl h.res hb, blk_bl h.box hb, own_bl h.ints hb, own_bl h.tris hb⟩
structure N7 (W w1 w7 : World) (A B : Option Addr) (c1 c2 d : Nat) (A' : Option Addr) (c1' : Nat) (s : Int) (done : List (Int × Tri)) : Prop where
  bl : Below W.heap.size W w7
  lt : w1.heap.size ≤ w7.heap.size
  res : w7.heap[W.heap.size]? = some (.cells #[.slice none 0 0, .slice none 0 0] 82 (0, 0))
  box : w7.heap[W.heap.size + 1]? = some (.cells #[.slice A d c1, .slice B d c2] 82 (0, 0))
  ints : w7.ownsRow w1.heap.size 3 1 (.slice A' (d + 1) c1') (d + 1) (ivs .i64 (done.map Prod.fst) ++ [.int .i64 s])
  tris : w7.ownsRow w1.heap.size 51 3 (.slice B d c2) d (tvs (done.map Prod.snd))
theorem N7.keep {W w1 w7 w' : World} {A B A' : Option Addr} {c1 c2 d c1' : Nat} {s : Int} {done : List (Int × Tri)} (h : N7 W w1 w7 A B c1 c2 d A' c1' s done) (hb : Below w7.heap.size w7 w') : N7 W w1 w' A B c1 c2 d A' c1' s done :=
  ⟨bl_then h.bl hb, Nat.le_trans h.lt hb.size, blk_bl h.res hb, blk_bl h.box hb, own_bl h.ints hb, own_bl h.tris hb⟩
theorem midA {W w1 Wp w7 : World} {A B A' : Option Addr} {c1 c2 d c1' : Nat} {s : Int} {done : List (Int × Tri)} (h : Rd W w1 Wp 0 A B c1 c2 d done) (hz : W.heap.size + 2 ≤ w1.heap.size)
    (ho : w7.ownsRow w1.heap.size 3 1 (.slice A' (d + 1) c1') (d + 1) (ivs .i64 (done.map Prod.fst) ++ [.int .i64 s])) (hg : Wp.grownBy w7 (Value.slice A d c1).ownBlock) :
    N7 W w1 w7 A B c1 c2 d A' c1' s done ∧ ∀ {k : Nat} {cur : Array Value} {T' : Nat} {fr : Nat × Nat}, Wp.heap[k]? = some (.cells cur T' fr) → 3 ≠ T' → w7.heap[k]? = some (.cells cur T' fr) := by
  have hlo := own_lo h.ints
  have hall : ∀ {k : Nat} {cur : Array Value} {T' : Nat} {fr : Nat × Nat}, Wp.heap[k]? = some (.cells cur T' fr) → 3 ≠ T' → w7.heap[k]? = some (.cells cur T' fr) := fun hk hT => grown_blk hg hk (ne_type h.ints hk hT)
  refine ⟨⟨bl_grown h.bl hg (fun k hk => by have := hlo k hk; omega), Nat.le_trans h.lt hg.size, hall h.res (by decide), hall h.box (by decide), ho, ?_⟩, hall⟩
  exact own_grown hg h.tris (fun k hk => by
    obtain ⟨cur, hc⟩ := Bm.own_blk' h.tris hk
    exact ne_type h.ints hc (by decide))
theorem finB {W w1 W8 w9 : World} {A B A' B' : Option Addr} {c1 c2 d c1' c2' : Nat} {s a b c : Int} {done : List (Int × Tri)} (h : N7 W w1 W8 A B c1 c2 d A' c1' s done) (hl : done.length = d) (hz : W.heap.size + 2 ≤ w1.heap.size)
    (ho : w9.ownsRow w1.heap.size 51 3 (.slice B' (d + 1) c2') (d + 1) (tvs (done.map Prod.snd) ++ [.int .i64 a, .int .i64 b, .int .i64 c])) (hg : W8.grownBy w9 (Value.slice B d c2).ownBlock) :
    w9.heap[W.heap.size + 1]? = some (.cells #[.slice A d c1, .slice B d c2] 82 (0, 0)) ∧
    Rd W w1 ((w9.setCell ⟨W.heap.size + 1, 0, none⟩ (.slice A' (d + 1) c1')).setCell ⟨W.heap.size + 1, 1, none⟩ (.slice B' (d + 1) c2')) 0 A' B' c1' c2' (d + 1) (done ++ [(s, a, b, c)]) := by
  have hlo := own_lo h.tris
  have hb9 := grown_blk hg h.box (ne_type h.tris h.box (by decide))
  have hr9 := grown_blk hg h.res (ne_type h.tris h.res (by decide))
  have hi9 := own_grown hg h.ints (fun k hk => by
    obtain ⟨cur, hc⟩ := Bm.own_blk' h.ints hk
    exact ne_type h.tris hc (by decide))
  refine ⟨hb9, by simp [hl], bl_set (bl_set (bl_grown h.bl hg (fun k hk => by have := hlo k hk; omega)) (by omega) _) (by omega) _, by have := h.lt; have := hg.size; simp; omega, set_blk (set_blk hr9 (by omega)) (by omega), Rr.put2 hb9 _ _, ?_, ?_⟩
  · rw [List.map_append, ivs_append]
    exact own_sets hi9 (by omega) _ _
  · rw [List.map_append, tvs_append]
    exact own_sets ho (by omega) _ _
structure Lt (q : Nat) (W : World) : Prop where
  lt : q < W.heap.size
theorem t9_set {w : World} {q k o : Nat} {x y z : Option Value} (hne : k ≠ q) (v : Value) (h : w.cell? ⟨q, 0, none⟩ = x ∧ w.cell? ⟨q, 1, none⟩ = y ∧ w.cell? ⟨q, 2, none⟩ = z ∧ Lt q w) :
    (w.setCell ⟨k, o, none⟩ v).cell? ⟨q, 0, none⟩ = x ∧ (w.setCell ⟨k, o, none⟩ v).cell? ⟨q, 1, none⟩ = y ∧ (w.setCell ⟨k, o, none⟩ v).cell? ⟨q, 2, none⟩ = z ∧ Lt q (w.setCell ⟨k, o, none⟩ v) := by
  obtain ⟨h0, h1, h2, ⟨h3⟩⟩ := h
  have hb : (w.setCell ⟨k, o, none⟩ v).heap[q]? = w.heap[q]? := Below.heap_setCell w _ _ q (fun e => hne e.symm)
  exact ⟨(cell_blk hb 0).trans h0, (cell_blk hb 1).trans h1, (cell_blk hb 2).trans h2, ⟨by simpa using h3⟩⟩
theorem t9_blk {w : World} {q T : Nat} {x y z : Value} {fr : Nat × Nat} (h : w.heap[q]? = some (.cells #[x, y, z] T fr)) : w.cell? ⟨q, 0, none⟩ = some x ∧ w.cell? ⟨q, 1, none⟩ = some y ∧ w.cell? ⟨q, 2, none⟩ = some z ∧ Lt q w :=
  ⟨cell_of h 0, cell_of h 1, cell_of h 2, ⟨lt_of h⟩⟩
theorem field0 (x y z : Value) (w : World) : (Instr.field 34 (.agg #[x, y, z]) 0).run Tryz.prog w = .ok x w := by
  rfl
theorem read_ {W : World} {v b n m s : Nat} {dv : Dev} {g : Lay} {ws : List Nat} (hv : VolIs W v b n m s dv g) (hwd : Pm.wordsOf dv = Oc.ints ws) (hlt : ∀ x ∈ ws, x < 18446744073709551616) (hfit : 16 + 8 * m + n ≤ ws.length) (hn : n ≤ 65534) (head : Int) :
    Calls Tryz.prog 34 #[.pointer (some ⟨v, 0, none⟩), .int .i64 head] W fun o w' =>
      (∀ L, chainF n (slF ws n m) n head = some L → ∃ A c B d, o = .returned (.tuple #[.agg #[.slice A L.length c, .slice B L.length d], .int .i64 0]) ∧ w'.ownsRow W.heap.size 3 1 (.slice A L.length c) L.length (ivs .i64 (L.map Prod.fst)) ∧ w'.ownsRow W.heap.size 51 3 (.slice B L.length d) L.length (tvs (L.map Prod.snd))) ∧
      (chainF n (slF ws n m) n head = none → o = .returned (.tuple #[.agg #[.slice none 0 0, .slice none 0 0], .int .i64 2])) ∧ Below W.heap.size W w' := by
  have hu := Tryz.underlying82
  have hu2 := Tryz.underlying51
  have hu3 := Tryz.underlying34
  obtain ⟨z1, hi1, hz10, hz11, hz12⟩ := info_parts (show (Tryz.prog.info? 3).map (fun i => (i.zero, i.size, i.bytes)) = some (some (.int .i64 0), 1, 8) by kernel_rfl)
  obtain ⟨z3, hi3, hz30, hz31, hz32⟩ := info_parts (show (Tryz.prog.info? 51).map (fun i => (i.zero, i.size, i.bytes)) = some (some (.agg #[.int .i64 0, .int .i64 0, .int .i64 0]), 3, 24) by kernel_rfl)
  have HG : Hid (∀ {W' : World}, Below W.heap.size W W' → _) := fun {W'} hb => Jh.geom_ (hv.below hb)
  have HS : Hid (∀ {W' : World} (i : Int), Below W.heap.size W W' → _) := fun {W'} i hb => slot_callD (hv.below hb) hwd hlt hfit i
  have HMAY : Hid (∀ i t, slF ws n m i = some t → sMay t.1 t.2.1 t.2.2 = true ∧ 0 ≤ i ∧ i < n) := fun i t h => slF_may h
  generalize slF ws n m = sl at *
  obtain ⟨R, hR⟩ : ∃ R, R = chainF n sl n head := ⟨_, rfl⟩
  have HR := Lib.hid hR
  rw [← hR]
  clear hv hwd hlt hfit hR
  go_enter Tryz.func34, Tryz.ntmps34
  go_wp2_with fail
  refine (HG.out (bl_alloc (bl_alloc (Below.refl _ _) _) _)).mono ?_
  rintro e w1 ⟨rfl, hb1⟩
  have HB1 := Lib.hid (bl_then (bl_alloc (bl_alloc (Below.refl _ _) (.cells #[.slice none 0 0, .slice none 0 0] 82)) (.cells #[.slice none 0 0, .slice none 0 0] 82)) hb1)
  have HQ4 := Lib.hid (blk_bl (alloc_old (alloc_new W (.cells #[.slice none 0 0, .slice none 0 0] 82)) (.cells #[.slice none 0 0, .slice none 0 0] 82)) hb1)
  have HQ6 := Lib.hid (blk_bl (two_new W (.cells #[.slice none 0 0, .slice none 0 0] 82) (.cells #[.slice none 0 0, .slice none 0 0] 82)) hb1)
  have hsz1 : W.heap.size + 2 ≤ w1.heap.size := by have := hb1.size; rw [World.size_alloc, World.size_alloc] at this; omega
  have HZ1 := Lib.hid hsz1
  have hfld := field0 (.int .i64 n) (.int .i64 m) (.int .i64 s) w1
  clear hb1 hsz1
  go_wp2_with fail
  clear hfld
  go_loopw [8] (fun c8 wr => ∃ (s : Int) (d : Nat) (A B : Option Addr) (c1 c2 : Nat), c8 = .int .i64 s ∧ d ≤ n ∧ Hid (∃ done, R = (chainF n sl (n - d) s).map (done ++ ·) ∧ Rd W w1 wr 0 A B c1 c2 d done)) (fun c8 wr => n + 1 - lenAt wr (W.heap.size + 1))
  case atStart => exact ⟨head, 0, none, none, 0, 0, rfl, Nat.zero_le _, [], by rw [HR.out]; cases chainF n sl (n - 0) head <;> rfl, rfl, HB1.out, Nat.le_refl _, HQ4.out, HQ6.out, own_nil0 _ _ _ _, own_nil0 _ _ _ _⟩
  case round =>
    obtain ⟨s, d, A, B, c1, c2, rfl, hd, HI⟩ := hrel
    by_cases hs : s = -1
    · subst hs
      obtain ⟨done, h1, h2⟩ := HI.out
      rw [chainF_stop] at h1
      have HD := Lib.hid (And.intro h1 h2)
      have hbx := h2.box
      have hrs := h2.res
      have l0 := cell_of hbx 0
      have l1 := cell_of hbx 1
      have m0 := cell_of hrs 0
      have m1 := cell_of hrs 1
      have f0 := free_of hrs 0
      have f1 := free_of hrs 1
      clear h1 h2 hbx hrs HI
      go_wp2_with fail
      refine bodyPost_ret (res_ct (u := 5) rfl _ _ W.heap.size 82 #[.slice A d c1, .slice B d c2] (0, 0) _ rfl (Rr.put2 HD.out.2.res _ _) hu rfl (by kernel_rfl)) rfl ⟨fun L hL => ?_, fun hn => ?_, bl_set (bl_set HD.out.2.bl (Nat.le_refl _) _) (Nat.le_refl _) _⟩
      · obtain ⟨h1, h2⟩ := HD.out
        have e9 : L = done := by
          rw [hL] at h1
          simpa using h1
        subst e9
        rw [h2.len]
        refine ⟨A, c1, B, c2, rfl, ?_, ?_⟩
        · exact own_base (own_sets h2.ints (by have := HZ1.out; omega) _ _) (by have := HZ1.out; omega)
        · exact own_base (own_sets h2.tris (by have := HZ1.out; omega) _ _) (by have := HZ1.out; omega)
      · obtain ⟨h1, -⟩ := HD.out
        rw [hn] at h1
        cases h1
    · have HSC := Lib.hid (HS.out (W' := wr) s (by obtain ⟨done, -, h⟩ := HI.out; exact h.bl))
      go_wp2_with fail
      refine HSC.out.mono ?_
      rintro e w2 ⟨er, rfl, he, hb2⟩
      have hsn : (s != -1) = true := bne_iff_ne.2 hs
      obtain ⟨done, r1, r2⟩ := HI.out
      have r3 := r2.keep hb2
      cases ht : sl s with
      | none =>
        rw [ht] at he
        have he : (er != 0) = true := he
        have hRn : R = none := by rw [r1, chainF_bad hs (.inl ht)]; rfl
        have HF := Lib.hid (And.intro hRn r3)
        have hrs := r3.res
        have m0 := cell_of hrs 0
        have m1 := cell_of hrs 1
        have f0 := free_of hrs 0
        have f1 := free_of hrs 1
        have hlt := lt_of hrs
        rw [show slV none = (0, 0, 0) from rfl]
        clear hrs r1 r2 r3 HI hb2 hRn ht
        go_wp2_with fail
        exact bodyPost_ret (res_ct (u := 5) rfl _ _ W.heap.size 82 #[.slice none 0 0, .slice none 0 0] (0, 0) _ rfl (alloc_old (Rr.put2 HF.out.2.res _ _) _) hu rfl (by kernel_rfl)) rfl ⟨fun L hL => (by rw [HF.out.1] at hL; cases hL), fun _ => rfl, bl_alloc (bl_set (bl_set HF.out.2.bl (Nat.le_refl _) _) (Nat.le_refl _) _) _⟩
      | some t =>
        rw [ht] at he
        have he : (er != 0) = false := he
        have her : er = 0 := by simpa using he
        subst her
        obtain ⟨a, b, c⟩ := t
        rw [show slV (some (a, b, c)) = (a, b, c) from rfl]
        have hmay := (HMAY.out s _ ht).1
        have HEN := Lib.hid (fun w => end_ a b c hmay w)
        have hmm := of_decide_eq_true hmay
        obtain ⟨y1, y2, y3, y4, y5, y6⟩ := hmm
        clear hb2 he hmay
        go_wp2_with fail
        refine (HEN.out _).mono ?_
        rintro e w3 ⟨rfl, hb3⟩
        have r4 := (r3.keep (bl_alloc (Below.refl _ _) (.cells #[.int .i64 a, .int .i64 b, .int .i64 c] 51))).keep hb3
        have hq9 := blk_bl (alloc_new w2 (.cells #[.int .i64 a, .int .i64 b, .int .i64 c] 51)) hb3
        have hrs := r4.res
        have hbx := r4.box
        have m0 := cell_of hrs 0
        have m1 := cell_of hrs 1
        have f0 := free_of hrs 0
        have f1 := free_of hrs 1
        have l0 := cell_of hbx 0
        have l1 := cell_of hbx 1
        have g0 := free_of hbx 0
        have g1 := free_of hbx 1
        have k0 := cell_of hq9 0
        have k1 := cell_of hq9 1
        have k2 := cell_of hq9 2
        by_cases hab : (n : Int) < a + b
        · have hRn : R = none := by rw [r1, chainF_bad hs (.inr (.inl ⟨_, ht, hab⟩))]; rfl
          have HF := Lib.hid (And.intro hRn r4)
          clear hrs hbx hq9 r1 r2 r3 r4 HI hb3 hRn ht
          go_wp2_with fail
          exact bodyPost_ret (res_ct (u := 5) rfl _ _ W.heap.size 82 #[.slice none 0 0, .slice none 0 0] (0, 0) _ rfl (Rr.put2 HF.out.2.res _ _) hu rfl (by kernel_rfl)) rfl ⟨fun L hL => (by rw [HF.out.1] at hL; cases hL), fun _ => rfl, bl_set (bl_set HF.out.2.bl (Nat.le_refl _) _) (Nat.le_refl _) _⟩
        · by_cases hdn : d = n
          · subst hdn
            have hRn : R = none := by rw [r1, chainF_bad hs (.inr (.inr (Nat.sub_self _)))]; rfl
            have HF := Lib.hid (And.intro hRn r4)
            clear hrs hbx hq9 r1 r2 r3 r4 HI hb3 hRn ht
            go_wp2_with fail
            exact bodyPost_ret (res_ct (u := 5) rfl _ _ W.heap.size 82 #[.slice none 0 0, .slice none 0 0] (0, 0) _ rfl (Rr.put2 HF.out.2.res _ _) hu rfl (by kernel_rfl)) rfl ⟨fun L hL => (by rw [HF.out.1] at hL; cases hL), fun _ => rfl, bl_set (bl_set HF.out.2.bl (Nat.le_refl _) _) (Nat.le_refl _) _⟩
          · have hdn2 : ((d : Int) == (n : Int)) = false := by rw [beq_eq_false_iff_ne]; omega
            have hdn3 : d < n := by omega
            have HRN : Hid (R = (chainF n sl (n - (d + 1)) c).map ((done ++ [(s, a, b, c)]) ++ ·)) := by
              show _ = _
              obtain ⟨k, hk⟩ : ∃ k, n - d = k + 1 := ⟨n - d - 1, by omega⟩
              rw [r1, hk, chainF_step hs ht hab, show n - (d + 1) = k from by omega]
              cases chainF n sl k c <;> simp
            have HR4 := Lib.hid r4
            have HQ9 := Lib.hid hq9
            have HLEN : Hid (done.length = d) := r4.len
            have HBQ : Hid (∀ k, (Value.slice B d c2).ownBlock = some k → k ≠ w2.heap.size) := fun k hk => by
              obtain ⟨cur, hc⟩ := Bm.own_blk' r3.tris hk
              exact Nat.ne_of_lt (lt_of hc)
            have HLW : Hid (wr.cell? ⟨W.heap.size + 1, 0, none⟩ = some (.slice A d c1)) := cell_of r2.box 0
            have HNEQ : Hid (W.heap.size + 1 ≠ w2.heap.size) := Nat.ne_of_lt (lt_of r3.box)
            have HS0 : Hid (w3.drew.cell? ⟨w2.heap.size, 0, none⟩ = some (.int .i64 a) ∧ w3.drew.cell? ⟨w2.heap.size, 1, none⟩ = some (.int .i64 b) ∧ w3.drew.cell? ⟨w2.heap.size, 2, none⟩ = some (.int .i64 c) ∧ Lt w2.heap.size w3.drew) := t9_blk (w := w3.drew) hq9
            have ltb := lt_of hbx
            clear hrs hbx hq9 r1 r2 r3 r4 HI hb3 ht m0 m1 f0 f1
            go_wp2_with fail
            refine Wc.region_till (S0 := fun w' => w'.cell? ⟨w2.heap.size, 0, none⟩ = some (.int .i64 a) ∧ w'.cell? ⟨w2.heap.size, 1, none⟩ = some (.int .i64 b) ∧ w'.cell? ⟨w2.heap.size, 2, none⟩ = some (.int .i64 c) ∧ Lt w2.heap.size w') (S1 := fun w' => w'.cell? ⟨W.heap.size + 1, 0, none⟩ = some (.slice A d c1) ∧ w'.cell? ⟨W.heap.size + 1, 1, none⟩ = some (.slice B d c2)) (E := fun j => [1, 3, 4, 6, 8, 9].contains j) (by kernel_rfl) ?_
            change Wc.Till _ _ _ _ _ _ _ _ _ _ w3.drew
            refine Wc.till_take0 (i := 0) rfl rfl (by kernel_rfl) (by kernel_rfl) (by kernel_rfl) (fun _ _ _ h => h) (.inl ⟨rfl, fun w' _ => rfl⟩) HS0.out ?_
            refine Wc.till_take0 (i := 2) rfl rfl (by kernel_rfl) (by kernel_rfl) (by kernel_rfl) (fun _ _ _ h => h) (.inl ⟨rfl, fun w' _ => rfl⟩) HS0.out ?_
            refine Wc.till_take0 (i := 5) rfl rfl (by kernel_rfl) (by kernel_rfl) (by kernel_rfl) (fun _ _ _ h => h) (.inl ⟨rfl, fun w' _ => rfl⟩) HS0.out ?_
            have HS1 : Hid (w3.drew.cell? ⟨W.heap.size + 1, 0, none⟩ = some (.slice A d c1) ∧ w3.drew.cell? ⟨W.heap.size + 1, 1, none⟩ = some (.slice B d c2)) := ⟨l0, l1⟩
            refine Wc.till_take0 (i := 7) (v := .agg #[.int .i64 a, .int .i64 b, .int .i64 c]) rfl rfl (by kernel_rfl) (by kernel_rfl) (by kernel_rfl) (fun _ _ _ h => h) (.inl ⟨rfl, fun w' h => by obtain ⟨e0, e1, e2, -⟩ := h; go_simp⟩) HS0.out ?_
            refine Wc.till_take (i := 1) (v := .slice A d c1) rfl (by kernel_rfl) (by kernel_rfl) (by kernel_rfl) (by kernel_rfl) (fun _ _ _ h => h) (.inl ⟨rfl, fun w' h => by obtain ⟨-, e1, e2⟩ := h; go_simp⟩) HS0.out HS1.out ?_
            refine Wc.till_take (i := 6) (v := .slice B d c2) rfl (by kernel_rfl) (by kernel_rfl) (by kernel_rfl) (by kernel_rfl) (fun _ _ _ h => h) (.inl ⟨rfl, fun w' h => by obtain ⟨-, e1, e2⟩ := h; go_simp⟩) HS0.out HS1.out ?_
            refine Wc.till_all (rs := [3, 8]) (by kernel_rfl) (by simp) ?_
            intro i hi
            simp only [List.mem_cons, List.not_mem_nil, or_false] at hi
            have HR5 : Hid (Rd W w1 w3.drew 0 A B c1 c2 d done) := HR4.out.keep (bl_drew (Below.refl _ _))
            have HQ5 : Hid (w3.drew.heap[w2.heap.size]? = some (.cells #[.int .i64 a, .int .i64 b, .int .i64 c] 51 (0, 0))) := HQ9.out
            generalize w3.drew = X0 at *
            rcases hi with rfl | rfl
            · refine wpOp_step rfl (fun K' hK => ?_)
              rw [if_pos (show Region.wanted _ _ = true from rfl)]
              go_simp
              have HR6 := Lib.hid (HR5.out.keep (bl_alloc (Below.refl _ _) (.cells #[.int .i64 s] 3)))
              have HQ6 := Lib.hid (alloc_old HQ5.out (.cells #[.int .i64 s] 3))
              have HP6 := Lib.hid (alloc_new X0 (.cells #[.int .i64 s] 3))
              refine hK _ _ ⟨⟨t9_blk HQ6.out, fun _ => ⟨cell_of HR6.out.box 0, cell_of HR6.out.box 1⟩⟩, ?_⟩
              refine Wc.till_all (rs := [4, 8]) (by kernel_rfl) (by simp) ?_
              intro i hi
              simp only [List.mem_cons, List.not_mem_nil, or_false] at hi
              rcases hi with rfl | rfl
              · refine wpOp_step rfl (fun K' hK => ?_)
                refine step_append_lies _ (by rfl) _ _ _ (by rfl) w1.heap.size 3 z1 (.int .i64 0) 1 8 Tryz.underlying79 hi1 hz10 hz11 hz12 rfl (by decide) (.slice A d c1) d (ivs .i64 (done.map Prod.fst)) (by rfl) HR6.out.ints ⟨X0.heap.size, 0, none⟩ 1 1 [.int .i64 s] (by rfl) (by rfl) (World.news_of_block (cs := #[.int .i64 s]) (t := 3) (fr := (0, 0)) HP6.out) (by simp [Value.oneCell']) (by decide) (by unfold maxLen; omega) (by omega) HR6.out.lt _ rfl ?_
                intro p1 cap1 w7 hown7 hgrow7 _ _
                obtain ⟨hm7, hk7⟩ := midA HR6.out HZ1.out hown7 hgrow7
                have HN7 := Lib.hid hm7
                have HQ7 := Lib.hid (hk7 HQ6.out (by decide))
                clear hm7 hk7 hown7 hgrow7
                refine hK _ _ ⟨⟨t9_blk HQ7.out, fun _ => ⟨cell_of HN7.out.box 0, cell_of HN7.out.box 1⟩⟩, ?_⟩
                refine Wc.till_take0 (i := 10) rfl rfl (by kernel_rfl) (by kernel_rfl) (by kernel_rfl) (fun _ _ _ h => h) (.inl ⟨rfl, fun w' _ => rfl⟩) (t9_blk HQ7.out) ?_
                refine Wc.till_all (rs := [8]) (by kernel_rfl) (by simp) ?_
                intro i hi
                simp only [List.mem_cons, List.not_mem_nil, or_false] at hi
                subst hi
                refine wpOp_step rfl (fun K' hK => ?_)
                rw [if_pos (show Region.wanted _ _ = true from rfl)]
                go_simp
                have HN8 := Lib.hid (HN7.out.keep (bl_alloc (Below.refl _ _) (.cells #[.int .i64 a, .int .i64 b, .int .i64 c] 51)))
                have HQ8 := Lib.hid (alloc_old HQ7.out (.cells #[.int .i64 a, .int .i64 b, .int .i64 c] 51))
                have HP8 := Lib.hid (alloc_new w7 (.cells #[.int .i64 a, .int .i64 b, .int .i64 c] 51))
                refine hK _ _ ⟨⟨t9_blk HQ8.out, fun _ => ⟨cell_of HN8.out.box 0, cell_of HN8.out.box 1⟩⟩, ?_⟩
                clear HN7 HQ7 HR6 HQ6 HP6
                generalize w7.alloc (.cells #[.int .i64 a, .int .i64 b, .int .i64 c] 51) = w8 at *
                generalize w7.heap.size = p8 at *
                refine Wc.till_all (rs := [9]) (by kernel_rfl) (by simp) ?_
                intro i hi
                simp only [List.mem_cons, List.not_mem_nil, or_false] at hi
                subst hi
                refine wpOp_step rfl (fun K' hK => ?_)
                refine step_append_lies _ (by rfl) _ _ _ (by rfl) w1.heap.size 51 z3 (.agg #[.int .i64 0, .int .i64 0, .int .i64 0]) 3 24 Tryz.underlying80 hi3 hz30 hz31 hz32 rfl (by decide) (.slice B d c2) d (tvs (done.map Prod.snd)) (by rfl) HN8.out.tris ⟨p8, 0, none⟩ 1 1 [.int .i64 a, .int .i64 b, .int .i64 c] (by rfl) (by rfl) (World.news_of_block (cs := #[.int .i64 a, .int .i64 b, .int .i64 c]) (t := 51) (fr := (0, 0)) HP8.out) (by simp [Value.oneCell']) (by decide) (by unfold maxLen; omega) (by omega) HN8.out.lt _ rfl ?_
                intro p2 cap2 w9 hown9 hgrow9 _ _
                have hf9 := finB HN8.out HLEN.out HZ1.out hown9 hgrow9
                have HF9 := Lib.hid hf9.2
                have HQ9b := Lib.hid (grown_blk hgrow9 HQ8.out (fun e => HBQ.out _ e rfl))
                have j0 := cell_of hf9.1 0
                have j1 := cell_of hf9.1 1
                have s0 := free_of hf9.1 0
                have s1 := free_of hf9.1 1
                clear hf9 hown9 hgrow9
                refine hK _ _ ⟨⟨t9_blk HQ9b.out, fun _ => ⟨j0, j1⟩⟩, ?_⟩
                refine Wc.till_all (rs := [11]) (by kernel_rfl) (by simp) ?_
                intro i hi
                simp only [List.mem_cons, List.not_mem_nil, or_false] at hi
                subst hi
                refine wpOp_step rfl (fun K' hK => ?_)
                rw [if_pos (show Region.wanted _ _ = true from rfl)]
                go_simp
                have HT0 := Lib.hid (t9_set (v := .slice (some ⟨p1, 0, none⟩) (d + 1) cap1) (o := 0) HNEQ.out (t9_blk HQ9b.out))
                refine hK _ _ ⟨⟨HT0.out, fun h => (by cases h)⟩, ?_⟩
                refine Wc.till_take0 (i := 12) rfl rfl (by kernel_rfl) (by kernel_rfl) (by kernel_rfl) (fun _ _ _ h => h) (.inl ⟨rfl, fun w' _ => rfl⟩) HT0.out ?_
                refine Wc.till_all (rs := [13]) (by kernel_rfl) (by simp) ?_
                intro i hi
                simp only [List.mem_cons, List.not_mem_nil, or_false] at hi
                subst hi
                refine wpOp_step rfl (fun K' hK => ?_)
                rw [if_pos (show Region.wanted _ _ = true from rfl)]
                go_simp
                have HT1 := Lib.hid (t9_set (v := .slice (some ⟨p2, 0, none⟩) (d + 1) cap2) (o := 1) HNEQ.out HT0.out)
                refine hK _ _ ⟨⟨HT1.out, fun h => (by cases h)⟩, ?_⟩
                refine Wc.till_done (by kernel_rfl) ?_ _
                obtain ⟨i0, i1, i2, -⟩ := HT1.out
                have HLN : Hid (lenAt wr (W.heap.size + 1) = d ∧ lenAt ((w9.setCell ⟨W.heap.size + 1, 0, none⟩ (.slice (some ⟨p1, 0, none⟩) (d + 1) cap1)).setCell ⟨W.heap.size + 1, 1, none⟩ (.slice (some ⟨p2, 0, none⟩) (d + 1) cap2)) (W.heap.size + 1) = d + 1) := ⟨lenAt_is HLW.out, lenAt_is (cell_of HF9.out.box 0)⟩
                clear j0 j1 s0 s1
                go_wp2_with fail
                go_roundw
                case rel => exact ⟨c, d + 1, _, _, cap1, cap2, rfl, hdn3, done ++ [(s, a, b, c)], HRN.out, HF9.out⟩
                case measure =>
                  obtain ⟨q1, q2⟩ := HLN.out
                  have q2 : lenAt ((w9.setCell ⟨W.heap.size + 1, 0, none⟩ (.slice (some ⟨p1, 0, none⟩) (d + 1) cap1)).setCell ⟨W.heap.size + 1, 1, none⟩ (.slice (some ⟨p2, 0, none⟩) (d + 1) cap2)) (W.heap.size + 1) = d + 1 := q2
                  rw [q1, q2]
                  omega
              · refine wpOp_step rfl (fun K' hK => ?_)
                rw [if_pos (show Region.wanted _ _ = true from rfl)]
                go_simp
                have HR7 := Lib.hid (HR6.out.keep (bl_alloc (Below.refl _ _) (.cells #[.int .i64 a, .int .i64 b, .int .i64 c] 51)))
                have HQ7 := Lib.hid (alloc_old HQ6.out (.cells #[.int .i64 a, .int .i64 b, .int .i64 c] 51))
                have HP7 := Lib.hid (two_new X0 (.cells #[.int .i64 s] 3) (.cells #[.int .i64 a, .int .i64 b, .int .i64 c] 51))
                refine hK _ _ ⟨⟨t9_blk HQ7.out, fun _ => ⟨cell_of HR7.out.box 0, cell_of HR7.out.box 1⟩⟩, ?_⟩
                have HP6b := Lib.hid (alloc_old HP6.out (.cells #[.int .i64 a, .int .i64 b, .int .i64 c] 51))
                refine Wc.till_all (rs := [4]) (by kernel_rfl) (by simp) ?_
                intro i hi
                simp only [List.mem_cons, List.not_mem_nil, or_false] at hi
                subst hi
                refine wpOp_step rfl (fun K' hK => ?_)
                refine step_append_lies _ (by rfl) _ _ _ (by rfl) w1.heap.size 3 z1 (.int .i64 0) 1 8 Tryz.underlying79 hi1 hz10 hz11 hz12 rfl (by decide) (.slice A d c1) d (ivs .i64 (done.map Prod.fst)) (by rfl) HR7.out.ints ⟨X0.heap.size, 0, none⟩ 1 1 [.int .i64 s] (by rfl) (by rfl) (World.news_of_block (cs := #[.int .i64 s]) (t := 3) (fr := (0, 0)) HP6b.out) (by simp [Value.oneCell']) (by decide) (by unfold maxLen; omega) (by omega) HR7.out.lt _ rfl ?_
                intro p1 cap1 w7 hown7 hgrow7 _ _
                obtain ⟨hm7, hk7⟩ := midA HR7.out HZ1.out hown7 hgrow7
                have HN8 := Lib.hid hm7
                have HQ8 := Lib.hid (hk7 HQ7.out (by decide))
                have HP8 := Lib.hid (hk7 HP7.out (by decide))
                clear hm7 hk7 hown7 hgrow7
                refine hK _ _ ⟨⟨t9_blk HQ8.out, fun _ => ⟨cell_of HN8.out.box 0, cell_of HN8.out.box 1⟩⟩, ?_⟩
                clear HR6 HQ6 HP6 HR7 HQ7 HP6b HP7
                refine Wc.till_take0 (i := 10) rfl rfl (by kernel_rfl) (by kernel_rfl) (by kernel_rfl) (fun _ _ _ h => h) (.inl ⟨rfl, fun w' _ => rfl⟩) (t9_blk HQ8.out) ?_
                refine Wc.till_all (rs := [9]) (by kernel_rfl) (by simp) ?_
                intro i hi
                simp only [List.mem_cons, List.not_mem_nil, or_false] at hi
                subst hi
                refine wpOp_step rfl (fun K' hK => ?_)
                refine step_append_lies _ (by rfl) _ _ _ (by rfl) w1.heap.size 51 z3 (.agg #[.int .i64 0, .int .i64 0, .int .i64 0]) 3 24 Tryz.underlying80 hi3 hz30 hz31 hz32 rfl (by decide) (.slice B d c2) d (tvs (done.map Prod.snd)) (by rfl) HN8.out.tris ⟨X0.heap.size + 1, 0, none⟩ 1 1 [.int .i64 a, .int .i64 b, .int .i64 c] (by rfl) (by rfl) (World.news_of_block (cs := #[.int .i64 a, .int .i64 b, .int .i64 c]) (t := 51) (fr := (0, 0)) HP8.out) (by simp [Value.oneCell']) (by decide) (by unfold maxLen; omega) (by omega) HN8.out.lt _ rfl ?_
                intro p2 cap2 w9 hown9 hgrow9 _ _
                have hf9 := finB HN8.out HLEN.out HZ1.out hown9 hgrow9
                have HF9 := Lib.hid hf9.2
                have HQ9b := Lib.hid (grown_blk hgrow9 HQ8.out (fun e => HBQ.out _ e rfl))
                have j0 := cell_of hf9.1 0
                have j1 := cell_of hf9.1 1
                have s0 := free_of hf9.1 0
                have s1 := free_of hf9.1 1
                clear hf9 hown9 hgrow9
                refine hK _ _ ⟨⟨t9_blk HQ9b.out, fun _ => ⟨j0, j1⟩⟩, ?_⟩
                refine Wc.till_all (rs := [11]) (by kernel_rfl) (by simp) ?_
                intro i hi
                simp only [List.mem_cons, List.not_mem_nil, or_false] at hi
                subst hi
                refine wpOp_step rfl (fun K' hK => ?_)
                rw [if_pos (show Region.wanted _ _ = true from rfl)]
                go_simp
                have HT0 := Lib.hid (t9_set (v := .slice (some ⟨p1, 0, none⟩) (d + 1) cap1) (o := 0) HNEQ.out (t9_blk HQ9b.out))
                refine hK _ _ ⟨⟨HT0.out, fun h => (by cases h)⟩, ?_⟩
                refine Wc.till_take0 (i := 12) rfl rfl (by kernel_rfl) (by kernel_rfl) (by kernel_rfl) (fun _ _ _ h => h) (.inl ⟨rfl, fun w' _ => rfl⟩) HT0.out ?_
                refine Wc.till_all (rs := [13]) (by kernel_rfl) (by simp) ?_
                intro i hi
                simp only [List.mem_cons, List.not_mem_nil, or_false] at hi
                subst hi
                refine wpOp_step rfl (fun K' hK => ?_)
                rw [if_pos (show Region.wanted _ _ = true from rfl)]
                go_simp
                have HT1 := Lib.hid (t9_set (v := .slice (some ⟨p2, 0, none⟩) (d + 1) cap2) (o := 1) HNEQ.out HT0.out)
                refine hK _ _ ⟨⟨HT1.out, fun h => (by cases h)⟩, ?_⟩
                refine Wc.till_done (by kernel_rfl) ?_ _
                obtain ⟨i0, i1, i2, -⟩ := HT1.out
                have HLN : Hid (lenAt wr (W.heap.size + 1) = d ∧ lenAt ((w9.setCell ⟨W.heap.size + 1, 0, none⟩ (.slice (some ⟨p1, 0, none⟩) (d + 1) cap1)).setCell ⟨W.heap.size + 1, 1, none⟩ (.slice (some ⟨p2, 0, none⟩) (d + 1) cap2)) (W.heap.size + 1) = d + 1) := ⟨lenAt_is HLW.out, lenAt_is (cell_of HF9.out.box 0)⟩
                clear j0 j1 s0 s1
                go_wp2_with fail
                go_roundw
                case rel => exact ⟨c, d + 1, _, _, cap1, cap2, rfl, hdn3, done ++ [(s, a, b, c)], HRN.out, HF9.out⟩
                case measure =>
                  obtain ⟨q1, q2⟩ := HLN.out
                  have q2 : lenAt ((w9.setCell ⟨W.heap.size + 1, 0, none⟩ (.slice (some ⟨p1, 0, none⟩) (d + 1) cap1)).setCell ⟨W.heap.size + 1, 1, none⟩ (.slice (some ⟨p2, 0, none⟩) (d + 1) cap2)) (W.heap.size + 1) = d + 1 := q2
                  rw [q1, q2]
                  omega
            · refine wpOp_step rfl (fun K' hK => ?_)
              rw [if_pos (show Region.wanted _ _ = true from rfl)]
              go_simp
              have HR6 := Lib.hid (HR5.out.keep (bl_alloc (Below.refl _ _) (.cells #[.int .i64 a, .int .i64 b, .int .i64 c] 51)))
              have HQ6 := Lib.hid (alloc_old HQ5.out (.cells #[.int .i64 a, .int .i64 b, .int .i64 c] 51))
              have HP6 := Lib.hid (alloc_new X0 (.cells #[.int .i64 a, .int .i64 b, .int .i64 c] 51))
              refine hK _ _ ⟨⟨t9_blk HQ6.out, fun _ => ⟨cell_of HR6.out.box 0, cell_of HR6.out.box 1⟩⟩, ?_⟩
              refine Wc.till_all (rs := [3]) (by kernel_rfl) (by simp) ?_
              intro i hi
              simp only [List.mem_cons, List.not_mem_nil, or_false] at hi
              subst hi
              refine wpOp_step rfl (fun K' hK => ?_)
              rw [if_pos (show Region.wanted _ _ = true from rfl)]
              go_simp
              have HR7 := Lib.hid (HR6.out.keep (bl_alloc (Below.refl _ _) (.cells #[.int .i64 s] 3)))
              have HQ7 := Lib.hid (alloc_old HQ6.out (.cells #[.int .i64 s] 3))
              have HP7 := Lib.hid (two_new X0 (.cells #[.int .i64 a, .int .i64 b, .int .i64 c] 51) (.cells #[.int .i64 s] 3))
              refine hK _ _ ⟨⟨t9_blk HQ7.out, fun _ => ⟨cell_of HR7.out.box 0, cell_of HR7.out.box 1⟩⟩, ?_⟩
              have HP6b := Lib.hid (alloc_old HP6.out (.cells #[.int .i64 s] 3))
              refine Wc.till_all (rs := [4]) (by kernel_rfl) (by simp) ?_
              intro i hi
              simp only [List.mem_cons, List.not_mem_nil, or_false] at hi
              subst hi
              refine wpOp_step rfl (fun K' hK => ?_)
              refine step_append_lies _ (by rfl) _ _ _ (by rfl) w1.heap.size 3 z1 (.int .i64 0) 1 8 Tryz.underlying79 hi1 hz10 hz11 hz12 rfl (by decide) (.slice A d c1) d (ivs .i64 (done.map Prod.fst)) (by rfl) HR7.out.ints ⟨X0.heap.size + 1, 0, none⟩ 1 1 [.int .i64 s] (by rfl) (by rfl) (World.news_of_block (cs := #[.int .i64 s]) (t := 3) (fr := (0, 0)) HP7.out) (by simp [Value.oneCell']) (by decide) (by unfold maxLen; omega) (by omega) HR7.out.lt _ rfl ?_
              intro p1 cap1 w7 hown7 hgrow7 _ _
              obtain ⟨hm7, hk7⟩ := midA HR7.out HZ1.out hown7 hgrow7
              have HN8 := Lib.hid hm7
              have HQ8 := Lib.hid (hk7 HQ7.out (by decide))
              have HP8 := Lib.hid (hk7 HP6b.out (by decide))
              clear hm7 hk7 hown7 hgrow7
              refine hK _ _ ⟨⟨t9_blk HQ8.out, fun _ => ⟨cell_of HN8.out.box 0, cell_of HN8.out.box 1⟩⟩, ?_⟩
              clear HR6 HQ6 HP6 HR7 HQ7 HP6b HP7
              refine Wc.till_take0 (i := 10) rfl rfl (by kernel_rfl) (by kernel_rfl) (by kernel_rfl) (fun _ _ _ h => h) (.inl ⟨rfl, fun w' _ => rfl⟩) (t9_blk HQ8.out) ?_
              refine Wc.till_all (rs := [9]) (by kernel_rfl) (by simp) ?_
              intro i hi
              simp only [List.mem_cons, List.not_mem_nil, or_false] at hi
              subst hi
              refine wpOp_step rfl (fun K' hK => ?_)
              refine step_append_lies _ (by rfl) _ _ _ (by rfl) w1.heap.size 51 z3 (.agg #[.int .i64 0, .int .i64 0, .int .i64 0]) 3 24 Tryz.underlying80 hi3 hz30 hz31 hz32 rfl (by decide) (.slice B d c2) d (tvs (done.map Prod.snd)) (by rfl) HN8.out.tris ⟨X0.heap.size, 0, none⟩ 1 1 [.int .i64 a, .int .i64 b, .int .i64 c] (by rfl) (by rfl) (World.news_of_block (cs := #[.int .i64 a, .int .i64 b, .int .i64 c]) (t := 51) (fr := (0, 0)) HP8.out) (by simp [Value.oneCell']) (by decide) (by unfold maxLen; omega) (by omega) HN8.out.lt _ rfl ?_
              intro p2 cap2 w9 hown9 hgrow9 _ _
              have hf9 := finB HN8.out HLEN.out HZ1.out hown9 hgrow9
              have HF9 := Lib.hid hf9.2
              have HQ9b := Lib.hid (grown_blk hgrow9 HQ8.out (fun e => HBQ.out _ e rfl))
              have j0 := cell_of hf9.1 0
              have j1 := cell_of hf9.1 1
              have s0 := free_of hf9.1 0
              have s1 := free_of hf9.1 1
              clear hf9 hown9 hgrow9
              refine hK _ _ ⟨⟨t9_blk HQ9b.out, fun _ => ⟨j0, j1⟩⟩, ?_⟩
              refine Wc.till_all (rs := [11]) (by kernel_rfl) (by simp) ?_
              intro i hi
              simp only [List.mem_cons, List.not_mem_nil, or_false] at hi
              subst hi
              refine wpOp_step rfl (fun K' hK => ?_)
              rw [if_pos (show Region.wanted _ _ = true from rfl)]
              go_simp
              have HT0 := Lib.hid (t9_set (v := .slice (some ⟨p1, 0, none⟩) (d + 1) cap1) (o := 0) HNEQ.out (t9_blk HQ9b.out))
              refine hK _ _ ⟨⟨HT0.out, fun h => (by cases h)⟩, ?_⟩
              refine Wc.till_take0 (i := 12) rfl rfl (by kernel_rfl) (by kernel_rfl) (by kernel_rfl) (fun _ _ _ h => h) (.inl ⟨rfl, fun w' _ => rfl⟩) HT0.out ?_
              refine Wc.till_all (rs := [13]) (by kernel_rfl) (by simp) ?_
              intro i hi
              simp only [List.mem_cons, List.not_mem_nil, or_false] at hi
              subst hi
              refine wpOp_step rfl (fun K' hK => ?_)
              rw [if_pos (show Region.wanted _ _ = true from rfl)]
              go_simp
              have HT1 := Lib.hid (t9_set (v := .slice (some ⟨p2, 0, none⟩) (d + 1) cap2) (o := 1) HNEQ.out HT0.out)
              refine hK _ _ ⟨⟨HT1.out, fun h => (by cases h)⟩, ?_⟩
              refine Wc.till_done (by kernel_rfl) ?_ _
              obtain ⟨i0, i1, i2, -⟩ := HT1.out
              have HLN : Hid (lenAt wr (W.heap.size + 1) = d ∧ lenAt ((w9.setCell ⟨W.heap.size + 1, 0, none⟩ (.slice (some ⟨p1, 0, none⟩) (d + 1) cap1)).setCell ⟨W.heap.size + 1, 1, none⟩ (.slice (some ⟨p2, 0, none⟩) (d + 1) cap2)) (W.heap.size + 1) = d + 1) := ⟨lenAt_is HLW.out, lenAt_is (cell_of HF9.out.box 0)⟩
              clear j0 j1 s0 s1
              go_wp2_with fail
              go_roundw
              case rel => exact ⟨c, d + 1, _, _, cap1, cap2, rfl, hdn3, done ++ [(s, a, b, c)], HRN.out, HF9.out⟩
              case measure =>
                obtain ⟨q1, q2⟩ := HLN.out
                have q2 : lenAt ((w9.setCell ⟨W.heap.size + 1, 0, none⟩ (.slice (some ⟨p1, 0, none⟩) (d + 1) cap1)).setCell ⟨W.heap.size + 1, 1, none⟩ (.slice (some ⟨p2, 0, none⟩) (d + 1) cap2)) (W.heap.size + 1) = d + 1 := q2
                rw [q1, q2]
                omega
end Go.Proofs.YtgnagbbdnlmgeaaGreat.Tr
end
section
set_option maxHeartbeats 2000000
set_option maxRecDepth 100000
namespace Go.Proofs.YtgnagbbdnlmgeaaGreat.Rr
open Go Go.RowKit
open Ob Ba Oc Pk Bm
def cutL : List (Int × Int) → Int → List (Int × Int)
  | [], _ => []
  | r :: rs, c => if c = 0 then [] else (r.1, min r.2 c) :: cutL rs (c - min r.2 c)
def pickF (rs : List (Int × Int)) (c : Int) : List (Int × Int) := match (if c < 1 then none else fitF rs c) with | some s => [(s, c)] | none => cutL rs c
theorem cutL_zero (rs : List (Int × Int)) : cutL rs 0 = [] := by cases rs <;> simp [cutL]
theorem min_int (a b : Int) : min a b = if a ≤ b then a else b := by
  by_cases h : a ≤ b
  · rw [if_pos h, Int.min_eq_left h]
  · rw [if_neg h, Int.min_eq_right (by omega)]
theorem pick_ {W : World} {B b n : Nat} {l : List Nat} {A : Option Addr} {c : Nat} (h : Bm W B b n l A c) (k : Int) (hk0 : 0 ≤ k) (hk9 : k ≤ 1000000) :
    Calls Tryz.prog 179 #[.pointer (some ⟨b, 0, none⟩), .int .i64 k] W fun e w' => ∃ v, e = .returned v ∧ w'.ownsRow W.heap.size 93 2 v (pickF (frees n l) k).length (rvs (pickF (frees n l) k)) ∧ Below W.heap.size W w' := by
  have hu := Tryz.underlying93
  obtain ⟨z0, hinf, hz0, hz1, hz2⟩ := info_parts (show (Tryz.prog.info? 93).map (fun i => (i.zero, i.size, i.bytes)) = some (some (.agg #[.int .i64 0, .int .i64 0]), 2, 16) by kernel_rfl)
  have hn9 := h.le
  have HFT := Lib.hid (fit_ h k)
  have HF : Hid (∀ {W' : World}, Below W.heap.size W W' → _) := fun {W'} hb => free_run (h.keep hb)
  have hlen : (frees n l).length ≤ n + 1 := freeG_len n l _ _
  have hall : ∀ p ∈ frees n l, 0 ≤ p.1 ∧ 0 ≤ p.2 ∧ p.1 + p.2 ≤ n := fun p hp => frees_in hp
  generalize frees n l = R at *
  obtain ⟨m, hm⟩ : ∃ m, m = R.length := ⟨_, rfl⟩
  rw [← hm] at hlen HF
  have HM := Lib.hid hm
  have hm9 : m ≤ 65535 := by omega
  have HALL := Lib.hid hall
  cases ho : (if k < 1 then none else fitF R k) with
  | some s =>
    have hp : pickF R k = [(s, k)] := by unfold pickF; rw [ho]
    rw [hp]
    rw [ho] at HFT
    clear h hall hm hlen HF HALL HM ho hp
    go_enter Tryz.func179, Tryz.ntmps179
    go_wp2_with fail
    refine HFT.out.mono ?_
    rintro e w1 ⟨q1, -, hb1⟩
    have q3 := q1 s rfl
    subst q3
    have HB1 := Lib.hid hb1
    clear q1 hb1
    go_wp2_with fail
    go_ret
    refine ⟨_, rfl, ?_, bl_alloc (bl_alloc HB1.out _) _⟩
    have h9 := alloc_new (w1.alloc (.cells #[.int .i64 s, .int .i64 k] 93)) (.cells #[.int .i64 s, .int .i64 k] 93)
    rw [World.size_alloc] at h9
    exact ⟨by simp [rvs], .inr ⟨w1.heap.size + 1, 1, _, rfl, by have := HB1.out.size; omega, h9, Nat.le_refl _, by unfold maxLen; omega, by simp, by simp [rvs]⟩⟩
  | none =>
    have hp : pickF R k = cutL R k := by unfold pickF; rw [ho]
    rw [hp]
    obtain ⟨CR, hK⟩ : ∃ CR, CR = cutL R k := ⟨_, rfl⟩
    have HKK := Lib.hid hK
    rw [ho] at HFT
    rw [← hK]
    clear h hall hm hlen ho hp hK
    go_enter Tryz.func179, Tryz.ntmps179
    go_wp2_with fail
    refine HFT.out.mono ?_
    rintro e w1 ⟨-, q1, hb1⟩
    have q3 := q1 trivial
    subst q3
    have HB1 := Lib.hid hb1
    clear q1 hb1
    go_wp2_with fail
    refine (HF.out (bl_alloc HB1.out _)).mono ?_
    rintro e w2 ⟨v, rfl, hown, hb2⟩
    obtain ⟨A2, c2, rfl⟩ := own_slice hown
    have HR2 := Lib.hid (own_rr hown).1
    have HB2 := Lib.hid (bl_then (bl_alloc HB1.out _) hb2)
    clear hown hb2
    go_wp2_with fail
    go_loopw [22, 7, 1] (fun c22 c7 c1 wr => ∃ (i d : Nat) (q : Int), i ≤ m ∧ d ≤ i ∧ c22 = .int .i64 i ∧ c1 = .int .i64 q ∧ 0 ≤ q ∧ q ≤ 1000000 ∧ Hid (∃ done, CR = done ++ cutL (R.drop i) q ∧ done.length = d ∧ wr.ownsRow w2.heap.size 93 2 c7 d (rvs done) ∧ Below w2.heap.size w2 wr)) (fun c22 _ _ _ => m - (intOf c22).toNat)
    case atStart => exact ⟨0, 0, k, Nat.zero_le _, Nat.le_refl _, rfl, rfl, hk0, hk9, [], by rw [HKK.out]; rfl, rfl, own_nil0 _ _ _ _, Below.refl _ _⟩
    case round =>
      obtain ⟨i, d, q, hi, hd, rfl, rfl, hq0, hq9, HI⟩ := hrel
      by_cases hlt : i < m
      · obtain ⟨p, hp⟩ := some_at (l := R) (i := i) (by rw [← HM.out]; exact hlt)
        have hpa := HALL.out p (List.mem_of_getElem? hp)
        have hdr : R.drop i = p :: R.drop (i + 1) := by
          obtain ⟨h1, h2⟩ := List.getElem?_eq_some_iff.1 hp
          rw [List.drop_eq_getElem_cons h1, h2]
        obtain ⟨done, d1, d2, d3, d4⟩ := HI.out
        obtain ⟨g, off, rfl, hq, g1, g2⟩ := (HR2.out.below d4) i p hp
        obtain ⟨x, y⟩ := p
        rw [hdr] at d1
        by_cases hz : q = 0
        · subst hz
          have hce : CR = done := by rw [d1, cutL_zero, List.append_nil]
          have HD := Lib.hid (And.intro hce (And.intro d2 (And.intro d3 d4)))
          clear d1 d2 d3 d4 hce hdr hp hpa HI
          go_wp2_with fail
          go_ret
          obtain ⟨h1, h2, h3, h4⟩ := HD.out
          rw [h1, h2]
          exact ⟨_, rfl, own_base (own_kp h3 (fun k _ hk => Below.heap_alloc _ _ k hk)) HB2.out.size, bl_alloc (bl_then HB2.out h4) _⟩
        · obtain ⟨hx0, hy0, hxy⟩ := hpa
          simp only at hx0 hy0 hxy
          obtain ⟨mn, hmn⟩ : ∃ mn, mn = min y q := ⟨_, rfl⟩
          have hst : CR = (done ++ [(x, mn)]) ++ cutL (R.drop (i + 1)) (q - mn) := by
            rw [d1, List.append_assoc]
            unfold cutL
            rw [if_neg hz, ← hmn]
            cases R.drop (i + 1) <;> rfl
          rw [min_int] at hmn
          have hmn1 : 0 ≤ mn ∧ mn ≤ q := by rw [hmn]; split <;> omega
          obtain ⟨hmn2, hmn3⟩ := hmn1
          have HLO := Lib.hid (own_lo d3)
          have HOB : Hid (∀ k, u7.ownBlock = some k → k < wr.heap.size) := fun k hk => by
            obtain ⟨cur, hc⟩ := own_blk' d3 hk
            exact lt_of hc
          have HOW : Hid (∀ o o', ((wr.alloc o).alloc o').ownsRow w2.heap.size 93 2 u7 d (rvs done)) := fun o o' => own_kp (own_kp (W' := wr.alloc o) d3 (fun k _ hk => Below.heap_alloc _ _ k hk)) (fun k _ hk => Below.heap_alloc _ _ k hk)
          have HST := Lib.hid (And.intro hst (And.intro d2 d4))
          clear d1 d2 d3 d4 hst hdr hp HI
          have hqz : (q == 0) = false := beq_eq_false_iff_ne.2 hz
          have HFIN : Hid (∀ (w7 : World) (v' : Value), w7.ownsRow w2.heap.size 93 2 v' (d + 1) (rvs done ++ [.int .i64 x, .int .i64 mn]) → ((wr.alloc (.cells #[.int .i64 x, .int .i64 mn] 93)).alloc (.cells #[.int .i64 x, .int .i64 mn] 93)).grownBy w7 u7.ownBlock → w7.cell? ⟨wr.heap.size, 1, none⟩ = some (.int .i64 mn) ∧ Hid (∃ done, CR = done ++ cutL (R.drop (i + 1)) (q - mn) ∧ done.length = d + 1 ∧ w7.ownsRow w2.heap.size 93 2 v' (d + 1) (rvs done) ∧ Below w2.heap.size w2 w7)) := by
            intro w7 v' h1 h2
            refine ⟨?_, done ++ [(x, mn)], HST.out.1, by simp [HST.out.2.1], by rw [rvs_append]; exact h1, ?_⟩
            · have hb := h2.block wr.heap.size (by simp; omega) (fun e => by have := HOB.out _ e.symm; omega)
              have h9 := alloc_old (alloc_new wr (.cells #[.int .i64 x, .int .i64 mn] 93)) (.cells #[.int .i64 x, .int .i64 mn] 93)
              exact cell_of (hb.trans h9) 1
            · exact bl_grown (bl_alloc (bl_alloc HST.out.2.2 _) _) h2 HLO.out
          have hsz : Hid (w2.heap.size ≤ wr.heap.size + 2) := by show _ ≤ _; have := HST.out.2.2.size; omega
          have hqm : 0 ≤ q - mn ∧ q - mn ≤ 1000000 := by omega
          obtain ⟨hqm0, hqm1⟩ := hqm
          have HPN : Hid (∀ j u, [Value.int .i64 x, .int .i64 mn][j]? = some u → ((wr.alloc (.cells #[.int .i64 x, .int .i64 mn] 93)).alloc (.cells #[.int .i64 x, .int .i64 mn] 93)).cell? ((⟨wr.heap.size + 1, 0, none⟩ : Addr).add j) = some u) := by
            have h9 := pair_news (wr.alloc (.cells #[.int .i64 x, .int .i64 mn] 93)) (.int .i64 x) (.int .i64 mn) 93
            rw [World.size_alloc] at h9
            exact h9
          have hcs : (mn = y ∧ y ≤ q) ∨ (q = mn ∧ q < y) := by
            rw [hmn]
            split
            · exact .inl ⟨rfl, by assumption⟩
            · exact .inr ⟨rfl, by omega⟩
          clear hmn
          rcases hcs with ⟨rfl, hyq⟩ | ⟨rfl, hyq⟩
          all_goals
            go_wp2_with (at_builtin; refine wpList_append_own _ rfl (.tmp 33) (.tmp 35) 87 rfl w2.heap.size 93 z0 (.agg #[.int .i64 0, .int .i64 0]) 2 16 Tryz.underlying87 hinf hz0 hz1 hz2 rfl (by decide) _ d _ rfl (HOW.out _ _) ⟨wr.heap.size + 1, 0, none⟩ 1 1 [.int .i64 x, .int .i64 _] rfl rfl HPN.out (by intro u hu; simp at hu; rcases hu with rfl | rfl <;> rfl) (by unfold maxLen; omega) (by omega) (by have h1 := hsz.out; simp; omega) ?_; intro v' w7 hown' hgrow _; (obtain ⟨k7, HF7⟩ := HFIN.out _ _ hown' hgrow); clear hown' hgrow)
            go_roundw
            case rel => exact ⟨i + 1, d + 1, _, by omega, by omega, by go_num, rfl, by omega, by omega, by first | exact HF7 | (rw [Int.sub_self] at HF7; exact HF7)⟩
            case measure => simp [intOf]; omega
      · obtain rfl : i = m := by omega
        obtain ⟨done, d1, d2, d3, d4⟩ := HI.out
        have hce : CR = done := by
          rw [d1, List.drop_of_length_le (by rw [← HM.out]; exact Nat.le_refl _)]
          exact List.append_nil _
        have HD := Lib.hid (And.intro hce (And.intro d2 (And.intro d3 d4)))
        clear d1 d2 d3 d4 hce HI
        go_wp2_with fail
        go_ret
        obtain ⟨h1, h2, h3, h4⟩ := HD.out
        rw [h1, h2]
        exact ⟨_, rfl, own_base h3 HB2.out.size, bl_then HB2.out h4⟩
end Go.Proofs.YtgnagbbdnlmgeaaGreat.Rr
end
section
set_option maxHeartbeats 2000000
set_option maxRecDepth 100000
namespace Go.Proofs.YtgnagbbdnlmgeaaGreat.Rr
open Go Go.RowKit
open Ob Ba Oc Pk Bm Jd
def setR (n : Nat) (l : List Nat) (s : Nat) : Nat → List Nat
  | 0 => l
  | k + 1 => (turnL n false (setR n l s k) [((s + k : Nat) : Int)]).1
def rangeF (n : Nat) (l : List Nat) (s k : Int) : Bool × List Nat :=
  if k < 1 ∨ s < 0 ∨ n ≤ s ∨ n - s < k then (false, l) else
  if ∃ j, nextF n l s.toNat true = some j ∧ (j : Int) < s + k then (false, l) else (true, setR n l s.toNat k.toNat)
theorem only_upd {q : Nat} {w w' : World} (o : Only (some ⟨q, 0, none⟩) w w') : Upd [q] w w' :=
  ⟨o.os, o.tape, o.output, Nat.le_of_eq o.size.symm, fun k _ hk => o.block k (fun a ha e => hk (by cases ha; simp at e; simp [e]))⟩
theorem range_ {W : World} {B b n : Nat} {l : List Nat} {g c : Nat} (h : Bm W B b n l (some ⟨g, 0, none⟩) c) (hg : g < W.heap.size) (s k : Int) (hs : -9223372036854775808 ≤ s ∧ s ≤ 9223372036854775807) :
    Calls Tryz.prog 180 #[.pointer (some ⟨b, 0, none⟩), .int .i64 s, .int .i64 k] W fun e w' => e = .returned (.bool (rangeF n l s k).1) ∧ Bm w' B b n (rangeF n l s k).2 (some ⟨g, 0, none⟩) c ∧ Upd [g] W w' := by
  have hu := Tryz.underlying182
  have k0 := cell_of h.box 0
  have hn9 := h.le
  obtain ⟨hs1, hs2⟩ := hs
  by_cases hc : k < 1 ∨ s < 0 ∨ (n : Int) ≤ s ∨ (n : Int) - s < k
  · have hf : rangeF n l s k = (false, l) := by unfold rangeF; rw [if_pos hc]
    rw [hf]
    have H := Lib.hid h
    clear h hf
    by_cases h1 : k < 1
    · clear hc
      go_enter Tryz.func180, Tryz.ntmps180
      go_wp2_with fail
      go_ret
      exact ⟨rfl, H.out, Upd.refl _ _⟩
    · by_cases h2 : s < 0
      · clear hc
        go_enter Tryz.func180, Tryz.ntmps180
        go_wp2_with fail
        go_ret
        exact ⟨rfl, H.out, Upd.refl _ _⟩
      · by_cases h3 : (n : Int) ≤ s
        · clear hc
          go_enter Tryz.func180, Tryz.ntmps180
          go_wp2_with fail
          go_ret
          exact ⟨rfl, H.out, Upd.refl _ _⟩
        · have h4 : (n : Int) - s < k := by omega
          clear hc
          go_enter Tryz.func180, Tryz.ntmps180
          go_wp2_with fail
          go_ret
          exact ⟨rfl, H.out, Upd.refl _ _⟩
  obtain ⟨s, rfl⟩ : ∃ t : Nat, s = t := ⟨s.toNat, by omega⟩
  obtain ⟨k, rfl⟩ : ∃ t : Nat, k = t := ⟨k.toNat, by omega⟩
  have c1 : (1 : Int) ≤ k := by omega
  have c2 : (s : Int) < n := by omega
  have c3 : (k : Int) ≤ n - s := by omega
  have c4 : k + s ≤ 65534 := by omega
  have HN := Lib.hid (nexti h s true)
  by_cases hj : ∃ j, nextF n l s true = some j ∧ (j : Int) < s + k
  · have hf : rangeF n l s k = (false, l) := by unfold rangeF; rw [if_neg hc, Int.toNat_natCast, if_pos hj]
    rw [hf]
    obtain ⟨j, hj1, hj2⟩ := hj
    rw [hj1] at HN
    have hx2 : ix (some j) = (j : Int) := rfl
    have H := Lib.hid h
    clear h hf hj1 hc
    go_enter Tryz.func180, Tryz.ntmps180
    go_wp2_with (go_at_call 116; refine HN.out.mono ?_; rintro e w1 ⟨rfl, hw1⟩; (have hw2 := hw1.symm); subst hw2; clear hw1)
    go_ret
    exact ⟨rfl, H.out, Upd.refl _ _⟩
  have hf : rangeF n l s k = (true, setR n l s k) := by unfold rangeF; rw [if_neg hc, Int.toNat_natCast, if_neg hj, Int.toNat_natCast]
  rw [hf]
  have hnx : ix (nextF n l s true) < 0 ∨ (s : Int) + k ≤ ix (nextF n l s true) := by
    cases hq : nextF n l s true with
    | none => exact .inl (by decide)
    | some j =>
      refine .inr ?_
      have : ¬ (j : Int) < s + k := fun h => hj ⟨j, hq, h⟩
      show (s : Int) + k ≤ (j : Int)
      omega
  have hlo : -1 ≤ ix (nextF n l s true) ∧ ix (nextF n l s true) ≤ 65534 := by
    cases hq : nextF n l s true with
    | none => exact ⟨by decide, by decide⟩
    | some j =>
      have := nextF_some hq
      show -1 ≤ (j : Int) ∧ (j : Int) ≤ 65534
      omega
  generalize ix (nextF n l s true) = x at *
  obtain ⟨hlo1, hlo2⟩ := hlo
  have H := Lib.hid h
  have HG := Lib.hid hg
  clear h hf hj hc hg
  rcases hnx with hnx | hnx
  all_goals
    go_enter Tryz.func180, Tryz.ntmps180
    go_wp2_with (go_at_call 116; refine HN.out.mono ?_; rintro e w1 ⟨rfl, hw1⟩; (have hw2 := hw1.symm); subst hw2; clear hw1)
    go_loopw [8] (fun c8 wr => ∃ i : Nat, i ≤ k ∧ c8 = .int .i64 ((s + i : Nat) : Int) ∧ Hid (Bm wr B b n (setR n l s i) (some ⟨g, 0, none⟩) c ∧ Upd [g] W wr)) (fun c8 _ => s + k - (intOf c8).toNat)
    case atStart => exact ⟨0, Nat.zero_le _, rfl, H.out, Upd.refl _ _⟩
    case round =>
      obtain ⟨i, hi, rfl, HR⟩ := hrel
      by_cases hlt : i < k
      · have HP : Hid (Calls Tryz.prog 61 #[.pointer (some ⟨b, 0, none⟩), .slice (some ⟨wr.heap.size, 0, none⟩) 1 1] (wr.alloc (.cells #[.int .i64 ((s + i : Nat) : Int)] 3)) fun e w' => ∃ r, e = .returned (.int .i64 r) ∧ Bm w' B b n (setR n l s (i + 1)) (some ⟨g, 0, none⟩) c ∧ Upd [g] W w') := by
          have hr : Rk .i64 (wr.alloc (.cells #[.int .i64 ((s + i : Nat) : Int)] 3)) (some ⟨wr.heap.size, 0, none⟩) [((s + i : Nat) : Int)] := by
            refine blk_rk (alloc_new wr _) ?_
            intro j x hj
            match j, hj with
            | 0, hj => simp at hj; subst hj; rfl
            | j + 1, hj => simp at hj
          have h9 := put_ (HR.out.1.keep (bl_alloc (Below.refl _ _) _)) hr (fun a a' ha ha' => by
            cases ha; cases ha'
            have := HR.out.2.size
            have := HG.out
            show g ≠ wr.heap.size
            omega) 1 (show (1 : Nat) ≤ 1000000000 by decide)
          refine (show Calls _ _ _ _ _ from h9).mono ?_
          rintro e w' ⟨rfl, q1, q2⟩
          exact ⟨_, rfl, q1, (HR.out.2.alloc _).trans (only_upd q2) (fun x hx => .inl hx)⟩
        go_wp2_with (go_at_call 61; refine HP.out.mono ?_; rintro e w7 ⟨r, rfl, q1, q2⟩; (have HQ := Lib.hid (And.intro q1 q2)); clear q1 q2)
        go_roundw
        case rel => exact ⟨i + 1, by omega, by go_num, HQ.out⟩
        case measure => simp [intOf]; omega
      · obtain rfl : i = k := by omega
        go_wp2_with fail
        go_ret
        exact ⟨rfl, HR.out.1, HR.out.2⟩
end Go.Proofs.YtgnagbbdnlmgeaaGreat.Rr
end
