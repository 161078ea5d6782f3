/- Parts of the proof, one behind the other: Ca, Co, Ho. -/
import Derived.Test.YtgnagbbdnlmgeaaGreatC17
import Derived.Test.YtgnagbbdnlmgeaaGreatC18
import Derived.Test.YtgnagbbdnlmgeaaGreatC19
import Derived.Test.YtgnagbbdnlmgeaaGreatC14

/- chain.Read. -/
section
set_option linter.unusedVariables false
set_option linter.unusedSimpArgs false
set_option maxHeartbeats 4000000
set_option maxRecDepth 100000
namespace Go.Proofs.YtgnagbbdnlmgeaaGreat.Tr
open Go Go.RowKit
open Go.Proofs.YtgnagbbdnlmgeaaGreat.Ob Go.Proofs.YtgnagbbdnlmgeaaGreat.Ba Go.Proofs.YtgnagbbdnlmgeaaGreat.Oc Go.Proofs.YtgnagbbdnlmgeaaGreat.Pk Go.Proofs.YtgnagbbdnlmgeaaGreat.Ko Go.Proofs.YtgnagbbdnlmgeaaGreat.Dv Go.Proofs.YtgnagbbdnlmgeaaGreat.Vo Go.Proofs.YtgnagbbdnlmgeaaGreat.Ra Go.Proofs.YtgnagbbdnlmgeaaGreat.Su Go.Proofs.YtgnagbbdnlmgeaaGreat.Lo Go.Proofs.YtgnagbbdnlmgeaaGreat.Je

/-- what holds between two rounds -/
structure Rd (W w1 wr : World) (q : Nat) (A B : Option Addr) (c1 c2 d : Nat) (done : List (Int × Tri)) : Prop where
  len : done.length = d
  bl : Below W.heap.size W wr
  lt : w1.heap.size ≤ wr.heap.size
  res : wr.heap[W.heap.size]? = some (.cells #[.slice none 0 0, .slice none 0 0] 82 (0, 0))
  box : wr.heap[W.heap.size + 1]? = some (.cells #[.slice A d c1, .slice B d c2] 82 (0, 0))
  ints : wr.ownsRow w1.heap.size 3 1 (.slice A d c1) d (ivs .i64 (done.map Prod.fst))
  tris : wr.ownsRow w1.heap.size 51 3 (.slice B d c2) d (tvs (done.map Prod.snd))

theorem Rd.keep {W w1 wr w' : World} {q : Nat} {A B : Option Addr} {c1 c2 d : Nat} {done : List (Int × Tri)} (h : Rd W w1 wr q A B c1 c2 d done) (hb : Below wr.heap.size wr w') : Rd W w1 w' q A B c1 c2 d done :=
  ⟨h.len, bl_then h.bl hb, Nat.le_trans h.lt hb.size, blk_bl h.res hb, blk_bl h.box hb, own_bl h.ints hb, own_bl h.tris hb⟩

/-- behind the append of the slot -/
structure N7 (W w1 w7 : World) (A B : Option Addr) (c1 c2 d : Nat) (A' : Option Addr) (c1' : Nat) (s : Int) (done : List (Int × Tri)) : Prop where
  bl : Below W.heap.size W w7
  lt : w1.heap.size ≤ w7.heap.size
  res : w7.heap[W.heap.size]? = some (.cells #[.slice none 0 0, .slice none 0 0] 82 (0, 0))
  box : w7.heap[W.heap.size + 1]? = some (.cells #[.slice A d c1, .slice B d c2] 82 (0, 0))
  ints : w7.ownsRow w1.heap.size 3 1 (.slice A' (d + 1) c1') (d + 1) (ivs .i64 (done.map Prod.fst) ++ [.int .i64 s])
  tris : w7.ownsRow w1.heap.size 51 3 (.slice B d c2) d (tvs (done.map Prod.snd))
theorem N7.keep {W w1 w7 w' : World} {A B A' : Option Addr} {c1 c2 d c1' : Nat} {s : Int} {done : List (Int × Tri)} (h : N7 W w1 w7 A B c1 c2 d A' c1' s done) (hb : Below w7.heap.size w7 w') : N7 W w1 w' A B c1 c2 d A' c1' s done :=
  ⟨bl_then h.bl hb, Nat.le_trans h.lt hb.size, blk_bl h.res hb, blk_bl h.box hb, own_bl h.ints hb, own_bl h.tris hb⟩
theorem midA {W w1 Wp w7 : World} {A B A' : Option Addr} {c1 c2 d c1' : Nat} {s : Int} {done : List (Int × Tri)} (h : Rd W w1 Wp 0 A B c1 c2 d done) (hz : W.heap.size + 2 ≤ w1.heap.size)
    (ho : w7.ownsRow w1.heap.size 3 1 (.slice A' (d + 1) c1') (d + 1) (ivs .i64 (done.map Prod.fst) ++ [.int .i64 s])) (hg : Wp.grownBy w7 (Value.slice A d c1).ownBlock) :
    N7 W w1 w7 A B c1 c2 d A' c1' s done ∧ ∀ {k : Nat} {cur : Array Value} {T' : Nat} {fr : Nat × Nat}, Wp.heap[k]? = some (.cells cur T' fr) → 3 ≠ T' → w7.heap[k]? = some (.cells cur T' fr) := by
  have hlo := own_lo h.ints
  have hall : ∀ {k : Nat} {cur : Array Value} {T' : Nat} {fr : Nat × Nat}, Wp.heap[k]? = some (.cells cur T' fr) → 3 ≠ T' → w7.heap[k]? = some (.cells cur T' fr) := fun hk hT => grown_blk hg hk (ne_type h.ints hk hT)
  refine ⟨⟨bl_grown h.bl hg (fun k hk => by have := hlo k hk; omega), Nat.le_trans h.lt hg.size, hall h.res (by decide), hall h.box (by decide), ho, ?_⟩, hall⟩
  exact own_grown hg h.tris (fun k hk => by
    obtain ⟨cur, hc⟩ := Bm.own_blk' h.tris hk
    exact ne_type h.ints hc (by decide))
theorem finB {W w1 W8 w9 : World} {A B A' B' : Option Addr} {c1 c2 d c1' c2' : Nat} {s a b c : Int} {done : List (Int × Tri)} (h : N7 W w1 W8 A B c1 c2 d A' c1' s done) (hl : done.length = d) (hz : W.heap.size + 2 ≤ w1.heap.size)
    (ho : w9.ownsRow w1.heap.size 51 3 (.slice B' (d + 1) c2') (d + 1) (tvs (done.map Prod.snd) ++ [.int .i64 a, .int .i64 b, .int .i64 c])) (hg : W8.grownBy w9 (Value.slice B d c2).ownBlock) :
    w9.heap[W.heap.size + 1]? = some (.cells #[.slice A d c1, .slice B d c2] 82 (0, 0)) ∧
    Rd W w1 ((w9.setCell ⟨W.heap.size + 1, 0, none⟩ (.slice A' (d + 1) c1')).setCell ⟨W.heap.size + 1, 1, none⟩ (.slice B' (d + 1) c2')) 0 A' B' c1' c2' (d + 1) (done ++ [(s, a, b, c)]) := by
  have hlo := own_lo h.tris
  have hb9 := grown_blk hg h.box (ne_type h.tris h.box (by decide))
  have hr9 := grown_blk hg h.res (ne_type h.tris h.res (by decide))
  have hi9 := own_grown hg h.ints (fun k hk => by
    obtain ⟨cur, hc⟩ := Bm.own_blk' h.ints hk
    exact ne_type h.tris hc (by decide))
  refine ⟨hb9, by simp [hl], bl_set (bl_set (bl_grown h.bl hg (fun k hk => by have := hlo k hk; omega)) (by omega) _) (by omega) _, by have := h.lt; have := hg.size; simp; omega, set_blk (set_blk hr9 (by omega)) (by omega), Rr.put2 hb9 _ _, ?_, ?_⟩
  · rw [List.map_append, ivs_append]
    exact own_sets hi9 (by omega) _ _
  · rw [List.map_append, tvs_append]
    exact own_sets ho (by omega) _ _
structure Lt (q : Nat) (W : World) : Prop where
  lt : q < W.heap.size
theorem t9_alloc {w : World} {q : Nat} {x y z : Option Value} (h : w.cell? ⟨q, 0, none⟩ = x ∧ w.cell? ⟨q, 1, none⟩ = y ∧ w.cell? ⟨q, 2, none⟩ = z ∧ Lt q w) (o : Obj) :
    (w.alloc o).cell? ⟨q, 0, none⟩ = x ∧ (w.alloc o).cell? ⟨q, 1, none⟩ = y ∧ (w.alloc o).cell? ⟨q, 2, none⟩ = z ∧ Lt q (w.alloc o) := by
  obtain ⟨h0, h1, h2, ⟨h3⟩⟩ := h
  have hb : Below w.heap.size w (w.alloc o) := bl_alloc (Below.refl _ _) _
  exact ⟨(hb.cell (p := ⟨q, 0, none⟩) h3).trans h0, (hb.cell (p := ⟨q, 1, none⟩) h3).trans h1, (hb.cell (p := ⟨q, 2, none⟩) h3).trans h2, ⟨Nat.lt_of_lt_of_le h3 hb.size⟩⟩
theorem t9_set {w : World} {q k o : Nat} {x y z : Option Value} (hne : k ≠ q) (v : Value) (h : w.cell? ⟨q, 0, none⟩ = x ∧ w.cell? ⟨q, 1, none⟩ = y ∧ w.cell? ⟨q, 2, none⟩ = z ∧ Lt q w) :
    (w.setCell ⟨k, o, none⟩ v).cell? ⟨q, 0, none⟩ = x ∧ (w.setCell ⟨k, o, none⟩ v).cell? ⟨q, 1, none⟩ = y ∧ (w.setCell ⟨k, o, none⟩ v).cell? ⟨q, 2, none⟩ = z ∧ Lt q (w.setCell ⟨k, o, none⟩ v) := by
  obtain ⟨h0, h1, h2, ⟨h3⟩⟩ := h
  have hb : (w.setCell ⟨k, o, none⟩ v).heap[q]? = w.heap[q]? := Below.heap_setCell w _ _ q (fun e => hne e.symm)
  exact ⟨(cell_blk hb 0).trans h0, (cell_blk hb 1).trans h1, (cell_blk hb 2).trans h2, ⟨by simpa using h3⟩⟩
theorem t9_blk {w : World} {q T : Nat} {x y z : Value} {fr : Nat × Nat} (h : w.heap[q]? = some (.cells #[x, y, z] T fr)) : w.cell? ⟨q, 0, none⟩ = some x ∧ w.cell? ⟨q, 1, none⟩ = some y ∧ w.cell? ⟨q, 2, none⟩ = some z ∧ Lt q w :=
  ⟨cell_of h 0, cell_of h 1, cell_of h 2, ⟨lt_of h⟩⟩

theorem field0 (x y z : Value) (w : World) : (Instr.field 34 (.agg #[x, y, z]) 0).run Tryz.prog w = .ok x w := by
  rfl

theorem read_ {W : World} {v b n m s : Nat} {dv : Dev} {g : Lay} {ws : List Nat} (hv : VolIs W v b n m s dv g) (hwd : Pm.wordsOf dv = Oc.ints ws) (hlt : ∀ x ∈ ws, x < 18446744073709551616) (hfit : 16 + 8 * m + n ≤ ws.length) (hn : n ≤ 65534) (head : Int) :
    Calls Tryz.prog 34 #[.pointer (some ⟨v, 0, none⟩), .int .i64 head] W fun o w' =>
      (∀ L, chainF n (slF ws n m) n head = some L → ∃ A c B d, o = .returned (.tuple #[.agg #[.slice A L.length c, .slice B L.length d], .int .i64 0]) ∧ w'.ownsRow W.heap.size 3 1 (.slice A L.length c) L.length (ivs .i64 (L.map Prod.fst)) ∧ w'.ownsRow W.heap.size 51 3 (.slice B L.length d) L.length (tvs (L.map Prod.snd))) ∧
      (chainF n (slF ws n m) n head = none → o = .returned (.tuple #[.agg #[.slice none 0 0, .slice none 0 0], .int .i64 2])) ∧ Below W.heap.size W w' := by
  have hu := Tryz.underlying82
  have hu2 := Tryz.underlying51
  have hu3 := Tryz.underlying34
  obtain ⟨z1, hi1, hz10, hz11, hz12⟩ := info_parts (show (Tryz.prog.info? 3).map (fun i => (i.zero, i.size, i.bytes)) = some (some (.int .i64 0), 1, 8) by kernel_rfl)
  obtain ⟨z3, hi3, hz30, hz31, hz32⟩ := info_parts (show (Tryz.prog.info? 51).map (fun i => (i.zero, i.size, i.bytes)) = some (some (.agg #[.int .i64 0, .int .i64 0, .int .i64 0]), 3, 24) by kernel_rfl)
  have HG : Hid (∀ {W' : World}, Below W.heap.size W W' → _) := fun {W'} hb => Jh.geom_ (hv.below hb)
  have HS : Hid (∀ {W' : World} (i : Int), Below W.heap.size W W' → _) := fun {W'} i hb => slot_callD (hv.below hb) hwd hlt hfit i
  have HMAY : Hid (∀ i t, slF ws n m i = some t → sMay t.1 t.2.1 t.2.2 = true ∧ 0 ≤ i ∧ i < n) := fun i t h => slF_may h
  generalize slF ws n m = sl at *
  obtain ⟨R, hR⟩ : ∃ R, R = chainF n sl n head := ⟨_, rfl⟩
  have HR := Lib.hid hR
  rw [← hR]
  clear hv hwd hlt hfit hR
  go_enter Tryz.func34, Tryz.ntmps34
  go_wp2_with fail
  refine (HG.out (bl_alloc (bl_alloc (Below.refl _ _) _) _)).mono ?_
  rintro e w1 ⟨rfl, hb1⟩
  have HB1 := Lib.hid (bl_then (bl_alloc (bl_alloc (Below.refl _ _) (.cells #[.slice none 0 0, .slice none 0 0] 82)) (.cells #[.slice none 0 0, .slice none 0 0] 82)) hb1)
  have HQ4 := Lib.hid (blk_bl (alloc_old (alloc_new W (.cells #[.slice none 0 0, .slice none 0 0] 82)) (.cells #[.slice none 0 0, .slice none 0 0] 82)) hb1)
  have HQ6 := Lib.hid (blk_bl (two_new W (.cells #[.slice none 0 0, .slice none 0 0] 82) (.cells #[.slice none 0 0, .slice none 0 0] 82)) hb1)
  have hsz1 : W.heap.size + 2 ≤ w1.heap.size := by have := hb1.size; rw [World.size_alloc, World.size_alloc] at this; omega
  have HZ1 := Lib.hid hsz1
  have hfld := field0 (.int .i64 n) (.int .i64 m) (.int .i64 s) w1
  clear hb1 hsz1
  go_wp2_with fail
  clear hfld
  go_loopw [8] (fun c8 wr => ∃ (s : Int) (d : Nat) (A B : Option Addr) (c1 c2 : Nat), c8 = .int .i64 s ∧ d ≤ n ∧ Hid (∃ done, R = (chainF n sl (n - d) s).map (done ++ ·) ∧ Rd W w1 wr 0 A B c1 c2 d done)) (fun c8 wr => n + 1 - lenAt wr (W.heap.size + 1))
  case atStart => exact ⟨head, 0, none, none, 0, 0, rfl, Nat.zero_le _, [], by rw [HR.out]; cases chainF n sl (n - 0) head <;> rfl, rfl, HB1.out, Nat.le_refl _, HQ4.out, HQ6.out, own_nil0 _ _ _ _, own_nil0 _ _ _ _⟩
  case round =>
    obtain ⟨s, d, A, B, c1, c2, rfl, hd, HI⟩ := hrel
    by_cases hs : s = -1
    · subst hs
      obtain ⟨done, h1, h2⟩ := HI.out
      rw [chainF_stop] at h1
      have HD := Lib.hid (And.intro h1 h2)
      have hbx := h2.box
      have hrs := h2.res
      have l0 := cell_of hbx 0
      have l1 := cell_of hbx 1
      have m0 := cell_of hrs 0
      have m1 := cell_of hrs 1
      have f0 := free_of hrs 0
      have f1 := free_of hrs 1
      clear h1 h2 hbx hrs HI
      go_wp2_with fail
      refine bodyPost_ret (res_ct (u := 5) rfl _ _ W.heap.size 82 #[.slice A d c1, .slice B d c2] (0, 0) _ rfl (Rr.put2 HD.out.2.res _ _) hu rfl (by kernel_rfl)) rfl ⟨fun L hL => ?_, fun hn => ?_, bl_set (bl_set HD.out.2.bl (Nat.le_refl _) _) (Nat.le_refl _) _⟩
      · obtain ⟨h1, h2⟩ := HD.out
        have e9 : L = done := by
          rw [hL] at h1
          simpa using h1
        subst e9
        rw [h2.len]
        refine ⟨A, c1, B, c2, rfl, ?_, ?_⟩
        · exact own_base (own_sets h2.ints (by have := HZ1.out; omega) _ _) (by have := HZ1.out; omega)
        · exact own_base (own_sets h2.tris (by have := HZ1.out; omega) _ _) (by have := HZ1.out; omega)
      · obtain ⟨h1, -⟩ := HD.out
        rw [hn] at h1
        cases h1
    · have HSC := Lib.hid (HS.out (W' := wr) s (by obtain ⟨done, -, h⟩ := HI.out; exact h.bl))
      go_wp2_with fail
      refine HSC.out.mono ?_
      rintro e w2 ⟨er, rfl, he, hb2⟩
      have hsn : (s != -1) = true := bne_iff_ne.2 hs
      obtain ⟨done, r1, r2⟩ := HI.out
      have r3 := r2.keep hb2
      cases ht : sl s with
      | none =>
        rw [ht] at he
        have he : (er != 0) = true := he
        have hRn : R = none := by rw [r1, chainF_bad hs (.inl ht)]; rfl
        have HF := Lib.hid (And.intro hRn r3)
        have hrs := r3.res
        have m0 := cell_of hrs 0
        have m1 := cell_of hrs 1
        have f0 := free_of hrs 0
        have f1 := free_of hrs 1
        have hlt := lt_of hrs
        rw [show slV none = (0, 0, 0) from rfl]
        clear hrs r1 r2 r3 HI hb2 hRn ht
        go_wp2_with fail
        exact bodyPost_ret (res_ct (u := 5) rfl _ _ W.heap.size 82 #[.slice none 0 0, .slice none 0 0] (0, 0) _ rfl (alloc_old (Rr.put2 HF.out.2.res _ _) _) hu rfl (by kernel_rfl)) rfl ⟨fun L hL => (by rw [HF.out.1] at hL; cases hL), fun _ => rfl, bl_alloc (bl_set (bl_set HF.out.2.bl (Nat.le_refl _) _) (Nat.le_refl _) _) _⟩
      | some t =>
        rw [ht] at he
        have he : (er != 0) = false := he
        have her : er = 0 := by simpa using he
        subst her
        obtain ⟨a, b, c⟩ := t
        rw [show slV (some (a, b, c)) = (a, b, c) from rfl]
        have hmay := (HMAY.out s _ ht).1
        have HEN := Lib.hid (fun w => end_ a b c hmay w)
        have hmm := of_decide_eq_true hmay
        obtain ⟨y1, y2, y3, y4, y5, y6⟩ := hmm
        clear hb2 he hmay
        go_wp2_with fail
        refine (HEN.out _).mono ?_
        rintro e w3 ⟨rfl, hb3⟩
        have r4 := (r3.keep (bl_alloc (Below.refl _ _) (.cells #[.int .i64 a, .int .i64 b, .int .i64 c] 51))).keep hb3
        have hq9 := blk_bl (alloc_new w2 (.cells #[.int .i64 a, .int .i64 b, .int .i64 c] 51)) hb3
        have hrs := r4.res
        have hbx := r4.box
        have m0 := cell_of hrs 0
        have m1 := cell_of hrs 1
        have f0 := free_of hrs 0
        have f1 := free_of hrs 1
        have l0 := cell_of hbx 0
        have l1 := cell_of hbx 1
        have g0 := free_of hbx 0
        have g1 := free_of hbx 1
        have k0 := cell_of hq9 0
        have k1 := cell_of hq9 1
        have k2 := cell_of hq9 2
        by_cases hab : (n : Int) < a + b
        · have hRn : R = none := by rw [r1, chainF_bad hs (.inr (.inl ⟨_, ht, hab⟩))]; rfl
          have HF := Lib.hid (And.intro hRn r4)
          clear hrs hbx hq9 r1 r2 r3 r4 HI hb3 hRn ht
          go_wp2_with fail
          exact bodyPost_ret (res_ct (u := 5) rfl _ _ W.heap.size 82 #[.slice none 0 0, .slice none 0 0] (0, 0) _ rfl (Rr.put2 HF.out.2.res _ _) hu rfl (by kernel_rfl)) rfl ⟨fun L hL => (by rw [HF.out.1] at hL; cases hL), fun _ => rfl, bl_set (bl_set HF.out.2.bl (Nat.le_refl _) _) (Nat.le_refl _) _⟩
        · by_cases hdn : d = n
          · subst hdn
            have hRn : R = none := by rw [r1, chainF_bad hs (.inr (.inr (Nat.sub_self _)))]; rfl
            have HF := Lib.hid (And.intro hRn r4)
            clear hrs hbx hq9 r1 r2 r3 r4 HI hb3 hRn ht
            go_wp2_with fail
            exact bodyPost_ret (res_ct (u := 5) rfl _ _ W.heap.size 82 #[.slice none 0 0, .slice none 0 0] (0, 0) _ rfl (Rr.put2 HF.out.2.res _ _) hu rfl (by kernel_rfl)) rfl ⟨fun L hL => (by rw [HF.out.1] at hL; cases hL), fun _ => rfl, bl_set (bl_set HF.out.2.bl (Nat.le_refl _) _) (Nat.le_refl _) _⟩
          · have hdn2 : ((d : Int) == (n : Int)) = false := by rw [beq_eq_false_iff_ne]; omega
            have hdn3 : d < n := by omega
            have HRN : Hid (R = (chainF n sl (n - (d + 1)) c).map ((done ++ [(s, a, b, c)]) ++ ·)) := by
              show _ = _
              obtain ⟨k, hk⟩ : ∃ k, n - d = k + 1 := ⟨n - d - 1, by omega⟩
              rw [r1, hk, chainF_step hs ht hab, show n - (d + 1) = k from by omega]
              cases chainF n sl k c <;> simp
            have HR4 := Lib.hid r4
            have HQ9 := Lib.hid hq9
            have HLEN : Hid (done.length = d) := r4.len
            have HBQ : Hid (∀ k, (Value.slice B d c2).ownBlock = some k → k ≠ w2.heap.size) := fun k hk => by
              obtain ⟨cur, hc⟩ := Bm.own_blk' r3.tris hk
              exact Nat.ne_of_lt (lt_of hc)
            have HLW : Hid (wr.cell? ⟨W.heap.size + 1, 0, none⟩ = some (.slice A d c1)) := cell_of r2.box 0
            have HNEQ : Hid (W.heap.size + 1 ≠ w2.heap.size) := Nat.ne_of_lt (lt_of r3.box)
            have HS0 : Hid (w3.drew.cell? ⟨w2.heap.size, 0, none⟩ = some (.int .i64 a) ∧ w3.drew.cell? ⟨w2.heap.size, 1, none⟩ = some (.int .i64 b) ∧ w3.drew.cell? ⟨w2.heap.size, 2, none⟩ = some (.int .i64 c) ∧ Lt w2.heap.size w3.drew) := t9_blk (w := w3.drew) hq9
            have ltb := lt_of hbx
            clear hrs hbx hq9 r1 r2 r3 r4 HI hb3 ht m0 m1 f0 f1
            go_wp2_with fail
            refine Wc.region_till (S0 := fun w' => w'.cell? ⟨w2.heap.size, 0, none⟩ = some (.int .i64 a) ∧ w'.cell? ⟨w2.heap.size, 1, none⟩ = some (.int .i64 b) ∧ w'.cell? ⟨w2.heap.size, 2, none⟩ = some (.int .i64 c) ∧ Lt w2.heap.size w') (S1 := fun w' => w'.cell? ⟨W.heap.size + 1, 0, none⟩ = some (.slice A d c1) ∧ w'.cell? ⟨W.heap.size + 1, 1, none⟩ = some (.slice B d c2)) (E := fun j => [1, 3, 4, 6, 8, 9].contains j) (by kernel_rfl) ?_
            change Wc.Till _ _ _ _ _ _ _ _ _ _ w3.drew
            refine Wc.till_take0 (i := 0) rfl rfl (by kernel_rfl) (by kernel_rfl) (by kernel_rfl) (fun _ _ _ h => h) (.inl ⟨rfl, fun w' _ => rfl⟩) HS0.out ?_
            refine Wc.till_take0 (i := 2) rfl rfl (by kernel_rfl) (by kernel_rfl) (by kernel_rfl) (fun _ _ _ h => h) (.inl ⟨rfl, fun w' _ => rfl⟩) HS0.out ?_
            refine Wc.till_take0 (i := 5) rfl rfl (by kernel_rfl) (by kernel_rfl) (by kernel_rfl) (fun _ _ _ h => h) (.inl ⟨rfl, fun w' _ => rfl⟩) HS0.out ?_
            have HS1 : Hid (w3.drew.cell? ⟨W.heap.size + 1, 0, none⟩ = some (.slice A d c1) ∧ w3.drew.cell? ⟨W.heap.size + 1, 1, none⟩ = some (.slice B d c2)) := ⟨l0, l1⟩
            refine Wc.till_take0 (i := 7) (v := .agg #[.int .i64 a, .int .i64 b, .int .i64 c]) rfl rfl (by kernel_rfl) (by kernel_rfl) (by kernel_rfl) (fun _ _ _ h => h) (.inl ⟨rfl, fun w' h => by obtain ⟨e0, e1, e2, -⟩ := h; go_simp⟩) HS0.out ?_
            refine Wc.till_take (i := 1) (v := .slice A d c1) rfl (by kernel_rfl) (by kernel_rfl) (by kernel_rfl) (by kernel_rfl) (fun _ _ _ h => h) (.inl ⟨rfl, fun w' h => by obtain ⟨-, e1, e2⟩ := h; go_simp⟩) HS0.out HS1.out ?_
            refine Wc.till_take (i := 6) (v := .slice B d c2) rfl (by kernel_rfl) (by kernel_rfl) (by kernel_rfl) (by kernel_rfl) (fun _ _ _ h => h) (.inl ⟨rfl, fun w' h => by obtain ⟨-, e1, e2⟩ := h; go_simp⟩) HS0.out HS1.out ?_
            refine Wc.till_all (rs := [3, 8]) (by kernel_rfl) (by simp) ?_
            intro i hi
            simp only [List.mem_cons, List.not_mem_nil, or_false] at hi
            have HR5 : Hid (Rd W w1 w3.drew 0 A B c1 c2 d done) := HR4.out.keep (bl_drew (Below.refl _ _))
            have HQ5 : Hid (w3.drew.heap[w2.heap.size]? = some (.cells #[.int .i64 a, .int .i64 b, .int .i64 c] 51 (0, 0))) := HQ9.out
            generalize w3.drew = X0 at *
            rcases hi with rfl | rfl
            · refine wpOp_step rfl (fun K' hK => ?_)
              rw [if_pos (show Region.wanted _ _ = true from rfl)]
              go_simp
              have HR6 := Lib.hid (HR5.out.keep (bl_alloc (Below.refl _ _) (.cells #[.int .i64 s] 3)))
              have HQ6 := Lib.hid (alloc_old HQ5.out (.cells #[.int .i64 s] 3))
              have HP6 := Lib.hid (alloc_new X0 (.cells #[.int .i64 s] 3))
              refine hK _ _ ⟨⟨t9_blk HQ6.out, fun _ => ⟨cell_of HR6.out.box 0, cell_of HR6.out.box 1⟩⟩, ?_⟩
              refine Wc.till_all (rs := [4, 8]) (by kernel_rfl) (by simp) ?_
              intro i hi
              simp only [List.mem_cons, List.not_mem_nil, or_false] at hi
              rcases hi with rfl | rfl
              · refine wpOp_step rfl (fun K' hK => ?_)
                refine step_append_lies _ (by rfl) _ _ _ (by rfl) w1.heap.size 3 z1 (.int .i64 0) 1 8 Tryz.underlying79 hi1 hz10 hz11 hz12 rfl (by decide) (.slice A d c1) d (ivs .i64 (done.map Prod.fst)) (by rfl) HR6.out.ints ⟨X0.heap.size, 0, none⟩ 1 1 [.int .i64 s] (by rfl) (by rfl) (World.news_of_block (cs := #[.int .i64 s]) (t := 3) (fr := (0, 0)) HP6.out) (by simp [Value.oneCell']) (by decide) (by unfold maxLen; omega) (by omega) HR6.out.lt _ rfl ?_
                intro p1 cap1 w7 hown7 hgrow7 _ _
                obtain ⟨hm7, hk7⟩ := midA HR6.out HZ1.out hown7 hgrow7
                have HN7 := Lib.hid hm7
                have HQ7 := Lib.hid (hk7 HQ6.out (by decide))
                clear hm7 hk7 hown7 hgrow7
                refine hK _ _ ⟨⟨t9_blk HQ7.out, fun _ => ⟨cell_of HN7.out.box 0, cell_of HN7.out.box 1⟩⟩, ?_⟩
                refine Wc.till_take0 (i := 10) rfl rfl (by kernel_rfl) (by kernel_rfl) (by kernel_rfl) (fun _ _ _ h => h) (.inl ⟨rfl, fun w' _ => rfl⟩) (t9_blk HQ7.out) ?_
                refine Wc.till_all (rs := [8]) (by kernel_rfl) (by simp) ?_
                intro i hi
                simp only [List.mem_cons, List.not_mem_nil, or_false] at hi
                subst hi
                refine wpOp_step rfl (fun K' hK => ?_)
                rw [if_pos (show Region.wanted _ _ = true from rfl)]
                go_simp
                have HN8 := Lib.hid (HN7.out.keep (bl_alloc (Below.refl _ _) (.cells #[.int .i64 a, .int .i64 b, .int .i64 c] 51)))
                have HQ8 := Lib.hid (alloc_old HQ7.out (.cells #[.int .i64 a, .int .i64 b, .int .i64 c] 51))
                have HP8 := Lib.hid (alloc_new w7 (.cells #[.int .i64 a, .int .i64 b, .int .i64 c] 51))
                refine hK _ _ ⟨⟨t9_blk HQ8.out, fun _ => ⟨cell_of HN8.out.box 0, cell_of HN8.out.box 1⟩⟩, ?_⟩
                clear HN7 HQ7 HR6 HQ6 HP6
                generalize w7.alloc (.cells #[.int .i64 a, .int .i64 b, .int .i64 c] 51) = w8 at *
                generalize w7.heap.size = p8 at *
                refine Wc.till_all (rs := [9]) (by kernel_rfl) (by simp) ?_
                intro i hi
                simp only [List.mem_cons, List.not_mem_nil, or_false] at hi
                subst hi
                refine wpOp_step rfl (fun K' hK => ?_)
                refine step_append_lies _ (by rfl) _ _ _ (by rfl) w1.heap.size 51 z3 (.agg #[.int .i64 0, .int .i64 0, .int .i64 0]) 3 24 Tryz.underlying80 hi3 hz30 hz31 hz32 rfl (by decide) (.slice B d c2) d (tvs (done.map Prod.snd)) (by rfl) HN8.out.tris ⟨p8, 0, none⟩ 1 1 [.int .i64 a, .int .i64 b, .int .i64 c] (by rfl) (by rfl) (World.news_of_block (cs := #[.int .i64 a, .int .i64 b, .int .i64 c]) (t := 51) (fr := (0, 0)) HP8.out) (by simp [Value.oneCell']) (by decide) (by unfold maxLen; omega) (by omega) HN8.out.lt _ rfl ?_
                intro p2 cap2 w9 hown9 hgrow9 _ _
                have hf9 := finB HN8.out HLEN.out HZ1.out hown9 hgrow9
                have HF9 := Lib.hid hf9.2
                have HQ9b := Lib.hid (grown_blk hgrow9 HQ8.out (fun e => HBQ.out _ e rfl))
                have j0 := cell_of hf9.1 0
                have j1 := cell_of hf9.1 1
                have s0 := free_of hf9.1 0
                have s1 := free_of hf9.1 1
                clear hf9 hown9 hgrow9
                refine hK _ _ ⟨⟨t9_blk HQ9b.out, fun _ => ⟨j0, j1⟩⟩, ?_⟩
                refine Wc.till_all (rs := [11]) (by kernel_rfl) (by simp) ?_
                intro i hi
                simp only [List.mem_cons, List.not_mem_nil, or_false] at hi
                subst hi
                refine wpOp_step rfl (fun K' hK => ?_)
                rw [if_pos (show Region.wanted _ _ = true from rfl)]
                go_simp
                have HT0 := Lib.hid (t9_set (v := .slice (some ⟨p1, 0, none⟩) (d + 1) cap1) (o := 0) HNEQ.out (t9_blk HQ9b.out))
                refine hK _ _ ⟨⟨HT0.out, fun h => (by cases h)⟩, ?_⟩
                refine Wc.till_take0 (i := 12) rfl rfl (by kernel_rfl) (by kernel_rfl) (by kernel_rfl) (fun _ _ _ h => h) (.inl ⟨rfl, fun w' _ => rfl⟩) HT0.out ?_
                refine Wc.till_all (rs := [13]) (by kernel_rfl) (by simp) ?_
                intro i hi
                simp only [List.mem_cons, List.not_mem_nil, or_false] at hi
                subst hi
                refine wpOp_step rfl (fun K' hK => ?_)
                rw [if_pos (show Region.wanted _ _ = true from rfl)]
                go_simp
                have HT1 := Lib.hid (t9_set (v := .slice (some ⟨p2, 0, none⟩) (d + 1) cap2) (o := 1) HNEQ.out HT0.out)
                refine hK _ _ ⟨⟨HT1.out, fun h => (by cases h)⟩, ?_⟩
                refine Wc.till_done (by kernel_rfl) ?_ _
                obtain ⟨i0, i1, i2, -⟩ := HT1.out
                have HLN : Hid (lenAt wr (W.heap.size + 1) = d ∧ lenAt ((w9.setCell ⟨W.heap.size + 1, 0, none⟩ (.slice (some ⟨p1, 0, none⟩) (d + 1) cap1)).setCell ⟨W.heap.size + 1, 1, none⟩ (.slice (some ⟨p2, 0, none⟩) (d + 1) cap2)) (W.heap.size + 1) = d + 1) := ⟨lenAt_is HLW.out, lenAt_is (cell_of HF9.out.box 0)⟩
                clear j0 j1 s0 s1
                go_wp2_with fail
                go_roundw
                case rel => exact ⟨c, d + 1, _, _, cap1, cap2, rfl, hdn3, done ++ [(s, a, b, c)], HRN.out, HF9.out⟩
                case measure =>
                  obtain ⟨q1, q2⟩ := HLN.out
                  have q2 : lenAt ((w9.setCell ⟨W.heap.size + 1, 0, none⟩ (.slice (some ⟨p1, 0, none⟩) (d + 1) cap1)).setCell ⟨W.heap.size + 1, 1, none⟩ (.slice (some ⟨p2, 0, none⟩) (d + 1) cap2)) (W.heap.size + 1) = d + 1 := q2
                  rw [q1, q2]
                  omega
              · refine wpOp_step rfl (fun K' hK => ?_)
                rw [if_pos (show Region.wanted _ _ = true from rfl)]
                go_simp
                have HR7 := Lib.hid (HR6.out.keep (bl_alloc (Below.refl _ _) (.cells #[.int .i64 a, .int .i64 b, .int .i64 c] 51)))
                have HQ7 := Lib.hid (alloc_old HQ6.out (.cells #[.int .i64 a, .int .i64 b, .int .i64 c] 51))
                have HP7 := Lib.hid (two_new X0 (.cells #[.int .i64 s] 3) (.cells #[.int .i64 a, .int .i64 b, .int .i64 c] 51))
                refine hK _ _ ⟨⟨t9_blk HQ7.out, fun _ => ⟨cell_of HR7.out.box 0, cell_of HR7.out.box 1⟩⟩, ?_⟩
                have HP6b := Lib.hid (alloc_old HP6.out (.cells #[.int .i64 a, .int .i64 b, .int .i64 c] 51))
                refine Wc.till_all (rs := [4]) (by kernel_rfl) (by simp) ?_
                intro i hi
                simp only [List.mem_cons, List.not_mem_nil, or_false] at hi
                subst hi
                refine wpOp_step rfl (fun K' hK => ?_)
                refine step_append_lies _ (by rfl) _ _ _ (by rfl) w1.heap.size 3 z1 (.int .i64 0) 1 8 Tryz.underlying79 hi1 hz10 hz11 hz12 rfl (by decide) (.slice A d c1) d (ivs .i64 (done.map Prod.fst)) (by rfl) HR7.out.ints ⟨X0.heap.size, 0, none⟩ 1 1 [.int .i64 s] (by rfl) (by rfl) (World.news_of_block (cs := #[.int .i64 s]) (t := 3) (fr := (0, 0)) HP6b.out) (by simp [Value.oneCell']) (by decide) (by unfold maxLen; omega) (by omega) HR7.out.lt _ rfl ?_
                intro p1 cap1 w7 hown7 hgrow7 _ _
                obtain ⟨hm7, hk7⟩ := midA HR7.out HZ1.out hown7 hgrow7
                have HN8 := Lib.hid hm7
                have HQ8 := Lib.hid (hk7 HQ7.out (by decide))
                have HP8 := Lib.hid (hk7 HP7.out (by decide))
                clear hm7 hk7 hown7 hgrow7
                refine hK _ _ ⟨⟨t9_blk HQ8.out, fun _ => ⟨cell_of HN8.out.box 0, cell_of HN8.out.box 1⟩⟩, ?_⟩
                clear HR6 HQ6 HP6 HR7 HQ7 HP6b HP7
                refine Wc.till_take0 (i := 10) rfl rfl (by kernel_rfl) (by kernel_rfl) (by kernel_rfl) (fun _ _ _ h => h) (.inl ⟨rfl, fun w' _ => rfl⟩) (t9_blk HQ8.out) ?_
                refine Wc.till_all (rs := [9]) (by kernel_rfl) (by simp) ?_
                intro i hi
                simp only [List.mem_cons, List.not_mem_nil, or_false] at hi
                subst hi
                refine wpOp_step rfl (fun K' hK => ?_)
                refine step_append_lies _ (by rfl) _ _ _ (by rfl) w1.heap.size 51 z3 (.agg #[.int .i64 0, .int .i64 0, .int .i64 0]) 3 24 Tryz.underlying80 hi3 hz30 hz31 hz32 rfl (by decide) (.slice B d c2) d (tvs (done.map Prod.snd)) (by rfl) HN8.out.tris ⟨X0.heap.size + 1, 0, none⟩ 1 1 [.int .i64 a, .int .i64 b, .int .i64 c] (by rfl) (by rfl) (World.news_of_block (cs := #[.int .i64 a, .int .i64 b, .int .i64 c]) (t := 51) (fr := (0, 0)) HP8.out) (by simp [Value.oneCell']) (by decide) (by unfold maxLen; omega) (by omega) HN8.out.lt _ rfl ?_
                intro p2 cap2 w9 hown9 hgrow9 _ _
                have hf9 := finB HN8.out HLEN.out HZ1.out hown9 hgrow9
                have HF9 := Lib.hid hf9.2
                have HQ9b := Lib.hid (grown_blk hgrow9 HQ8.out (fun e => HBQ.out _ e rfl))
                have j0 := cell_of hf9.1 0
                have j1 := cell_of hf9.1 1
                have s0 := free_of hf9.1 0
                have s1 := free_of hf9.1 1
                clear hf9 hown9 hgrow9
                refine hK _ _ ⟨⟨t9_blk HQ9b.out, fun _ => ⟨j0, j1⟩⟩, ?_⟩
                refine Wc.till_all (rs := [11]) (by kernel_rfl) (by simp) ?_
                intro i hi
                simp only [List.mem_cons, List.not_mem_nil, or_false] at hi
                subst hi
                refine wpOp_step rfl (fun K' hK => ?_)
                rw [if_pos (show Region.wanted _ _ = true from rfl)]
                go_simp
                have HT0 := Lib.hid (t9_set (v := .slice (some ⟨p1, 0, none⟩) (d + 1) cap1) (o := 0) HNEQ.out (t9_blk HQ9b.out))
                refine hK _ _ ⟨⟨HT0.out, fun h => (by cases h)⟩, ?_⟩
                refine Wc.till_take0 (i := 12) rfl rfl (by kernel_rfl) (by kernel_rfl) (by kernel_rfl) (fun _ _ _ h => h) (.inl ⟨rfl, fun w' _ => rfl⟩) HT0.out ?_
                refine Wc.till_all (rs := [13]) (by kernel_rfl) (by simp) ?_
                intro i hi
                simp only [List.mem_cons, List.not_mem_nil, or_false] at hi
                subst hi
                refine wpOp_step rfl (fun K' hK => ?_)
                rw [if_pos (show Region.wanted _ _ = true from rfl)]
                go_simp
                have HT1 := Lib.hid (t9_set (v := .slice (some ⟨p2, 0, none⟩) (d + 1) cap2) (o := 1) HNEQ.out HT0.out)
                refine hK _ _ ⟨⟨HT1.out, fun h => (by cases h)⟩, ?_⟩
                refine Wc.till_done (by kernel_rfl) ?_ _
                obtain ⟨i0, i1, i2, -⟩ := HT1.out
                have HLN : Hid (lenAt wr (W.heap.size + 1) = d ∧ lenAt ((w9.setCell ⟨W.heap.size + 1, 0, none⟩ (.slice (some ⟨p1, 0, none⟩) (d + 1) cap1)).setCell ⟨W.heap.size + 1, 1, none⟩ (.slice (some ⟨p2, 0, none⟩) (d + 1) cap2)) (W.heap.size + 1) = d + 1) := ⟨lenAt_is HLW.out, lenAt_is (cell_of HF9.out.box 0)⟩
                clear j0 j1 s0 s1
                go_wp2_with fail
                go_roundw
                case rel => exact ⟨c, d + 1, _, _, cap1, cap2, rfl, hdn3, done ++ [(s, a, b, c)], HRN.out, HF9.out⟩
                case measure =>
                  obtain ⟨q1, q2⟩ := HLN.out
                  have q2 : lenAt ((w9.setCell ⟨W.heap.size + 1, 0, none⟩ (.slice (some ⟨p1, 0, none⟩) (d + 1) cap1)).setCell ⟨W.heap.size + 1, 1, none⟩ (.slice (some ⟨p2, 0, none⟩) (d + 1) cap2)) (W.heap.size + 1) = d + 1 := q2
                  rw [q1, q2]
                  omega
            · refine wpOp_step rfl (fun K' hK => ?_)
              rw [if_pos (show Region.wanted _ _ = true from rfl)]
              go_simp
              have HR6 := Lib.hid (HR5.out.keep (bl_alloc (Below.refl _ _) (.cells #[.int .i64 a, .int .i64 b, .int .i64 c] 51)))
              have HQ6 := Lib.hid (alloc_old HQ5.out (.cells #[.int .i64 a, .int .i64 b, .int .i64 c] 51))
              have HP6 := Lib.hid (alloc_new X0 (.cells #[.int .i64 a, .int .i64 b, .int .i64 c] 51))
              refine hK _ _ ⟨⟨t9_blk HQ6.out, fun _ => ⟨cell_of HR6.out.box 0, cell_of HR6.out.box 1⟩⟩, ?_⟩
              refine Wc.till_all (rs := [3]) (by kernel_rfl) (by simp) ?_
              intro i hi
              simp only [List.mem_cons, List.not_mem_nil, or_false] at hi
              subst hi
              refine wpOp_step rfl (fun K' hK => ?_)
              rw [if_pos (show Region.wanted _ _ = true from rfl)]
              go_simp
              have HR7 := Lib.hid (HR6.out.keep (bl_alloc (Below.refl _ _) (.cells #[.int .i64 s] 3)))
              have HQ7 := Lib.hid (alloc_old HQ6.out (.cells #[.int .i64 s] 3))
              have HP7 := Lib.hid (two_new X0 (.cells #[.int .i64 a, .int .i64 b, .int .i64 c] 51) (.cells #[.int .i64 s] 3))
              refine hK _ _ ⟨⟨t9_blk HQ7.out, fun _ => ⟨cell_of HR7.out.box 0, cell_of HR7.out.box 1⟩⟩, ?_⟩
              have HP6b := Lib.hid (alloc_old HP6.out (.cells #[.int .i64 s] 3))
              refine Wc.till_all (rs := [4]) (by kernel_rfl) (by simp) ?_
              intro i hi
              simp only [List.mem_cons, List.not_mem_nil, or_false] at hi
              subst hi
              refine wpOp_step rfl (fun K' hK => ?_)
              refine step_append_lies _ (by rfl) _ _ _ (by rfl) w1.heap.size 3 z1 (.int .i64 0) 1 8 Tryz.underlying79 hi1 hz10 hz11 hz12 rfl (by decide) (.slice A d c1) d (ivs .i64 (done.map Prod.fst)) (by rfl) HR7.out.ints ⟨X0.heap.size + 1, 0, none⟩ 1 1 [.int .i64 s] (by rfl) (by rfl) (World.news_of_block (cs := #[.int .i64 s]) (t := 3) (fr := (0, 0)) HP7.out) (by simp [Value.oneCell']) (by decide) (by unfold maxLen; omega) (by omega) HR7.out.lt _ rfl ?_
              intro p1 cap1 w7 hown7 hgrow7 _ _
              obtain ⟨hm7, hk7⟩ := midA HR7.out HZ1.out hown7 hgrow7
              have HN8 := Lib.hid hm7
              have HQ8 := Lib.hid (hk7 HQ7.out (by decide))
              have HP8 := Lib.hid (hk7 HP6b.out (by decide))
              clear hm7 hk7 hown7 hgrow7
              refine hK _ _ ⟨⟨t9_blk HQ8.out, fun _ => ⟨cell_of HN8.out.box 0, cell_of HN8.out.box 1⟩⟩, ?_⟩
              clear HR6 HQ6 HP6 HR7 HQ7 HP6b HP7
              refine Wc.till_take0 (i := 10) rfl rfl (by kernel_rfl) (by kernel_rfl) (by kernel_rfl) (fun _ _ _ h => h) (.inl ⟨rfl, fun w' _ => rfl⟩) (t9_blk HQ8.out) ?_
              refine Wc.till_all (rs := [9]) (by kernel_rfl) (by simp) ?_
              intro i hi
              simp only [List.mem_cons, List.not_mem_nil, or_false] at hi
              subst hi
              refine wpOp_step rfl (fun K' hK => ?_)
              refine step_append_lies _ (by rfl) _ _ _ (by rfl) w1.heap.size 51 z3 (.agg #[.int .i64 0, .int .i64 0, .int .i64 0]) 3 24 Tryz.underlying80 hi3 hz30 hz31 hz32 rfl (by decide) (.slice B d c2) d (tvs (done.map Prod.snd)) (by rfl) HN8.out.tris ⟨X0.heap.size, 0, none⟩ 1 1 [.int .i64 a, .int .i64 b, .int .i64 c] (by rfl) (by rfl) (World.news_of_block (cs := #[.int .i64 a, .int .i64 b, .int .i64 c]) (t := 51) (fr := (0, 0)) HP8.out) (by simp [Value.oneCell']) (by decide) (by unfold maxLen; omega) (by omega) HN8.out.lt _ rfl ?_
              intro p2 cap2 w9 hown9 hgrow9 _ _
              have hf9 := finB HN8.out HLEN.out HZ1.out hown9 hgrow9
              have HF9 := Lib.hid hf9.2
              have HQ9b := Lib.hid (grown_blk hgrow9 HQ8.out (fun e => HBQ.out _ e rfl))
              have j0 := cell_of hf9.1 0
              have j1 := cell_of hf9.1 1
              have s0 := free_of hf9.1 0
              have s1 := free_of hf9.1 1
              clear hf9 hown9 hgrow9
              refine hK _ _ ⟨⟨t9_blk HQ9b.out, fun _ => ⟨j0, j1⟩⟩, ?_⟩
              refine Wc.till_all (rs := [11]) (by kernel_rfl) (by simp) ?_
              intro i hi
              simp only [List.mem_cons, List.not_mem_nil, or_false] at hi
              subst hi
              refine wpOp_step rfl (fun K' hK => ?_)
              rw [if_pos (show Region.wanted _ _ = true from rfl)]
              go_simp
              have HT0 := Lib.hid (t9_set (v := .slice (some ⟨p1, 0, none⟩) (d + 1) cap1) (o := 0) HNEQ.out (t9_blk HQ9b.out))
              refine hK _ _ ⟨⟨HT0.out, fun h => (by cases h)⟩, ?_⟩
              refine Wc.till_take0 (i := 12) rfl rfl (by kernel_rfl) (by kernel_rfl) (by kernel_rfl) (fun _ _ _ h => h) (.inl ⟨rfl, fun w' _ => rfl⟩) HT0.out ?_
              refine Wc.till_all (rs := [13]) (by kernel_rfl) (by simp) ?_
              intro i hi
              simp only [List.mem_cons, List.not_mem_nil, or_false] at hi
              subst hi
              refine wpOp_step rfl (fun K' hK => ?_)
              rw [if_pos (show Region.wanted _ _ = true from rfl)]
              go_simp
              have HT1 := Lib.hid (t9_set (v := .slice (some ⟨p2, 0, none⟩) (d + 1) cap2) (o := 1) HNEQ.out HT0.out)
              refine hK _ _ ⟨⟨HT1.out, fun h => (by cases h)⟩, ?_⟩
              refine Wc.till_done (by kernel_rfl) ?_ _
              obtain ⟨i0, i1, i2, -⟩ := HT1.out
              have HLN : Hid (lenAt wr (W.heap.size + 1) = d ∧ lenAt ((w9.setCell ⟨W.heap.size + 1, 0, none⟩ (.slice (some ⟨p1, 0, none⟩) (d + 1) cap1)).setCell ⟨W.heap.size + 1, 1, none⟩ (.slice (some ⟨p2, 0, none⟩) (d + 1) cap2)) (W.heap.size + 1) = d + 1) := ⟨lenAt_is HLW.out, lenAt_is (cell_of HF9.out.box 0)⟩
              clear j0 j1 s0 s1
              go_wp2_with fail
              go_roundw
              case rel => exact ⟨c, d + 1, _, _, cap1, cap2, rfl, hdn3, done ++ [(s, a, b, c)], HRN.out, HF9.out⟩
              case measure =>
                obtain ⟨q1, q2⟩ := HLN.out
                have q2 : lenAt ((w9.setCell ⟨W.heap.size + 1, 0, none⟩ (.slice (some ⟨p1, 0, none⟩) (d + 1) cap1)).setCell ⟨W.heap.size + 1, 1, none⟩ (.slice (some ⟨p2, 0, none⟩) (d + 1) cap2)) (W.heap.size + 1) = d + 1 := q2
                rw [q1, q2]
                omega

end Go.Proofs.YtgnagbbdnlmgeaaGreat.Tr
end

/- The laws' raw images opened in the sixteenth and seventeenth chapters (cantlelaw16.open, cantlelaw17.open). -/
section
set_option linter.unusedVariables false
set_option linter.unusedSimpArgs false
set_option maxHeartbeats 2000000
set_option maxRecDepth 100000
namespace Go.Proofs.YtgnagbbdnlmgeaaGreat.Ra
open Go Go.RowKit
open Go.Proofs.YtgnagbbdnlmgeaaGreat.Ob Go.Proofs.YtgnagbbdnlmgeaaGreat.Ba Go.Proofs.YtgnagbbdnlmgeaaGreat.Ko Go.Proofs.YtgnagbbdnlmgeaaGreat.Ge Go.Proofs.YtgnagbbdnlmgeaaGreat.Oc Go.Proofs.YtgnagbbdnlmgeaaGreat.Pk Go.Proofs.YtgnagbbdnlmgeaaGreat.Su Go.Proofs.YtgnagbbdnlmgeaaGreat.Rf Go.Proofs.YtgnagbbdnlmgeaaGreat.Dv Go.Proofs.YtgnagbbdnlmgeaaGreat.Vo

theorem open16_ (r0 r1 r2 : Nat) (h0 : r0 < 256) (h1 : r1 < 256) (h2 : r2 < 256) {A : Option Addr} {l : List Int} (c : Nat) {w : World} (h : Rk .u64 w A l) (hl9 : l.length ≤ 9223372036854775807) (n m s T : Nat) (hn : n = gB r0) (hm : m = gB r1) (hs : s = gS r2) (hT : (T : Int) = tot n m s) :
    Calls Tryz.prog 33 #[.agg #[.int .u8 r0, .int .u8 r1, .int .u8 r2, .slice A l.length c]] w fun e w' => ∃ v b g vw, e = .returned (.tuple #[.pointer (some ⟨v, 0, none⟩), .agg (vcells n m s vw)]) ∧ Opn w w' v b n m s T (dws (ints (enc n m s)) l T) g vw := by
  have hu := Tryz.underlying30
  have hok : geoOk n m s = true := by rw [hn, hm, hs]; exact g_ok r0 r1 r2
  have htt := g_tot r0 r1 r2
  rw [← hn, ← hm, ← hs, ← hT] at htt
  have hn9 : n < 65536 := by have := gB_in r0; omega
  have hm9 : m < 65536 := by have := gB_in r1; omega
  have hs9 : s < 65536 := by have := gS_or r2; omega
  have hlen : (dws (ints (enc n m s)) l T).length = T := dws_length _ _ _ rfl (by omega)
  have htk : (dws (ints (enc n m s)) l T).take 8 = ints (enc n m s) := dws_take8 _ _ _ rfl
  have HDV : Hid (∀ {W : World}, Rk .u64 W A l → _) := fun {W} hW => device_ r0 r1 r2 h0 h1 h2 c (w := W) hW hl9 n m s T hn hm hs hT
  have HOP : Hid (∀ {W : World} {b : Nat} {g : Lay}, DevIs W b (Pm.devOf (dws (ints (enc n m s)) l T)) g → _) := fun {W} {b} {g} hD => open_ok hD n m s hok hn9 hm9 hs9 (by show ((dws (ints (enc n m s)) l T).length : Int) = _; rw [hlen, hT]) (by show 8 ≤ (dws (ints (enc n m s)) l T).length; rw [hlen]; omega) (fun i x hx => by
    refine devOf_load ?_
    have hi := (List.getElem?_eq_some_iff.1 hx).1
    have h8 : i < 8 := hi
    have h9 : ((dws (ints (enc n m s)) l T).take 8)[i]? = some (x : Int) := by rw [htk]; exact ints_get hx
    rw [List.getElem?_take, if_pos h8] at h9
    exact h9)
  have HV : Hid (∀ v, vcells n m s v = #[.int .i64 n, .int .i64 m, .int .i64 s, .int .i64 16, .int .i64 (16 + 8 * m), .int .i64 (bmAt n m), .int .i64 (bkAt n m), .int .i64 (tot n m s), v]) := fun _ => rfl
  have H := Lib.hid h
  generalize dws (ints (enc n m s)) l T = L at *
  generalize vcells n m s = vc at *
  obtain ⟨len, hle⟩ : ∃ len, len = l.length := ⟨_, rfl⟩
  rw [← hle] at HDV
  rw [← hle]
  clear h hl9 hn hm hs hT hok htt h0 h1 h2 hlen htk hle hn9 hm9 hs9
  generalize (16 + 8 * m : Int) = p2 at *
  generalize bmAt n m = p3 at *
  generalize bkAt n m = p4 at *
  generalize tot n m s = p5 at *
  go_enter Tryz.func33, Tryz.ntmps33
  go_wp2_with fail
  refine (HDV.out (H.out.below (bl_alloc (bl_alloc (Below.refl _ _) (.cells #[.int .u8 r0, .int .u8 r1, .int .u8 r2, .slice A len c] 24)) (.cells #[.int .i64 0, .int .i64 0, .int .i64 0, .int .i64 0, .int .i64 0, .int .i64 0, .int .i64 0, .int .i64 0, .slice none 0 0] 30)))).mono ?_
  rintro e w1 ⟨b, g, vw, rfl, hd1, hf1, ho1, ha1, hb1⟩
  obtain ⟨A8, c8, e8⟩ := own_slice ho1
  subst e8
  rw [HV.out]
  have hqz := alloc_new (w.alloc (.cells #[.int .u8 r0, .int .u8 r1, .int .u8 r2, .slice A len c] 24)) (.cells #[.int .i64 0, .int .i64 0, .int .i64 0, .int .i64 0, .int .i64 0, .int .i64 0, .int .i64 0, .int .i64 0, .slice none 0 0] 30)
  rw [World.size_alloc] at hqz
  have HZ1 := Lib.hid (blk_bl hqz hb1)
  have hsz := hb1.size
  simp only [World.size_alloc] at hsz hf1 ho1
  have HS1 : Hid (w.heap.size + 2 ≤ w1.heap.size) := hsz
  have HB1 := Lib.hid (bl_then (bl_alloc (bl_alloc (Below.refl _ _) _) _) hb1)
  have hbv : Below w1.heap.size w1 (w1.alloc (.cells #[.int .i64 n, .int .i64 m, .int .i64 s, .int .i64 16, .int .i64 p2, .int .i64 p3, .int .i64 p4, .int .i64 p5, .slice A8 T c8] 30)) := bl_alloc (Below.refl _ _) _
  have HOPN := Lib.hid (HOP.out (hd1.below hbv))
  have HALL := Lib.hid (And.intro hf1 (And.intro ho1 ha1))
  clear hqz hb1 hsz hf1 ho1 ha1 hbv hd1
  go_wp2_with (go_at_call 74; refine HOPN.out.mono ?_; rintro e w2 ⟨v, rfl, hv, hvol, hb2⟩; (have HVB := Lib.hid (blk_bl (alloc_new w1 (.cells #[.int .i64 n, .int .i64 m, .int .i64 s, .int .i64 16, .int .i64 p2, .int .i64 p3, .int .i64 p4, .int .i64 p5, .slice A8 T c8] 30)) hb2)); (have hb3 := bl_then (bl_alloc (Below.refl _ _) _) hb2); (have HZ2 := Lib.hid (blk_bl HZ1.out hb3)); (have HV2 := Lib.hid (And.intro hv hvol)); (have HB3 := Lib.hid hb3); clear hv hvol hb2 hb3)
  have hxv := HVB.out
  have hxz := HZ2.out
  have m0 := cell_of hxv 0
  have m1 := cell_of hxv 1
  have m2 := cell_of hxv 2
  have m3 := cell_of hxv 3
  have m4 := cell_of hxv 4
  have m5 := cell_of hxv 5
  have m6 := cell_of hxv 6
  have m7 := cell_of hxv 7
  have m8 := cell_of hxv 8
  have z0 := cell_of hxz 0
  have z1 := cell_of hxz 1
  have z2 := cell_of hxz 2
  have z3 := cell_of hxz 3
  have z4 := cell_of hxz 4
  have z5 := cell_of hxz 5
  have z6 := cell_of hxz 6
  have z7 := cell_of hxz 7
  have z8 := cell_of hxz 8
  have f0 := free_of hxz 0
  have f1 := free_of hxz 1
  have f2 := free_of hxz 2
  have f3 := free_of hxz 3
  have f4 := free_of hxz 4
  have f5 := free_of hxz 5
  have f6 := free_of hxz 6
  have f7 := free_of hxz 7
  have f8 := free_of hxz 8
  have hz2 : Hid (w.heap.size + 2 ≤ w2.heap.size) := Nat.le_trans HS1.out HB3.out.size
  clear hxv hxz
  go_region
  go_wp2
  have hp9 := put9 HZ2.out (.int .i64 n) (.int .i64 m) (.int .i64 s) (.int .i64 16) (.int .i64 p2) (.int .i64 p3) (.int .i64 p4) (.int .i64 p5) (.slice A8 T c8)
  have hb0 := bl_then HB1.out HB3.out
  have hb9 := bl_put9 hb0 (Nat.le_succ _) (.int .i64 n) (.int .i64 m) (.int .i64 s) (.int .i64 16) (.int .i64 p2) (.int .i64 p3) (.int .i64 p4) (.int .i64 p5) (.slice A8 T c8)
  have hsa := HS1.out
  have ho2 := own_bl HALL.out.2.1 HB3.out
  have ho9 := own_low9 ho2 (q := w.heap.size + 1) (by omega) (.int .i64 n) (.int .i64 m) (.int .i64 s) (.int .i64 16) (.int .i64 p2) (.int .i64 p3) (.int .i64 p4) (.int .i64 p5) (.slice A8 T c8)
  have hvlo : w1.heap.size + 1 ≤ v := by have := HV2.out.1; simpa using this
  refine bodyPost_ret (res_tc (u := 2) rfl _ _ (w.heap.size + 1) 30 _ (0, 0) _ rfl ((drew_heap _ _).trans hp9) hu rfl ?_) rfl ⟨v, b, g, .slice A8 T c8, by rw [HV.out]; rfl, ⟨?_, ?_, own_base (own_kp ho9 (fun _ _ _ => drew_heap _ _)) (by omega), HALL.out.2.2, by omega, bl_drew hb9⟩⟩
  · kernel_rfl
  · exact VolIs.keep HV2.out.2 ((drew_heap _ _).trans (put9_other (by omega))) (fun k hk => (drew_heap _ _).trans (put9_other (by have := HALL.out.1 k hk; omega)))
  · intro k hk
    have := HALL.out.1 k hk
    omega

theorem open17_ (r0 r1 r2 : Nat) (h0 : r0 < 256) (h1 : r1 < 256) (h2 : r2 < 256) {A : Option Addr} {l : List Int} (c : Nat) {w : World} (h : Rk .u64 w A l) (hl9 : l.length ≤ 9223372036854775807) (n m s T : Nat) (hn : n = gB r0) (hm : m = gB r1) (hs : s = gS r2) (hT : (T : Int) = tot n m s) :
    Calls Tryz.prog 49 #[.agg #[.int .u8 r0, .int .u8 r1, .int .u8 r2, .slice A l.length c]] w fun e w' => ∃ v b g vw, e = .returned (.tuple #[.pointer (some ⟨v, 0, none⟩), .agg (vcells n m s vw)]) ∧ Opn w w' v b n m s T (dws (ints (enc n m s)) l T) g vw := by
  have hu := Tryz.underlying30
  have hok : geoOk n m s = true := by rw [hn, hm, hs]; exact g_ok r0 r1 r2
  have htt := g_tot r0 r1 r2
  rw [← hn, ← hm, ← hs, ← hT] at htt
  have hn9 : n < 65536 := by have := gB_in r0; omega
  have hm9 : m < 65536 := by have := gB_in r1; omega
  have hs9 : s < 65536 := by have := gS_or r2; omega
  have hlen : (dws (ints (enc n m s)) l T).length = T := dws_length _ _ _ rfl (by omega)
  have htk : (dws (ints (enc n m s)) l T).take 8 = ints (enc n m s) := dws_take8 _ _ _ rfl
  have HDV : Hid (∀ {W : World}, Rk .u64 W A l → _) := fun {W} hW => device_ r0 r1 r2 h0 h1 h2 c (w := W) hW hl9 n m s T hn hm hs hT
  have HOP : Hid (∀ {W : World} {b : Nat} {g : Lay}, DevIs W b (Pm.devOf (dws (ints (enc n m s)) l T)) g → _) := fun {W} {b} {g} hD => open_ok hD n m s hok hn9 hm9 hs9 (by show ((dws (ints (enc n m s)) l T).length : Int) = _; rw [hlen, hT]) (by show 8 ≤ (dws (ints (enc n m s)) l T).length; rw [hlen]; omega) (fun i x hx => by
    refine devOf_load ?_
    have hi := (List.getElem?_eq_some_iff.1 hx).1
    have h8 : i < 8 := hi
    have h9 : ((dws (ints (enc n m s)) l T).take 8)[i]? = some (x : Int) := by rw [htk]; exact ints_get hx
    rw [List.getElem?_take, if_pos h8] at h9
    exact h9)
  have HV : Hid (∀ v, vcells n m s v = #[.int .i64 n, .int .i64 m, .int .i64 s, .int .i64 16, .int .i64 (16 + 8 * m), .int .i64 (bmAt n m), .int .i64 (bkAt n m), .int .i64 (tot n m s), v]) := fun _ => rfl
  have H := Lib.hid h
  generalize dws (ints (enc n m s)) l T = L at *
  generalize vcells n m s = vc at *
  obtain ⟨len, hle⟩ : ∃ len, len = l.length := ⟨_, rfl⟩
  rw [← hle] at HDV
  rw [← hle]
  clear h hl9 hn hm hs hT hok htt h0 h1 h2 hlen htk hle hn9 hm9 hs9
  generalize (16 + 8 * m : Int) = p2 at *
  generalize bmAt n m = p3 at *
  generalize bkAt n m = p4 at *
  generalize tot n m s = p5 at *
  go_enter Tryz.func49, Tryz.ntmps49
  go_wp2_with fail
  refine (HDV.out (H.out.below (bl_alloc (bl_alloc (Below.refl _ _) (.cells #[.int .u8 r0, .int .u8 r1, .int .u8 r2, .slice A len c] 24)) (.cells #[.int .i64 0, .int .i64 0, .int .i64 0, .int .i64 0, .int .i64 0, .int .i64 0, .int .i64 0, .int .i64 0, .slice none 0 0] 30)))).mono ?_
  rintro e w1 ⟨b, g, vw, rfl, hd1, hf1, ho1, ha1, hb1⟩
  obtain ⟨A8, c8, e8⟩ := own_slice ho1
  subst e8
  rw [HV.out]
  have hqz := alloc_new (w.alloc (.cells #[.int .u8 r0, .int .u8 r1, .int .u8 r2, .slice A len c] 24)) (.cells #[.int .i64 0, .int .i64 0, .int .i64 0, .int .i64 0, .int .i64 0, .int .i64 0, .int .i64 0, .int .i64 0, .slice none 0 0] 30)
  rw [World.size_alloc] at hqz
  have HZ1 := Lib.hid (blk_bl hqz hb1)
  have hsz := hb1.size
  simp only [World.size_alloc] at hsz hf1 ho1
  have HS1 : Hid (w.heap.size + 2 ≤ w1.heap.size) := hsz
  have HB1 := Lib.hid (bl_then (bl_alloc (bl_alloc (Below.refl _ _) _) _) hb1)
  have hbv : Below w1.heap.size w1 (w1.alloc (.cells #[.int .i64 n, .int .i64 m, .int .i64 s, .int .i64 16, .int .i64 p2, .int .i64 p3, .int .i64 p4, .int .i64 p5, .slice A8 T c8] 30)) := bl_alloc (Below.refl _ _) _
  have HOPN := Lib.hid (HOP.out (hd1.below hbv))
  have HALL := Lib.hid (And.intro hf1 (And.intro ho1 ha1))
  clear hqz hb1 hsz hf1 ho1 ha1 hbv hd1
  go_wp2_with (go_at_call 74; refine HOPN.out.mono ?_; rintro e w2 ⟨v, rfl, hv, hvol, hb2⟩; (have HVB := Lib.hid (blk_bl (alloc_new w1 (.cells #[.int .i64 n, .int .i64 m, .int .i64 s, .int .i64 16, .int .i64 p2, .int .i64 p3, .int .i64 p4, .int .i64 p5, .slice A8 T c8] 30)) hb2)); (have hb3 := bl_then (bl_alloc (Below.refl _ _) _) hb2); (have HZ2 := Lib.hid (blk_bl HZ1.out hb3)); (have HV2 := Lib.hid (And.intro hv hvol)); (have HB3 := Lib.hid hb3); clear hv hvol hb2 hb3)
  have hxv := HVB.out
  have hxz := HZ2.out
  have m0 := cell_of hxv 0
  have m1 := cell_of hxv 1
  have m2 := cell_of hxv 2
  have m3 := cell_of hxv 3
  have m4 := cell_of hxv 4
  have m5 := cell_of hxv 5
  have m6 := cell_of hxv 6
  have m7 := cell_of hxv 7
  have m8 := cell_of hxv 8
  have z0 := cell_of hxz 0
  have z1 := cell_of hxz 1
  have z2 := cell_of hxz 2
  have z3 := cell_of hxz 3
  have z4 := cell_of hxz 4
  have z5 := cell_of hxz 5
  have z6 := cell_of hxz 6
  have z7 := cell_of hxz 7
  have z8 := cell_of hxz 8
  have f0 := free_of hxz 0
  have f1 := free_of hxz 1
  have f2 := free_of hxz 2
  have f3 := free_of hxz 3
  have f4 := free_of hxz 4
  have f5 := free_of hxz 5
  have f6 := free_of hxz 6
  have f7 := free_of hxz 7
  have f8 := free_of hxz 8
  have hz2 : Hid (w.heap.size + 2 ≤ w2.heap.size) := Nat.le_trans HS1.out HB3.out.size
  clear hxv hxz
  go_region
  go_wp2
  have hp9 := put9 HZ2.out (.int .i64 n) (.int .i64 m) (.int .i64 s) (.int .i64 16) (.int .i64 p2) (.int .i64 p3) (.int .i64 p4) (.int .i64 p5) (.slice A8 T c8)
  have hb0 := bl_then HB1.out HB3.out
  have hb9 := bl_put9 hb0 (Nat.le_succ _) (.int .i64 n) (.int .i64 m) (.int .i64 s) (.int .i64 16) (.int .i64 p2) (.int .i64 p3) (.int .i64 p4) (.int .i64 p5) (.slice A8 T c8)
  have hsa := HS1.out
  have ho2 := own_bl HALL.out.2.1 HB3.out
  have ho9 := own_low9 ho2 (q := w.heap.size + 1) (by omega) (.int .i64 n) (.int .i64 m) (.int .i64 s) (.int .i64 16) (.int .i64 p2) (.int .i64 p3) (.int .i64 p4) (.int .i64 p5) (.slice A8 T c8)
  have hvlo : w1.heap.size + 1 ≤ v := by have := HV2.out.1; simpa using this
  refine bodyPost_ret (res_tc (u := 2) rfl _ _ (w.heap.size + 1) 30 _ (0, 0) _ rfl ((drew_heap _ _).trans hp9) hu rfl ?_) rfl ⟨v, b, g, .slice A8 T c8, by rw [HV.out]; rfl, ⟨?_, ?_, own_base (own_kp ho9 (fun _ _ _ => drew_heap _ _)) (by omega), HALL.out.2.2, by omega, bl_drew hb9⟩⟩
  · kernel_rfl
  · exact VolIs.keep HV2.out.2 ((drew_heap _ _).trans (put9_other (by omega))) (fun k hk => (drew_heap _ _).trans (put9_other (by have := HALL.out.1 k hk; omega)))
  · intro k hk
    have := HALL.out.1 k hk
    omega

end Go.Proofs.YtgnagbbdnlmgeaaGreat.Ra
end

/- The laws' raw images opened in the sixteenth and seventeenth chapters, in numbers. -/
section
set_option linter.unusedVariables false
set_option linter.unusedSimpArgs false
namespace Go.Proofs.YtgnagbbdnlmgeaaGreat.Ho
open Go Go.RowKit
open Go.Proofs.YtgnagbbdnlmgeaaGreat.Ob Go.Proofs.YtgnagbbdnlmgeaaGreat.Ba Go.Proofs.YtgnagbbdnlmgeaaGreat.Ko Go.Proofs.YtgnagbbdnlmgeaaGreat.Ge Go.Proofs.YtgnagbbdnlmgeaaGreat.Oc Go.Proofs.YtgnagbbdnlmgeaaGreat.Pk Go.Proofs.YtgnagbbdnlmgeaaGreat.Su Go.Proofs.YtgnagbbdnlmgeaaGreat.Rf Go.Proofs.YtgnagbbdnlmgeaaGreat.Dv Go.Proofs.YtgnagbbdnlmgeaaGreat.Vo Go.Proofs.YtgnagbbdnlmgeaaGreat.Ra Go.Proofs.YtgnagbbdnlmgeaaGreat.Jh

/-- the numbers of an image -/
structure Im (r0 r1 r2 : Nat) (l : List Nat) (n m s T p3 p4 p5 : Nat) (ws : List Nat) : Prop where
  n_is : n = gB r0
  m_is : m = gB r1
  s_is : s = gS r2
  n1 : 1 ≤ n
  n2 : n ≤ 20
  m1 : 1 ≤ m
  m2 : m ≤ 20
  s2 : s = 64 ∨ s = 128
  T1 : 40 ≤ T
  T2 : T ≤ 1000
  p3_is : (p3 : Int) = bmAt n m
  p4_is : (p4 : Int) = bkAt n m
  p5_is : (p5 : Int) = tot n m s
  T_is : (T : Int) = tot n m s
  len : ws.length = T
  lt : ∀ x ∈ ws, x < 18446744073709551616
  words : dws (ints (enc n m s)) (ints l) T = ints ws
  fit : 16 + 8 * m + n ≤ T
  fit3 : p3 + 1 ≤ T
  fit4 : ∀ i : Nat, i < n → p4 + i * (s / 8) + s / 8 ≤ T

theorem im_ (r0 r1 r2 : Nat) (l : List Nat) (hlw : ∀ x ∈ l, x < 18446744073709551616) : ∃ n m s T p3 p4 p5 ws, Im r0 r1 r2 l n m s T p3 p4 p5 ws := by
  obtain ⟨n, hn⟩ : ∃ n, n = gB r0 := ⟨_, rfl⟩
  obtain ⟨m, hm⟩ : ∃ m, m = gB r1 := ⟨_, rfl⟩
  obtain ⟨s, hs⟩ : ∃ s, s = gS r2 := ⟨_, rfl⟩
  have htt := g_tot r0 r1 r2
  rw [← hn, ← hm, ← hs] at htt
  obtain ⟨T, hT⟩ : ∃ T : Nat, (T : Int) = tot n m s := ⟨(tot n m s).toNat, by omega⟩
  have hT1 : 40 ≤ T ∧ T ≤ 1000 := by omega
  have hnn : 1 ≤ n ∧ n ≤ 20 := by have := gB_in r0; omega
  have hmm : 1 ≤ m ∧ m ≤ 20 := by have := gB_in r1; omega
  have hss : s = 64 ∨ s = 128 := by have := gS_or r2; omega
  obtain ⟨p3, hp3⟩ : ∃ p3 : Nat, (p3 : Int) = bmAt n m := ⟨(bmAt n m).toNat, by unfold bmAt up8; omega⟩
  obtain ⟨p4, hp4⟩ : ∃ p4 : Nat, (p4 : Int) = bkAt n m := ⟨(bkAt n m).toNat, by unfold bkAt up8; omega⟩
  have hfit : 16 + 8 * (m : Int) + n ≤ T ∧ p3 + 1 ≤ T ∧ ∀ i : Nat, i < n → p4 + i * (s / 8) + s / 8 ≤ T := by
    have e1 : up8 (((n : Int) + 63) / 64) = 8 := by rw [show ((n : Int) + 63) / 64 = 1 from by omega]; decide
    have e2 : tot n m s = bkAt n m + n * ((s : Int) / 8) := rfl
    have e3 : bkAt n m = bmAt n m + up8 (((n : Int) + 63) / 64) := rfl
    have e4 : bmAt n m = 16 + 8 * m + up8 n := rfl
    have e5 : (n : Int) ≤ up8 n := by unfold up8; omega
    have e6 : 0 ≤ (n : Int) * ((s : Int) / 8) := Int.mul_nonneg (by omega) (by omega)
    refine ⟨by omega, by omega, fun i hi => ?_⟩
    rcases hss with rfl | rfl
    · omega
    · omega
  obtain ⟨ws, hws, hwlt⟩ := dws_nat (enc n m s) l T (Su.enc_lt (by omega) (by omega) (by omega)) hlw
  have hLEN : ws.length = T := by
    have := dws_length (ints (enc n m s)) (ints l) T rfl (by omega)
    rw [hws, ints_length] at this
    exact this
  exact ⟨n, m, s, T, p3, p4, T, ws, hn, hm, hs, hnn.1, hnn.2, hmm.1, hmm.2, hss, hT1.1, hT1.2, hp3, hp4, hT, hT, hLEN, hwlt, hws, by omega, hfit.2.1, hfit.2.2⟩

/-- the document's volume, as a value -/
def volA (n m s p3 p4 p5 T : Nat) (a8 : Addr) (c8 : Nat) : Value := .agg #[.int .i64 n, .int .i64 m, .int .i64 s, .int .i64 16, .int .i64 (16 + 8 * (m : Int)), .int .i64 p3, .int .i64 p4, .int .i64 p5, .slice (some a8) T c8]

structure OpN (w W : World) (v b n m s T : Nat) (ws : List Nat) (g : Lay) (a8 : Addr) (c8 : Nat) : Prop where
  vol : VolIs W v b n m s (Pm.devOf (ints ws)) g
  foot : ∀ k ∈ g.foot b, w.heap.size ≤ k
  row : Rk .u64 W (some a8) (ints ws)
  cap : T ≤ c8
  lo : w.heap.size ≤ a8.block
  apart : a8.block ∉ g.foot b
  vlo : w.heap.size ≤ v
  below : Below w.heap.size w W

theorem opn_n {r0 r1 r2 : Nat} {l : List Nat} {n m s T p3 p4 p5 : Nat} {ws : List Nat} (hi : Im r0 r1 r2 l n m s T p3 p4 p5 ws) {w W : World} {v b : Nat} {g : Lay} {vw : Value} {e : Ending}
    (he : e = .returned (.tuple #[.pointer (some ⟨v, 0, none⟩), .agg (vcells n m s vw)])) (h : Opn w W v b n m s T (dws (ints (enc n m s)) (ints l) T) g vw) :
    ∃ v b g a8 c8, e = .returned (.tuple #[.pointer (some ⟨v, 0, none⟩), volA n m s p3 p4 p5 T a8 c8]) ∧ OpN w W v b n m s T ws g a8 c8 := by
  rw [hi.words] at h
  obtain ⟨A8, c8, e8⟩ := own_slice h.row
  subst e8
  obtain ⟨hr1, hr2, hr3⟩ := own_rk (k := .u64) h.row
  obtain ⟨u, hu9⟩ := some_at (l := ints ws) (i := 0) (by rw [ints_length, hi.len]; have := hi.T1; omega)
  obtain ⟨a8, rfl, -, -⟩ := hr1 0 u hu9
  refine ⟨v, b, g, a8, c8, ?_, h.vol, h.foot, hr1, hr3, own_lo h.row _ rfl, h.apart _ rfl, h.vlo, h.below⟩
  rw [he]
  have e1 : vcells n m s (.slice (some a8) T c8) = #[.int .i64 n, .int .i64 m, .int .i64 s, .int .i64 16, .int .i64 (16 + 8 * (m : Int)), .int .i64 (bmAt n m), .int .i64 (bkAt n m), .int .i64 (tot n m s), .slice (some a8) T c8] := rfl
  rw [e1, ← hi.p3_is, ← hi.p4_is, ← hi.p5_is]
  rfl

theorem open16N {r0 r1 r2 : Nat} (h0 : r0 < 256) (h1 : r1 < 256) (h2 : r2 < 256) {l : List Nat} {n m s T p3 p4 p5 : Nat} {ws : List Nat} (hi : Im r0 r1 r2 l n m s T p3 p4 p5 ws) {A : Option Addr} (c : Nat) (hl9 : l.length ≤ 9223372036854775807) {w : World} (h : Rk .u64 w A (ints l)) :
    Calls Tryz.prog 33 #[.agg #[.int .u8 r0, .int .u8 r1, .int .u8 r2, .slice A l.length c]] w fun e w' => ∃ v b g a8 c8, e = .returned (.tuple #[.pointer (some ⟨v, 0, none⟩), volA n m s p3 p4 p5 T a8 c8]) ∧ OpN w w' v b n m s T ws g a8 c8 := by
  have := open16_ r0 r1 r2 h0 h1 h2 c h (by rw [ints_length]; exact hl9) n m s T hi.n_is hi.m_is hi.s_is hi.T_is
  rw [ints_length] at this
  refine this.mono ?_
  rintro e w' ⟨v, b, g, vw, he, ho⟩
  exact opn_n hi he ho
theorem open17N {r0 r1 r2 : Nat} (h0 : r0 < 256) (h1 : r1 < 256) (h2 : r2 < 256) {l : List Nat} {n m s T p3 p4 p5 : Nat} {ws : List Nat} (hi : Im r0 r1 r2 l n m s T p3 p4 p5 ws) {A : Option Addr} (c : Nat) (hl9 : l.length ≤ 9223372036854775807) {w : World} (h : Rk .u64 w A (ints l)) :
    Calls Tryz.prog 49 #[.agg #[.int .u8 r0, .int .u8 r1, .int .u8 r2, .slice A l.length c]] w fun e w' => ∃ v b g a8 c8, e = .returned (.tuple #[.pointer (some ⟨v, 0, none⟩), volA n m s p3 p4 p5 T a8 c8]) ∧ OpN w w' v b n m s T ws g a8 c8 := by
  have := open17_ r0 r1 r2 h0 h1 h2 c h (by rw [ints_length]; exact hl9) n m s T hi.n_is hi.m_is hi.s_is hi.T_is
  rw [ints_length] at this
  refine this.mono ?_
  rintro e w' ⟨v, b, g, vw, he, ho⟩
  exact opn_n hi he ho

end Go.Proofs.YtgnagbbdnlmgeaaGreat.Ho
end
