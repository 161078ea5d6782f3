/- Parts of the proof, one behind the other: Ej. -/
import Derived.Test.YtgnagbbdnlmgeaaGreatC26

/- ClaimTwice: the walk. -/
section
set_option linter.unusedVariables false
set_option linter.unusedSimpArgs false
set_option maxHeartbeats 4000000
set_option maxRecDepth 100000
namespace Go.Proofs.YtgnagbbdnlmgeaaGreat.Cm
open Go Go.RowKit
open Go.Proofs.YtgnagbbdnlmgeaaGreat.Rr Go.Proofs.YtgnagbbdnlmgeaaGreat.Ob Go.Proofs.YtgnagbbdnlmgeaaGreat.Ba Go.Proofs.YtgnagbbdnlmgeaaGreat.Ko Go.Proofs.YtgnagbbdnlmgeaaGreat.Ge Go.Proofs.YtgnagbbdnlmgeaaGreat.Oc Go.Proofs.YtgnagbbdnlmgeaaGreat.Pk Go.Proofs.YtgnagbbdnlmgeaaGreat.Su Go.Proofs.YtgnagbbdnlmgeaaGreat.Rf Go.Proofs.YtgnagbbdnlmgeaaGreat.Dv Go.Proofs.YtgnagbbdnlmgeaaGreat.Vo Go.Proofs.YtgnagbbdnlmgeaaGreat.Ra Go.Proofs.YtgnagbbdnlmgeaaGreat.Jh Go.Proofs.YtgnagbbdnlmgeaaGreat.Tr Go.Proofs.YtgnagbbdnlmgeaaGreat.Iq Go.Proofs.YtgnagbbdnlmgeaaGreat.Bm Go.Proofs.YtgnagbbdnlmgeaaGreat.In Go.Proofs.YtgnagbbdnlmgeaaGreat.Je Go.Proofs.YtgnagbbdnlmgeaaGreat.Lo Go.Proofs.YtgnagbbdnlmgeaaGreat.Ho Go.Proofs.YtgnagbbdnlmgeaaGreat.Jd

theorem Vd.blk {W0 W : World} {v b : Nat} {g0 : Lay} {lim k : Nat} {ws : List Nat} {o : Obj} (h : Vd W0 W v b g0 lim ws) (hk : W0.heap[k]? = some o) (hn : k ∉ g0.foot b) : W.heap[k]? = some o := by
  obtain ⟨d, g, -, -, -, -, -, h6⟩ := h
  exact h6.blk hk hn

/-- the device and the two inodes' boxes -/
structure Tw (w W0 W : World) (v b : Nat) (g0 : Lay) (lim : Nat) (ws : List Nat) (q7 q8 : Nat) (hm z : Int) : Prop where
  vd : Vd W0 W v b g0 lim ws
  b7 : W0.heap[q7]? = some (.cells #[.int .i64 1, .int .i64 0, .int .i64 z] 42 (0, 0))
  b8 : W0.heap[q8]? = some (.cells #[.int .i64 1, .int .i64 hm, .int .i64 z] 42 (0, 0))
  n7 : q7 ∉ g0.foot b
  n8 : q8 ∉ g0.foot b
  foot : ∀ k ∈ g0.foot b, w.heap.size ≤ k
  below : Below w.heap.size w W0
theorem Tw.keep {w W0 W W' : World} {v b : Nat} {g0 : Lay} {lim lim' : Nat} {ws ws' : List Nat} {q7 q8 : Nat} {hm z : Int} (h : Tw w W0 W v b g0 lim ws q7 q8 hm z) (hv : Vd W0 W' v b g0 lim' ws') : Tw w W0 W' v b g0 lim' ws' q7 q8 hm z := ⟨hv, h.b7, h.b8, h.n7, h.n8, h.foot, h.below⟩
theorem Tw.cells {w W0 W : World} {v b : Nat} {g0 : Lay} {lim : Nat} {ws : List Nat} {q7 q8 : Nat} {hm z : Int} (h : Tw w W0 W v b g0 lim ws q7 q8 hm z) : W.cell? ⟨q7, 0, none⟩ = some (.int .i64 1) ∧ W.cell? ⟨q7, 1, none⟩ = some (.int .i64 0) ∧ W.cell? ⟨q7, 2, none⟩ = some (.int .i64 z) ∧
    W.cell? ⟨q8, 0, none⟩ = some (.int .i64 1) ∧ W.cell? ⟨q8, 1, none⟩ = some (.int .i64 hm) ∧ W.cell? ⟨q8, 2, none⟩ = some (.int .i64 z) ∧ W.frozen? ⟨q8, 1, none⟩ = false := by
  have h7 := h.vd.blk h.b7 h.n7
  have h8 := h.vd.blk h.b8 h.n8
  exact ⟨cell_of h7 0, cell_of h7 1, cell_of h7 2, cell_of h8 0, cell_of h8 1, cell_of h8 2, free_of h8 1⟩
theorem Tw.back {w W0 W : World} {v b : Nat} {g0 : Lay} {lim : Nat} {ws : List Nat} {q7 q8 : Nat} {hm z : Int} (h : Tw w W0 W v b g0 lim ws q7 q8 hm z) : Below w.heap.size w W := h.vd.back h.foot h.below h.below.size
/-- the second inode's head is set -/
theorem Tw.set {w W0 W : World} {v b : Nat} {g0 : Lay} {lim : Nat} {ws : List Nat} {q7 q8 : Nat} {hm z : Int} (h : Tw w W0 W v b g0 lim ws q7 q8 hm z) (hne : q7 ≠ q8) (hw : w.heap.size ≤ q8) (x : Int) :
    ∃ g, Tw w (W.setCell ⟨q8, 1, none⟩ (.int .i64 x)) (W.setCell ⟨q8, 1, none⟩ (.int .i64 x)) v b g lim ws q7 q8 x z := by
  have h7 := h.vd.blk h.b7 h.n7
  have h8 := h.vd.blk h.b8 h.n8
  obtain ⟨d, g, h1, h2, h3, h4, h5, h6⟩ := h.vd
  have k8 : q8 ∉ g.foot b := fun hm8 => by
    rcases h5 _ hm8 with h9 | h9
    · exact h.n8 h9
    · have := lt_of h.b8; omega
  have k7 : q7 ∉ g.foot b := fun hm7 => by
    rcases h5 _ hm7 with h9 | h9
    · exact h.n7 h9
    · have := lt_of h.b7; omega
  have hvq : v ≠ q8 := fun e => by
    have h9 := h1.blk
    rw [e, h8] at h9
    simp [volObj] at h9
  have hfo : ∀ k ∈ g.foot b, w.heap.size ≤ k := fun k hk => by
    rcases h5 k hk with h9 | h9
    · exact h.foot k h9
    · exact Nat.le_trans h.below.size h9
  have hbk : ∀ k, k ≠ q8 → (W.setCell ⟨q8, 1, none⟩ (.int .i64 x)).heap[k]? = W.heap[k]? := fun k hk => Below.heap_setCell W _ _ k hk
  refine ⟨g, ⟨d, g, h1.keep (hbk v hvq) (fun k hk => hbk k (fun e => k8 (e ▸ hk))), h2, h3, h4, fun q hq => .inl hq, Upd.refl _ _⟩, (hbk q7 hne).trans h7, ?_, k7, k8, hfo, h.back.setCell hw _⟩
  exact set_same h8 1 _

theorem iB_file {z h : Int} (hz : 1 ≤ z ∧ z ≤ 64) (hh : h = 0 ∨ h = 1) : iB 1 h z = true := by
  unfold iB
  exact decide_eq_true (by unfold iAll iOk; rcases hh with rfl | rfl <;> omega)

theorem twice (size : Nat) (hsz : size < 256) (both : Bool) (w : World) :
    Calls Tryz.prog 8 #[.int .u8 size, .bool both] w fun e w' => e = .returned (.bool true) ∧ Below w.heap.size w w' := by
  have hu := Tryz.underlying30
  have hu2 := Tryz.underlying42
  obtain ⟨n, m, s, T, p3, p4, p5, ws, hi⟩ := im_ 4 2 0 [] (by simp)
  obtain ⟨rfl, rfl, rfl, rfl, hzs⟩ := zero_im hi
  have HO : Hid (∀ {W : World}, _) := fun {W} => open17N (by decide) (by decide) (by decide) hi (A := none) 0 (by decide) (w := W) (Rk.nil _ _ _)
  have HZ := Lib.hid hzs
  clear hi hzs
  go_enter Tryz.func8, Tryz.ntmps8
  go_wp2_with fail
  refine (lives17 _).mono ?_
  rintro e w0 ⟨rfl, hb0⟩
  have HB0 := Lib.hid hb0
  clear hb0
  go_wp2_with fail
  refine (zero_ _).mono ?_
  rintro e w1 ⟨rfl, hb1⟩
  have HB1 := Lib.hid (bl_then HB0.out hb1)
  clear hb1
  go_wp2_with fail
  refine HO.out.mono ?_
  rintro e w2 ⟨v, b, g, a8, c8, rfl, hop⟩
  unfold volA
  have hV2 := hop.vol.below (bl_alloc (Below.refl _ _) (.cells #[.int .i64 5, .int .i64 3, .int .i64 64, .int .i64 16, .int .i64 40, .int .i64 p3, .int .i64 p4, .int .i64 p5, .slice (some a8) 96 c8] 30))
  have hB2 : Below w.heap.size w (w2.alloc (.cells #[.int .i64 5, .int .i64 3, .int .i64 64, .int .i64 16, .int .i64 40, .int .i64 p3, .int .i64 p4, .int .i64 p5, .slice (some a8) 96 c8] 30)) := bl_alloc (bl_then HB1.out hop.below) _
  have hFT : ∀ k ∈ g.foot b, w.heap.size ≤ k ∧ k < w2.heap.size := fun k hk => ⟨Nat.le_trans HB1.out.size (hop.foot k hk), hop.vol.dev.lt k hk⟩
  have HV2 := Lib.hid (And.intro hV2 (And.intro hB2 hFT))
  clear hop hV2 hB2 hFT
  cases both with
  | true =>
    go_wp2_with fail
    have hz : (1 : Int) ≤ 1 + (size : Int) % 64 ∧ 1 + (size : Int) % 64 ≤ 64 := by omega
    obtain ⟨z, hzz⟩ : ∃ z : Int, z = 1 + (size : Int) % 64 := ⟨_, rfl⟩
    rw [← hzz] at hz
    have HT : Hid (Tw w (((w2.alloc (.cells #[.int .i64 5, .int .i64 3, .int .i64 64, .int .i64 16, .int .i64 40, .int .i64 p3, .int .i64 p4, .int .i64 p5, .slice (some a8) 96 c8] 30)).alloc (.cells #[.int .i64 1, .int .i64 0, .int .i64 z] 42)).alloc (.cells #[.int .i64 1, .int .i64 0, .int .i64 z] 42)) (((w2.alloc (.cells #[.int .i64 5, .int .i64 3, .int .i64 64, .int .i64 16, .int .i64 40, .int .i64 p3, .int .i64 p4, .int .i64 p5, .slice (some a8) 96 c8] 30)).alloc (.cells #[.int .i64 1, .int .i64 0, .int .i64 z] 42)).alloc (.cells #[.int .i64 1, .int .i64 0, .int .i64 z] 42)) v b g 0 ws (w2.heap.size + 1) (w2.heap.size + 1 + 1) 0 z) := by
      have hb : Below (w2.alloc (.cells #[.int .i64 5, .int .i64 3, .int .i64 64, .int .i64 16, .int .i64 40, .int .i64 p3, .int .i64 p4, .int .i64 p5, .slice (some a8) 96 c8] 30)).heap.size (w2.alloc (.cells #[.int .i64 5, .int .i64 3, .int .i64 64, .int .i64 16, .int .i64 40, .int .i64 p3, .int .i64 p4, .int .i64 p5, .slice (some a8) 96 c8] 30)) (((w2.alloc (.cells #[.int .i64 5, .int .i64 3, .int .i64 64, .int .i64 16, .int .i64 40, .int .i64 p3, .int .i64 p4, .int .i64 p5, .slice (some a8) 96 c8] 30)).alloc (.cells #[.int .i64 1, .int .i64 0, .int .i64 z] 42)).alloc (.cells #[.int .i64 1, .int .i64 0, .int .i64 z] 42)) := bl_alloc (bl_alloc (Below.refl _ _) _) _
      have e1 : (w2.alloc (.cells #[.int .i64 5, .int .i64 3, .int .i64 64, .int .i64 16, .int .i64 40, .int .i64 p3, .int .i64 p4, .int .i64 p5, .slice (some a8) 96 c8] 30)).heap.size = w2.heap.size + 1 := World.size_alloc _ _
      have h7 := alloc_old (alloc_new (w2.alloc (.cells #[.int .i64 5, .int .i64 3, .int .i64 64, .int .i64 16, .int .i64 40, .int .i64 p3, .int .i64 p4, .int .i64 p5, .slice (some a8) 96 c8] 30)) (.cells #[.int .i64 1, .int .i64 0, .int .i64 z] 42)) (.cells #[.int .i64 1, .int .i64 0, .int .i64 z] 42)
      have h8 := Je.two_new (w2.alloc (.cells #[.int .i64 5, .int .i64 3, .int .i64 64, .int .i64 16, .int .i64 40, .int .i64 p3, .int .i64 p4, .int .i64 p5, .slice (some a8) 96 c8] 30)) (.cells #[.int .i64 1, .int .i64 0, .int .i64 z] 42) (.cells #[.int .i64 1, .int .i64 0, .int .i64 z] 42)
      rw [e1] at h7 h8
      exact ⟨⟨_, g, HV2.out.1.below hb, Vs.words_devOf _, rfl, Nat.le_refl 0, fun q hq => .inl hq, Upd.refl _ _⟩, h7, h8, fun hm7 => (by have := HV2.out.2.2 _ hm7; omega), fun hm8 => (by have := HV2.out.2.2 _ hm8; omega), fun k hk => (HV2.out.2.2 k hk).1, bl_then HV2.out.2.1 hb⟩
    have HQ : Hid (w.heap.size ≤ w2.heap.size + 1 + 1) := by have := HV2.out.2.1.size; rw [World.size_alloc] at this; show _ ≤ _; omega
    have HZ0 := Lib.hid HZ.out
    have HZZ := Lib.hid hz
    rw [← hzz]
    clear hzz
    have hI0 := iB_file hz (.inl rfl)
    have hI1 : iB 1 0 z = true := iB_file hz (.inl rfl)
    have HI := Lib.hid (And.intro hI0 (And.intro hI1 (iB_file hz (.inr rfl))))
    generalize ((w2.alloc (.cells #[.int .i64 5, .int .i64 3, .int .i64 64, .int .i64 16, .int .i64 40, .int .i64 p3, .int .i64 p4, .int .i64 p5, .slice (some a8) 96 c8] 30)).alloc (.cells #[.int .i64 1, .int .i64 0, .int .i64 z] 42)).alloc (.cells #[.int .i64 1, .int .i64 0, .int .i64 z] 42) = X8 at *
    generalize w2.heap.size + 1 = q7 at *
    clear hz hI0 hI1
    refine (show Calls _ _ #[_, .int .i64 0, _] _ _ from vd_inode HT.out.vd HZ0.out.len (by decide) 0 (.inl rfl) 1 0 z HI.out.1).mono ?_
    rintro e w3 ⟨rfl, hv3⟩
    have HT3 := Lib.hid (HT.out.keep hv3)
    have HZ3 := Lib.hid (HZ0.out.inode0 1 0 z HI.out.1)
    obtain ⟨a0, a1, a2, a3, a4, a5, -⟩ := HT3.out.cells
    clear hv3
    go_wp2_with fail
    refine (show Calls _ _ #[_, .int .i64 1, _] _ _ from vd_inode HT3.out.vd HZ3.out.len (by decide) 1 (.inr rfl) 1 0 z HI.out.2.1).mono ?_
    rintro e w4 ⟨rfl, hv4⟩
    have HT4 := Lib.hid (HT3.out.keep hv4)
    have HZ4 := Lib.hid (HZ3.out.inode1 1 0 z HI.out.2.1)
    clear hv4 a0 a1 a2 a3 a4 a5
    go_wp2_with fail
    refine (stretch_ 0 _).mono ?_
    rintro e w5 ⟨rfl, hb5⟩
    have HT5 := Lib.hid (HT4.out.keep (HT4.out.vd.below hb5))
    clear hb5
    go_wp2_with fail
    refine (show Calls _ _ #[_, .int .i64 0, _] _ _ from vd_slot HT5.out.vd HZ4.out.len (by decide) 0 (.inl rfl) 0 1 (-1) (by decide)).mono ?_
    rintro e w6 ⟨rfl, hv6⟩
    have HT6 := Lib.hid (HT5.out.keep hv6)
    have HZ6 := Lib.hid (HZ4.out.slot0 0 1 (-1) (by decide))
    clear hv6
    go_wp2_with fail
    refine (stretch_ 0 _).mono ?_
    rintro e w7 ⟨rfl, hb7⟩
    have HT7 := Lib.hid (HT6.out.keep (HT6.out.vd.below hb7))
    clear hb7
    go_wp2_with fail
    refine (show Calls _ _ #[_, .int .i64 1, _] _ _ from vd_slot HT7.out.vd HZ6.out.len (by decide) 1 (.inr rfl) 0 1 (-1) (by decide)).mono ?_
    rintro e w8 ⟨rfl, hv8⟩
    have HT8 := Lib.hid (HT7.out.keep hv8)
    have HZ8 := Lib.hid (HZ6.out.slot1 0 1 (-1) (by decide))
    clear hv8
    go_wp2_with fail
    refine (vd_scan HT8.out.vd HZ8.out.len HZ8.out.lt).mono ?_
    rintro e w9 ⟨-, hno, hb9⟩
    obtain rfl := hno (scan_twice HZZ.out HZ8.out (.inl rfl))
    have HT9 := Lib.hid (HT8.out.keep (HT8.out.vd.below hb9))
    obtain ⟨a0, a1, a2, a3, a4, a5, f0⟩ := HT9.out.cells
    clear hno hb9
    obtain ⟨gn, hT10⟩ := HT9.out.set (by omega) HQ.out 1
    have HT10 := Lib.hid hT10
    clear hT10
    go_wp2_with fail
    clear a0 a1 a2 a3 a4 a5 f0
    refine (show Calls _ _ #[_, .int .i64 1, _] _ _ from vd_inode HT10.out.vd HZ8.out.len (by decide) 1 (.inr rfl) 1 1 z HI.out.2.2).mono ?_
    rintro e w11 ⟨rfl, hv11⟩
    have HT11 := Lib.hid (HT10.out.keep hv11)
    have HZ11 := Lib.hid (HZ8.out.inode1 1 1 z HI.out.2.2)
    clear hv11
    go_wp2_with fail
    refine (stretch_ 1 _).mono ?_
    rintro e w12 ⟨rfl, hb12⟩
    have HT12 := Lib.hid (HT11.out.keep (HT11.out.vd.below hb12))
    clear hb12
    go_wp2_with fail
    refine (show Calls _ _ #[_, .int .i64 1, _] _ _ from vd_slot HT12.out.vd HZ11.out.len (by decide) 1 (.inr rfl) 1 1 (-1) (by decide)).mono ?_
    rintro e w13 ⟨rfl, hv13⟩
    have HT13 := Lib.hid (HT12.out.keep hv13)
    have HZ13 := Lib.hid (HZ11.out.slot1 1 1 (-1) (by decide))
    clear hv13
    go_wp2_with fail
    refine (vd_scan HT13.out.vd HZ13.out.len HZ13.out.lt).mono ?_
    rintro e w14 ⟨hso, -, hb14⟩
    obtain ⟨ds, hds, -⟩ := scan_once HZZ.out HZ13.out
    obtain ⟨qc, b1, b2, g1, g2, cc1, cc2, es, LA, lc, rfl, hcl, -⟩ := hso _ hds
    have HC14 := Lib.hid hcl
    have HB14 : Hid (Below w.heap.size w w14) := (HT13.out.keep (HT13.out.vd.below hb14)).back
    clear hso hds hb14 hcl
    go_wp2_with (first | (go_at_call 54; refine (cblocks_ HC14.out).mono ?_; rintro e w15 ⟨b', A', c', rfl, hm15, hb15⟩; (have HM15 := Lib.hid hm15); (have HB15 := Lib.hid (bl_then HB14.out hb15)); clear hm15 hb15) |
      (go_at_call 55; refine (count_ HM15.out (by decide) (by decide)).mono ?_; rintro e w16 ⟨rfl, hw16⟩; (have hw16' := hw16.symm); subst hw16'))
    go_ret
    exact ⟨rfl, HB15.out⟩
  | false =>
    go_wp2_with fail
    have hz : (1 : Int) ≤ 1 + (size : Int) % 64 ∧ 1 + (size : Int) % 64 ≤ 64 := by omega
    obtain ⟨z, hzz⟩ : ∃ z : Int, z = 1 + (size : Int) % 64 := ⟨_, rfl⟩
    rw [← hzz] at hz
    have HT : Hid (Tw w (((w2.alloc (.cells #[.int .i64 5, .int .i64 3, .int .i64 64, .int .i64 16, .int .i64 40, .int .i64 p3, .int .i64 p4, .int .i64 p5, .slice (some a8) 96 c8] 30)).alloc (.cells #[.int .i64 1, .int .i64 0, .int .i64 z] 42)).alloc (.cells #[.int .i64 1, .int .i64 1, .int .i64 z] 42)) (((w2.alloc (.cells #[.int .i64 5, .int .i64 3, .int .i64 64, .int .i64 16, .int .i64 40, .int .i64 p3, .int .i64 p4, .int .i64 p5, .slice (some a8) 96 c8] 30)).alloc (.cells #[.int .i64 1, .int .i64 0, .int .i64 z] 42)).alloc (.cells #[.int .i64 1, .int .i64 1, .int .i64 z] 42)) v b g 0 ws (w2.heap.size + 1) (w2.heap.size + 1 + 1) 1 z) := by
      have hb : Below (w2.alloc (.cells #[.int .i64 5, .int .i64 3, .int .i64 64, .int .i64 16, .int .i64 40, .int .i64 p3, .int .i64 p4, .int .i64 p5, .slice (some a8) 96 c8] 30)).heap.size (w2.alloc (.cells #[.int .i64 5, .int .i64 3, .int .i64 64, .int .i64 16, .int .i64 40, .int .i64 p3, .int .i64 p4, .int .i64 p5, .slice (some a8) 96 c8] 30)) (((w2.alloc (.cells #[.int .i64 5, .int .i64 3, .int .i64 64, .int .i64 16, .int .i64 40, .int .i64 p3, .int .i64 p4, .int .i64 p5, .slice (some a8) 96 c8] 30)).alloc (.cells #[.int .i64 1, .int .i64 0, .int .i64 z] 42)).alloc (.cells #[.int .i64 1, .int .i64 1, .int .i64 z] 42)) := bl_alloc (bl_alloc (Below.refl _ _) _) _
      have e1 : (w2.alloc (.cells #[.int .i64 5, .int .i64 3, .int .i64 64, .int .i64 16, .int .i64 40, .int .i64 p3, .int .i64 p4, .int .i64 p5, .slice (some a8) 96 c8] 30)).heap.size = w2.heap.size + 1 := World.size_alloc _ _
      have h7 := alloc_old (alloc_new (w2.alloc (.cells #[.int .i64 5, .int .i64 3, .int .i64 64, .int .i64 16, .int .i64 40, .int .i64 p3, .int .i64 p4, .int .i64 p5, .slice (some a8) 96 c8] 30)) (.cells #[.int .i64 1, .int .i64 0, .int .i64 z] 42)) (.cells #[.int .i64 1, .int .i64 1, .int .i64 z] 42)
      have h8 := Je.two_new (w2.alloc (.cells #[.int .i64 5, .int .i64 3, .int .i64 64, .int .i64 16, .int .i64 40, .int .i64 p3, .int .i64 p4, .int .i64 p5, .slice (some a8) 96 c8] 30)) (.cells #[.int .i64 1, .int .i64 0, .int .i64 z] 42) (.cells #[.int .i64 1, .int .i64 1, .int .i64 z] 42)
      rw [e1] at h7 h8
      exact ⟨⟨_, g, HV2.out.1.below hb, Vs.words_devOf _, rfl, Nat.le_refl 0, fun q hq => .inl hq, Upd.refl _ _⟩, h7, h8, fun hm7 => (by have := HV2.out.2.2 _ hm7; omega), fun hm8 => (by have := HV2.out.2.2 _ hm8; omega), fun k hk => (HV2.out.2.2 k hk).1, bl_then HV2.out.2.1 hb⟩
    have HQ : Hid (w.heap.size ≤ w2.heap.size + 1 + 1) := by have := HV2.out.2.1.size; rw [World.size_alloc] at this; show _ ≤ _; omega
    have HZ0 := Lib.hid HZ.out
    have HZZ := Lib.hid hz
    rw [← hzz]
    clear hzz
    have hI0 := iB_file hz (.inl rfl)
    have hI1 : iB 1 1 z = true := iB_file hz (.inr rfl)
    have HI := Lib.hid (And.intro hI0 (And.intro hI1 (iB_file hz (.inr rfl))))
    generalize ((w2.alloc (.cells #[.int .i64 5, .int .i64 3, .int .i64 64, .int .i64 16, .int .i64 40, .int .i64 p3, .int .i64 p4, .int .i64 p5, .slice (some a8) 96 c8] 30)).alloc (.cells #[.int .i64 1, .int .i64 0, .int .i64 z] 42)).alloc (.cells #[.int .i64 1, .int .i64 1, .int .i64 z] 42) = X8 at *
    generalize w2.heap.size + 1 = q7 at *
    clear hz hI0 hI1
    refine (show Calls _ _ #[_, .int .i64 0, _] _ _ from vd_inode HT.out.vd HZ0.out.len (by decide) 0 (.inl rfl) 1 0 z HI.out.1).mono ?_
    rintro e w3 ⟨rfl, hv3⟩
    have HT3 := Lib.hid (HT.out.keep hv3)
    have HZ3 := Lib.hid (HZ0.out.inode0 1 0 z HI.out.1)
    obtain ⟨a0, a1, a2, a3, a4, a5, -⟩ := HT3.out.cells
    clear hv3
    go_wp2_with fail
    refine (show Calls _ _ #[_, .int .i64 1, _] _ _ from vd_inode HT3.out.vd HZ3.out.len (by decide) 1 (.inr rfl) 1 1 z HI.out.2.1).mono ?_
    rintro e w4 ⟨rfl, hv4⟩
    have HT4 := Lib.hid (HT3.out.keep hv4)
    have HZ4 := Lib.hid (HZ3.out.inode1 1 1 z HI.out.2.1)
    clear hv4 a0 a1 a2 a3 a4 a5
    go_wp2_with fail
    refine (stretch_ 0 _).mono ?_
    rintro e w5 ⟨rfl, hb5⟩
    have HT5 := Lib.hid (HT4.out.keep (HT4.out.vd.below hb5))
    clear hb5
    go_wp2_with fail
    refine (show Calls _ _ #[_, .int .i64 0, _] _ _ from vd_slot HT5.out.vd HZ4.out.len (by decide) 0 (.inl rfl) 0 1 (-1) (by decide)).mono ?_
    rintro e w6 ⟨rfl, hv6⟩
    have HT6 := Lib.hid (HT5.out.keep hv6)
    have HZ6 := Lib.hid (HZ4.out.slot0 0 1 (-1) (by decide))
    clear hv6
    go_wp2_with fail
    refine (stretch_ 0 _).mono ?_
    rintro e w7 ⟨rfl, hb7⟩
    have HT7 := Lib.hid (HT6.out.keep (HT6.out.vd.below hb7))
    clear hb7
    go_wp2_with fail
    refine (show Calls _ _ #[_, .int .i64 1, _] _ _ from vd_slot HT7.out.vd HZ6.out.len (by decide) 1 (.inr rfl) 0 1 (-1) (by decide)).mono ?_
    rintro e w8 ⟨rfl, hv8⟩
    have HT8 := Lib.hid (HT7.out.keep hv8)
    have HZ8 := Lib.hid (HZ6.out.slot1 0 1 (-1) (by decide))
    clear hv8
    go_wp2_with fail
    refine (vd_scan HT8.out.vd HZ8.out.len HZ8.out.lt).mono ?_
    rintro e w9 ⟨-, hno, hb9⟩
    obtain rfl := hno (scan_twice HZZ.out HZ8.out (.inr ⟨rfl, rfl⟩))
    have HT9 := Lib.hid (HT8.out.keep (HT8.out.vd.below hb9))
    obtain ⟨a0, a1, a2, a3, a4, a5, f0⟩ := HT9.out.cells
    clear hno hb9
    obtain ⟨gn, hT10⟩ := HT9.out.set (by omega) HQ.out 1
    have HT10 := Lib.hid hT10
    clear hT10
    go_wp2_with fail
    clear a0 a1 a2 a3 a4 a5 f0
    refine (show Calls _ _ #[_, .int .i64 1, _] _ _ from vd_inode HT10.out.vd HZ8.out.len (by decide) 1 (.inr rfl) 1 1 z HI.out.2.2).mono ?_
    rintro e w11 ⟨rfl, hv11⟩
    have HT11 := Lib.hid (HT10.out.keep hv11)
    have HZ11 := Lib.hid (HZ8.out.inode1 1 1 z HI.out.2.2)
    clear hv11
    go_wp2_with fail
    refine (stretch_ 1 _).mono ?_
    rintro e w12 ⟨rfl, hb12⟩
    have HT12 := Lib.hid (HT11.out.keep (HT11.out.vd.below hb12))
    clear hb12
    go_wp2_with fail
    refine (show Calls _ _ #[_, .int .i64 1, _] _ _ from vd_slot HT12.out.vd HZ11.out.len (by decide) 1 (.inr rfl) 1 1 (-1) (by decide)).mono ?_
    rintro e w13 ⟨rfl, hv13⟩
    have HT13 := Lib.hid (HT12.out.keep hv13)
    have HZ13 := Lib.hid (HZ11.out.slot1 1 1 (-1) (by decide))
    clear hv13
    go_wp2_with fail
    refine (vd_scan HT13.out.vd HZ13.out.len HZ13.out.lt).mono ?_
    rintro e w14 ⟨hso, -, hb14⟩
    obtain ⟨ds, hds, -⟩ := scan_once HZZ.out HZ13.out
    obtain ⟨qc, b1, b2, g1, g2, cc1, cc2, es, LA, lc, rfl, hcl, -⟩ := hso _ hds
    have HC14 := Lib.hid hcl
    have HB14 : Hid (Below w.heap.size w w14) := (HT13.out.keep (HT13.out.vd.below hb14)).back
    clear hso hds hb14 hcl
    go_wp2_with (first | (go_at_call 54; refine (cblocks_ HC14.out).mono ?_; rintro e w15 ⟨b', A', c', rfl, hm15, hb15⟩; (have HM15 := Lib.hid hm15); (have HB15 := Lib.hid (bl_then HB14.out hb15)); clear hm15 hb15) |
      (go_at_call 55; refine (count_ HM15.out (by decide) (by decide)).mono ?_; rintro e w16 ⟨rfl, hw16⟩; (have hw16' := hw16.symm); subst hw16'))
    go_ret
    exact ⟨rfl, HB15.out⟩

end Go.Proofs.YtgnagbbdnlmgeaaGreat.Cm
end
