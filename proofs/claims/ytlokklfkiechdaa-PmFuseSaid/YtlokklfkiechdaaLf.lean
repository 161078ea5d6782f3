/- PmFuse: the law's walk. -/
import Derived.Test.YtlokklfkiechdaaLc
import Derived.Test.YtlokklfkiechdaaPmW
import Derived.Test.YtlokklfkiechdaaPmU
set_option linter.unusedVariables false
set_option linter.unusedSimpArgs false
set_option maxHeartbeats 2000000
namespace Go.Proofs.Ytlokklfkiechdaa.La
open Go Go.RowKit
open Go.ChangeMaps (setBlock)
open Go.Proofs.Ytlokklfkiechdaa.Ob Go.Proofs.Ytlokklfkiechdaa.Mp Go.Proofs.Ytlokklfkiechdaa.Dv Go.Proofs.Ytlokklfkiechdaa.Wl Go.Proofs.Ytlokklfkiechdaa.Cp Go.Proofs.Ytlokklfkiechdaa.Pm

/-- a device whose fuse and steps come to n -/
structure FInv (n : Nat) (d : Dev) : Prop where
  fuse : ∃ f, d.fuse = some f ∧ d.steps + f = n
  len : d.las.length = 40

theorem act_down {d : Dev} (h : d.down = true) (x : Act) : act d x = d := by
  have h1 : ∀ k v, d.stored k v = d := fun k v => by unfold Dev.stored; rw [if_neg (by simp [Dev.storeOk, h])]
  have h2 : ∀ k, d.flushed k = d := fun k => by unfold Dev.flushed; rw [if_neg (by simp [Dev.flushOk, h])]
  have h3 : d.fenced = d := by unfold Dev.fenced; rw [if_pos h]
  unfold act
  rw [h1, h2, h2, h3]
  simp

theorem stepped_inv {n : Nat} {d : Dev} (h : FInv n d) (hd : d.down = false) (s : Bool) : ∃ f, (d.stepped s).fuse = some f ∧ (d.stepped s).steps + f = n := by
  obtain ⟨f, h1, h2⟩ := h.fuse
  have hf : f ≠ 0 := by
    intro e
    subst e
    simp [Dev.down, h1] at hd
  refine ⟨f - 1, by simp [Dev.stepped, h1], ?_⟩
  simp only [Dev.stepped]
  omega

theorem act_inv {n : Nat} {d : Dev} (h : FInv n d) (x : Act) : FInv n (act d x) := by
  cases hd : d.down with
  | true => rw [act_down hd]; exact h
  | false =>
    have hl := (act_steps d x).2
    refine ⟨?_, by rw [hl]; exact h.len⟩
    have h1 : ∀ k v, ∃ f, (d.stored k v).fuse = some f ∧ (d.stored k v).steps + f = n := fun k v => by
      unfold Dev.stored
      split
      · exact stepped_inv h hd true
      · exact h.fuse
    have h2 : ∀ k, ∃ f, (d.flushed k).fuse = some f ∧ (d.flushed k).steps + f = n := fun k => by
      unfold Dev.flushed
      split
      · exact stepped_inv h hd false
      · exact h.fuse
    have h3 : ∃ f, (d.fenced).fuse = some f ∧ (d.fenced).steps + f = n := by
      unfold Dev.fenced
      split
      · exact h.fuse
      · exact stepped_inv h hd false
    unfold act
    split
    · exact h1 _ _
    split
    · exact h2 _
    split
    · exact h3
    · exact h2 _

theorem down_steps {n : Nat} {d : Dev} (h : FInv n d) : ((d.steps : Int) == (n : Int)) = d.down := by
  obtain ⟨f, h1, h2⟩ := h.fuse
  simp only [Dev.down, h1]
  by_cases hf : f = 0
  · subst hf
    have : d.steps = n := by omega
    simp [this]
  · have : d.steps ≠ n := by omega
    have h3 : ((d.steps : Int) == (n : Int)) = false := beq_eq_false_iff_ne.2 (by omega)
    rw [h3]
    simp [hf]

theorem some_A {w : World} {b : Nat} {d : Dev} {g : Lay} (h : DevIs w b d g) (hl : d.las.length = 40) : g.A = none → g.c = 0 := by
  intro e
  obtain ⟨_, ⟨h1, _⟩ | ⟨q, off, cs, h1, _⟩⟩ := h.las
  · have : (u64s d.las).length = 0 := by rw [h1]; rfl
    rw [u64s_length] at this
    omega
  · rw [e] at h1; cases h1

set_option maxRecDepth 100000 in
theorem fuse_no {w : World} {A : Option Addr} {l : List Act} {a0 : Int} (h : ActsAt w A l) (c : Nat) (hl : l.length ≤ 9223372036854775807) (hno : fewB l = false) :
    Calls Try.prog 9 #[.int .u8 a0, .slice A l.length c] w fun e w' => e = .returned (.bool true) ∧ Below w.heap.size w w' := by
  have H := Lib.hid h
  have HL := Lib.hid hl
  have HA : Hid (Below w.heap.size w w) := Below.refl _ _
  have HF := Lib.hid hno
  clear h hl hno
  go_enter Try.func9, Try.ntmps9
  go_wp2_with (first | (go_at_call 10; refine (lives_any _).mono ?_; rintro e w1 ⟨rfl, hb0⟩; (have HA' := Lib.hid (bl_then HA.out hb0)); clear HA hb0; (have HA := HA'); clear HA') |
    (go_at_call 24; refine (few_any (H.out.below HA.out) c HL.out).mono ?_; rw [HF.out]; rintro e w2 ⟨rfl, hb0⟩; (have HA' := Lib.hid (bl_then HA.out hb0)); clear HA hb0; (have HA := HA'); clear HA'))
  go_ret
  exact ⟨rfl, HA.out⟩

set_option maxRecDepth 100000 in
theorem fuse_yes {w : World} {A : Option Addr} {l : List Act} {n : Nat} (h : ActsAt w A l) (c : Nat) (h1 : n < 256) (hf : fewB l = true) :
    Calls Try.prog 9 #[.int .u8 n, .slice A l.length c] w fun e w' => e = .returned (.bool true) ∧ Below w.heap.size w w' := by
  have H := Lib.hid h
  have HA : Hid (Below w.heap.size w w) := Below.refl _ _
  have hl : l.length ≤ 60 := by
    simp only [fewB, Bool.and_eq_true, decide_eq_true_eq] at hf
    exact hf.2
  have HF := Lib.hid hf
  obtain ⟨m, hm⟩ : ∃ m, m = l.length := ⟨_, rfl⟩
  rw [← hm] at hl ⊢
  have HM := Lib.hid hm
  have HI0 : Hid (FInv n (armed (newDev 40) n)) := ⟨⟨n, by simp [armed], by simp [armed, newDev]⟩, by simp only [armed, newDev, List.length_replicate]; decide⟩
  clear h hf hm
  go_enter Try.func9, Try.ntmps9
  go_wp2_with (first | (go_at_call 10; refine (lives_any _).mono ?_; rintro e w1 ⟨rfl, hb0⟩; (have HA' := Lib.hid (bl_then HA.out hb0)); clear HA hb0; (have HA := HA'); clear HA') |
      (go_at_call 24; (have hfe := few_any (H.out.below HA.out) c (by rw [← HM.out]; omega)); rw [← HM.out] at hfe; refine hfe.mono ?_; rw [HF.out]; rintro e w2 ⟨rfl, hb0⟩; clear hfe; (have HA' := Lib.hid (bl_then HA.out hb0)); clear HA hb0; (have HA := HA'); clear HA') |
      (go_at_call 11; refine (new_any 40 _).mono ?_; rintro e w3 ⟨_, rfl, b, g0, rfl, h1, h2, h3⟩; (have M0 := Lib.hid (Mine.mk h1 (fun k hk => Nat.le_trans HA.out.size (h2 k hk)) (bl_then HA.out h3))); clear h1 h2 h3) |
      (go_at_call 30; refine (arm_any M0.out.dev (n : Int) (by omega)).mono ?_; rintro e w4 ⟨rfl, hu, hd⟩; (have M1 : Hid (Mine w w4 b (armed (newDev 40) n) g0) := ⟨hd, M0.out.own, M0.out.below.trans (hu.belowB M0.out.below.size (fun k hk => by rw [List.mem_singleton.1 hk]; exact M0.out.own b (by simp [Lay.foot])))⟩); clear hu hd))
  go_loopw [26] (fun c26 wr => ∃ i : Nat, i ≤ m ∧ c26 = .int .i64 i ∧ ∃ g d, Hid (Mine w wr b d g ∧ FInv n d)) (fun c26 _ => m - (intOf c26).toNat)
  case atStart => exact ⟨0, Nat.zero_le _, rfl, g0, _, M1.out, HI0.out⟩
  case round =>
    obtain ⟨i, hi, rfl, g, d, HR⟩ := hrel
    by_cases hlt : i < m
    · obtain ⟨x, hx⟩ : ∃ x, l[i]? = some x := ⟨_, List.getElem?_eq_getElem (by rw [← HM.out]; exact hlt)⟩
      obtain ⟨hw, q, off, rfl, hq, e1, e2, e3, e4⟩ := (H.out.below HR.out.1.below) i x hx
      have HW := Lib.hid hw
      have k0 := hw.k0
      have k1 := hw.k1
      have hs : d.steps < 1099511627776 := by
        obtain ⟨f, h1, h2⟩ := HR.out.2.fuse
        omega
      have hsn : d.steps ≤ n := by
        obtain ⟨f, h1, h2⟩ := HR.out.2.fuse
        omega
      have HS := Lib.hid hs
      clear hx hw hq
      by_cases hk : x.k % 8 < 6
      · have hk6 : decide (6 ≤ x.k % 8) = false := by simp; omega
        have hds := down_steps HR.out.2
        have hin := act_inv HR.out.2 x
        have hst : (act d x).steps ≤ n := by
          obtain ⟨f, h1, h2⟩ := hin.fuse
          omega
        have HIN := Lib.hid hin
        have HK := Lib.hid hk
        have hAA := some_A HR.out.1.dev HR.out.2.len
        have HAA := Lib.hid hAA
        clear hk hin hAA
        cases hd : d.down with
        | false =>
          rw [hd] at hds
          have HDD := Lib.hid hd
          clear hd
          go_wp2_with fail
          refine (steps_any (HR.out.1.dev.below (bl_alloc (Below.refl _ _) _))).mono ?_
          rintro e w5 ⟨rfl, rfl⟩
          go_wp2_with fail
          refine (copy_any (HR.out.1.dev.below (bl_alloc (Below.refl _ _) _)) HAA.out).mono ?_
          rintro e w5 ⟨b2, g2, d2, rfl, k1, k2, k3, k4⟩
          obtain ⟨hc, hf⟩ := bcell k3
          have hz1 : wr.heap.size < w5.heap.size := by have := k3.size; simp at this; omega
          have M5 : Hid (Mine w w5 b d g) := HR.out.1.below_ (bl_then (bl_alloc (Below.refl _ _) _) k3)
          have HC := Lib.hid (And.intro k1 (And.intro k2 k4))
          clear k1 k2 k3 k4
          go_wp2_with fail
          refine (down_any M5.out.dev).mono ?_
          rw [HDD.out]
          rintro e w6 ⟨rfl, rfl⟩
          go_wp2_with fail
          refine (play_any M5.out.dev x HW.out HK.out HS.out).mono ?_
          rintro e w7 ⟨⟨v7, rfl⟩, hd7⟩
          obtain ⟨g7, m7⟩ := M5.out.to hd7
          have M7 := Lib.hid m7
          have HD7 := Lib.hid hd7
          clear hd7 m7
          go_wp2_with fail
          refine (steps_any M7.out.dev).mono ?_
          rintro e w8 ⟨rfl, rfl⟩
          go_wp2_with fail
          go_roundw
          case rel => exact ⟨i + 1, by omega, by go_num, g7, _, M7.out, HIN.out⟩
          case measure => simp [intOf]; omega
        | true =>
          rw [hd] at hds
          have HADN := Lib.hid (act_down hd x)
          have HDD := Lib.hid hd
          clear hd
          go_wp2_with fail
          refine (steps_any (HR.out.1.dev.below (bl_alloc (Below.refl _ _) _))).mono ?_
          rintro e w5 ⟨rfl, rfl⟩
          go_wp2_with fail
          refine (copy_any (HR.out.1.dev.below (bl_alloc (Below.refl _ _) _)) HAA.out).mono ?_
          rintro e w5 ⟨b2, g2, d2, rfl, k1, k2, k3, k4⟩
          obtain ⟨hc, hf⟩ := bcell k3
          have hz1 : wr.heap.size < w5.heap.size := by have := k3.size; simp at this; omega
          have M5 : Hid (Mine w w5 b d g) := HR.out.1.below_ (bl_then (bl_alloc (Below.refl _ _) _) k3)
          have HC := Lib.hid (And.intro k1 (And.intro k2 k4))
          clear k1 k2 k3 k4
          go_wp2_with fail
          refine (down_any M5.out.dev).mono ?_
          rw [HDD.out]
          rintro e w6 ⟨rfl, rfl⟩
          go_wp2_with fail
          refine (play_any M5.out.dev x HW.out HK.out HS.out).mono ?_
          rintro e w7 ⟨⟨v7, rfl⟩, hd7⟩
          obtain ⟨g7, m7⟩ := M5.out.to hd7
          have M7 := Lib.hid m7
          have HD7 := Lib.hid hd7
          clear hd7 m7
          go_wp2_with fail
          refine (steps_any M7.out.dev).mono ?_
          rintro e w8 ⟨rfl, rfl⟩
          rw [HADN.out]
          go_wp2_with fail
          have hsame : Hid (Calls Try.prog 33 #[.pointer (some ⟨b, 0, none⟩), .pointer (some ⟨b2, 0, none⟩)] w7 fun e w' => e = .returned (.bool true) ∧ Below w7.heap.size w7 w') := by
            have hd2 : DevIs w7 b2 d2 g2 := HC.out.1.upd HD7.out.choose_spec.2.2 (fun k hk hf => by have h1 := HC.out.2.1 k hk; have h2 := HR.out.1.dev.lt k hf; simp at h1; omega)
            have hm := M7.out.dev
            rw [HADN.out] at hm
            have := same_any hm hd2 (some_A hm HR.out.2.len) (some_A hd2 (by rw [HC.out.2.2.las]; exact HR.out.2.len))
            rw [HC.out.2.2.words, decide_eq_true rfl] at this
            exact this
          refine hsame.out.mono ?_
          rintro e w9 ⟨rfl, hb9⟩
          have M9 := Lib.hid (M7.out.below_ hb9)
          clear hb9
          go_wp2_with fail
          refine (steps_any M9.out.dev).mono ?_
          rw [HADN.out]
          rintro e w10 ⟨rfl, rfl⟩
          go_wp2_with fail
          go_roundw
          case rel => exact ⟨i + 1, by omega, by go_num, g7, _, M9.out, HIN.out⟩
          case measure => simp [intOf]; omega
      · have hk' : 6 ≤ x.k % 8 := by omega
        go_wp2
        go_roundw
        case rel => exact ⟨i + 1, by omega, by go_num, g, d, HR.out.1.below_ (bl_alloc (Below.refl _ _) _), HR.out.2⟩
        case measure => simp [intOf]; omega
    · go_wp2_with fail
      refine (crash_any HR.out.1.dev none 0 [] (by simp) (by intro i x hx; simp at hx)).mono ?_
      rintro e w5 ⟨rfl, hd⟩
      obtain ⟨g5, m5⟩ := HR.out.1.to hd
      have M5 := Lib.hid m5
      have HST : Hid ((crashed d []).steps < 1099511627776) := by
        obtain ⟨f, h1, h2⟩ := HR.out.2.fuse
        show d.steps < 1099511627776
        omega
      clear hd m5
      go_wp2_with fail
      refine (down_any M5.out.dev).mono ?_
      rw [crashed_down]
      rintro e w6 ⟨rfl, rfl⟩
      go_wp2_with fail
      refine (fence_any M5.out.dev HST.out).mono ?_
      rw [crashed_down]
      rintro e w7 ⟨rfl, hd⟩
      obtain ⟨g7, m7⟩ := M5.out.to hd
      have M7 := Lib.hid m7
      clear hd m7
      go_wp2_with fail
      go_ret
      exact ⟨rfl, M7.out.below⟩

end Go.Proofs.Ytlokklfkiechdaa.La
