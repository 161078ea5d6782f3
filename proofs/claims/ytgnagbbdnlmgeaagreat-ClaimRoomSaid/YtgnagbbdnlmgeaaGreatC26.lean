/- Parts of the proof, one behind the other: Ed, Ee, Ef, Eg, Eh, Ei. -/
import Derived.Test.YtgnagbbdnlmgeaaGreatC25
import Derived.Deep.RegionHeld3
import Derived.Test.YtgnagbbdnlmgeaaGreatC20
import Derived.Test.YtgnagbbdnlmgeaaGreatC17
import Derived.Test.YtgnagbbdnlmgeaaGreatC21

/- claim.Scan. -/
section
set_option linter.unusedVariables false
set_option linter.unusedSimpArgs false
set_option maxHeartbeats 4000000
set_option maxRecDepth 100000
namespace Go.Proofs.YtgnagbbdnlmgeaaGreat.Cm
open Go Go.RowKit
open Go.Proofs.YtgnagbbdnlmgeaaGreat.Rr Go.Proofs.YtgnagbbdnlmgeaaGreat.Ob Go.Proofs.YtgnagbbdnlmgeaaGreat.Ba Go.Proofs.YtgnagbbdnlmgeaaGreat.Ko Go.Proofs.YtgnagbbdnlmgeaaGreat.Ge Go.Proofs.YtgnagbbdnlmgeaaGreat.Oc Go.Proofs.YtgnagbbdnlmgeaaGreat.Pk Go.Proofs.YtgnagbbdnlmgeaaGreat.Su Go.Proofs.YtgnagbbdnlmgeaaGreat.Rf Go.Proofs.YtgnagbbdnlmgeaaGreat.Dv Go.Proofs.YtgnagbbdnlmgeaaGreat.Vo Go.Proofs.YtgnagbbdnlmgeaaGreat.Ra Go.Proofs.YtgnagbbdnlmgeaaGreat.Jh Go.Proofs.YtgnagbbdnlmgeaaGreat.Tr Go.Proofs.YtgnagbbdnlmgeaaGreat.Iq Go.Proofs.YtgnagbbdnlmgeaaGreat.Bm Go.Proofs.YtgnagbbdnlmgeaaGreat.In Go.Proofs.YtgnagbbdnlmgeaaGreat.Je Go.Proofs.YtgnagbbdnlmgeaaGreat.Lo

abbrev Dat := (Int × Int × Int) × List (Int × Tri)
def Own.dat (e : Own) : Dat := ((e.k, e.h, e.z), e.L)
abbrev St := List Nat × List Nat × List Dat
def stepG (n s : Nat) (sl : Int → Option Tri) (inf : Int → Option (Int × Int × Int)) (i : Nat) (st : St) : Option St :=
  match inf i with
  | none => none
  | some t => match takeF n s sl st.1 st.2.1 t.2.1 t.2.2 with
    | none => none
    | some r => some (r.1, r.2.1, st.2.2 ++ [(t, r.2.2)])
def scanG (n s : Nat) (sl : Int → Option Tri) (inf : Int → Option (Int × Int × Int)) : Nat → Nat → St → Option St
  | 0, _, st => some st
  | k + 1, i, st => match stepG n s sl inf i st with
    | none => none
    | some st' => scanG n s sl inf k (i + 1) st'
def scanF (n m s : Nat) (ws : List Nat) : Option St := scanG n s (slF ws n m) (inF ws m) m 0 (List.replicate ((n + 63) / 64) 0, List.replicate ((n + 63) / 64) 0, [])

theorem bm_base {W : World} {B B' b n : Nat} {l : List Nat} {A : Option Addr} {c : Nat} (h : Bm W B b n l A c) (hB : B' ≤ B) : Bm W B' b n l A c := ⟨h.box, own_base h.row hB, Nat.le_trans hB h.lo, h.apart, h.len, h.lt, h.le⟩
theorem ok_tail {ws : List Nat} {m : Nat} {i : Int} {t : Int × Int × Int} (h : inF ws m i = some t) : t.2.2 ≤ 9223372036854775807 := by
  unfold inF at h
  split at h
  · split at h
    · rename_i h9
      have : t = n6 (inL ws i.toNat) := (Option.some.inj h).symm
      rw [this]
      unfold n6
      rw [if_pos h9]
      unfold ok6 at h9
      simp at h9
      show ((inL ws i.toNat).getD 1 0 : Int) ≤ _
      have := h9.2.1
      simp only [List.getD_eq_getElem?_getD]
      omega
    · cases h
  · cases h

theorem scan_ {W : World} {v b n m s : Nat} {dv : Dev} {g : Lay} {ws : List Nat} (hv : VolIs W v b n m s dv g) (hwd : Pm.wordsOf dv = ints ws) (hlt : ∀ x ∈ ws, x < 18446744073709551616) (hfit : 16 + 8 * m + n ≤ ws.length) (hn : n ≤ 24) (hm : m ≤ 24) (hs1 : 1 ≤ s) :
    Calls Tryz.prog 53 #[.pointer (some ⟨v, 0, none⟩)] W fun e w' =>
      (∀ st, scanF n m s ws = some st → ∃ q b1 b2 g1 g2 c1 c2 es LA lc, e = .returned (.tuple #[.pointer (some ⟨q, 0, none⟩), .int .i64 0]) ∧ Cl w' W.heap.size q b1 b2 n st.1 st.2.1 g1 g2 c1 c2 es LA lc ∧ es.map Own.dat = st.2.2) ∧
      (scanF n m s ws = none → e = .returned (.tuple #[.pointer none, .int .i64 2])) ∧ Below W.heap.size W w' := by
  have hu := Tryz.underlying34
  have hu2 := Tryz.underlying179
  have hu3 := Tryz.underlying42
  have HG := Lib.hid (Jh.geom_ hv)
  have HIN : Hid (∀ {W' : World} (i : Int), Below W.heap.size W W' → _) := fun {W'} i hb => inode_call (hv.below hb) hwd hlt (by omega) i
  have HTK : Hid (∀ {W' : World} {q b1 b2 : Nat} {l1 l2 : List Nat} {g1 g2 c1 c2 : Nat} {es : List Own} {LA : Option Addr} {lc : Nat} (k h z : Int), Below W.heap.size W W' → Cl W' W.heap.size q b1 b2 n l1 l2 g1 g2 c1 c2 es LA lc → es.length ≤ 65534 → z ≤ 9223372036854775807 → _) :=
    fun {W'} {q} {b1} {b2} {l1} {l2} {g1} {g2} {c1} {c2} {es} {LA} {lc} k h z hb hc hes hz => take_ (hv.below hb) hwd hlt hfit hn hs1 hc hes k h z hz
  have HTL : Hid (∀ i t, inF ws m i = some t → t.2.2 ≤ 9223372036854775807) := fun i t h => ok_tail h
  obtain ⟨R, hR⟩ : ∃ R, R = scanF n m s ws := ⟨_, rfl⟩
  rw [← hR]
  unfold scanF at hR
  generalize slF ws n m = sl at *
  generalize inF ws m = inf at *
  have HR := Lib.hid hR
  clear hv hwd hlt hfit hR
  go_enter Tryz.func53, Tryz.ntmps53
  go_wp2_with fail
  refine HG.out.mono ?_
  rintro e w1 ⟨rfl, hb1⟩
  obtain ⟨W1, hW1⟩ : ∃ W1, W1 = w1.alloc (.cells #[.int .i64 n, .int .i64 m, .int .i64 s] 34) := ⟨_, rfl⟩
  have hbw : Below w1.heap.size w1 W1 := by rw [hW1]; exact bl_alloc (Below.refl _ _) _
  have HQ1 : Hid (W1.heap[w1.heap.size]? = some (.cells #[.int .i64 n, .int .i64 m, .int .i64 s] 34 (0, 0))) := by rw [hW1]; exact alloc_new _ _
  have HB1 := Lib.hid (bl_then hb1 hbw)
  have HCL : Hid (∀ W', Bl W1 W' → W'.cell? ⟨w1.heap.size, 0, none⟩ = some (.int .i64 n) ∧ W'.cell? ⟨w1.heap.size, 1, none⟩ = some (.int .i64 m) ∧ Bl W1 W') := fun W' hb => ⟨cell_of (blk_bl HQ1.out hb.below) 0, cell_of (blk_bl HQ1.out hb.below) 1, hb⟩
  have HB0 : Hid (Bl W1 W1.drew) := ⟨bl_drew (Below.refl _ _)⟩
  clear hb1 hbw
  go_wp2_with fail
  rw [← hW1]
  clear hW1
  generalize w1.heap.size = q1 at *
  go_region_held3 (fun W' => W'.cell? ⟨q1, 0, none⟩ = some (.int .i64 n) ∧ W'.cell? ⟨q1, 1, none⟩ = some (.int .i64 m) ∧ Bl W1 W')
    (first | exact HCL.out _ HB0.out | exact HCL.out _ HC5.out | exact HCL.out _ HC6.out | exact HCL.out _ ⟨bl_alloc HC6.out.below _⟩)
    (first | (go_at_call 109; refine (new_ n (by omega) _).mono ?_; rintro e w5 ⟨b1, rfl, hm1, hb5⟩; (have HM1 := Lib.hid hm1); (have HC5 : Hid (Bl W1 w5) := ⟨bl_then HB0.out.below hb5⟩); clear hm1 hb5) |
      (go_at_call 109; refine (new_ n (by omega) _).mono ?_; rintro e w6 ⟨b2, rfl, hm2, hb6⟩; (have HM2 := Lib.hid hm2); (have HM3 := Lib.hid (HM1.out.keep hb6)); (have HC6 : Hid (Bl W1 w6) := ⟨bl_then HC5.out.below hb6⟩); clear hm2 hb6))
  have HC7 : Hid (Cl (w6.alloc (.cells #[.slice none 0 0, .pointer (some ⟨b1, 0, none⟩), .pointer (some ⟨b2, 0, none⟩)] 179)) W.heap.size w6.heap.size b1 b2 n (List.replicate ((n + 63) / 64) 0) (List.replicate ((n + 63) / 64) 0) W1.drew.heap.size w5.heap.size ((n + 63) / 64) ((n + 63) / 64) [] none 0 ∧ Below W.heap.size W (w6.alloc (.cells #[.slice none 0 0, .pointer (some ⟨b1, 0, none⟩), .pointer (some ⟨b2, 0, none⟩)] 179))) := by
    have hb : Below w6.heap.size w6 (w6.alloc (.cells #[.slice none 0 0, .pointer (some ⟨b1, 0, none⟩), .pointer (some ⟨b2, 0, none⟩)] 179)) := bl_alloc (Below.refl _ _) _
    have z1 := HB1.out.size
    have z2 := HC5.out.below.size
    have z3 := HC6.out.below.size
    have z4 : w5.heap.size ≤ w6.heap.size := by have := lt_of HM2.out.box; have := HM2.out.lo; omega
    have y1 := lt_of HM1.out.box
    have y2 := HM2.out.lo
    obtain ⟨cu, y3⟩ := bm_blkg HM1.out
    have y4 := lt_of y3
    exact ⟨⟨alloc_new _ _, by omega, own_nil0 _ _ _ _, (fun e he => by cases he), bm_base (HM3.out.keep hb) z1, bm_base (HM2.out.keep hb) (by omega), by omega, by omega⟩, bl_then HB1.out (bl_then HC6.out.below hb)⟩
  have k1 := (HCL.out (w6.alloc (.cells #[.slice none 0 0, .pointer (some ⟨b1, 0, none⟩), .pointer (some ⟨b2, 0, none⟩)] 179)) ⟨bl_alloc HC6.out.below _⟩).2.1
  generalize w6.alloc (.cells #[.slice none 0 0, .pointer (some ⟨b1, 0, none⟩), .pointer (some ⟨b2, 0, none⟩)] 179) = W7 at *
  generalize w6.heap.size = q at *
  generalize W1.drew.heap.size = g1 at *
  generalize w5.heap.size = g2 at *
  generalize (n + 63) / 64 = cc at *
  go_wp2_with fail
  clear k1
  go_loopw [21] (fun c21 wr => ∃ i : Nat, i ≤ m ∧ c21 = .int .i64 i ∧ Hid (∃ (st : St) (es : List Own) (LA : Option Addr) (lc : Nat), R = scanG n s sl inf (m - i) i st ∧ Cl wr W.heap.size q b1 b2 n st.1 st.2.1 g1 g2 cc cc es LA lc ∧ es.map Own.dat = st.2.2 ∧ es.length = i ∧ Below W.heap.size W wr)) (fun c21 _ => m - (intOf c21).toNat)
  case atStart => exact ⟨0, Nat.zero_le _, rfl, _, [], none, 0, HR.out, HC7.out.1, rfl, rfl, HC7.out.2⟩
  case round =>
    obtain ⟨i, hi, rfl, HI⟩ := hrel
    by_cases hlt : i < m
    · obtain ⟨st, es, LA, lc, r1, r2, r3, r4, r5⟩ := HI.out
      have HIC := Lib.hid (HIN.out (W' := wr) (i : Int) r5)
      obtain ⟨j, hj⟩ : ∃ j, m - i = j + 1 := ⟨m - i - 1, by omega⟩
      rw [hj] at r1
      have HRR := Lib.hid r1
      have HRC := Lib.hid (And.intro r2 (And.intro r3 (And.intro r4 r5)))
      have HJ : Hid (m - (i + 1) = j) := by show _ = _; omega
      clear r1 r2 r3 r4 r5 HI hj
      go_wp2_with fail
      refine HIC.out.mono ?_
      rintro e w8 ⟨er, rfl, he, hb8⟩
      cases ht : inf (i : Int) with
      | none =>
        rw [ht] at he
        have he : (er != 0) = true := he
        have hRn : R = none := by rw [HRR.out]; unfold scanG stepG; rw [ht]
        have HB8 := Lib.hid (bl_then HRC.out.2.2.2 hb8)
        rw [show inV none = (0, -1, 0) from rfl]
        clear ht hb8
        go_wp2_with fail
        go_ret2
        exact ⟨fun st h9 => (by rw [hRn] at h9; cases h9), fun _ => rfl, bl_alloc HB8.out _⟩
      | some t =>
        rw [ht] at he
        have he : (er != 0) = false := he
        have her : er = 0 := by simpa using he
        subst her
        obtain ⟨x, y, z⟩ := t
        rw [show inV (some (x, y, z)) = (x, y, z) from rfl]
        have HT := Lib.hid ht
        have HB8 := Lib.hid (bl_then HRC.out.2.2.2 hb8)
        have HK := Lib.hid (HTK.out (W' := w8.alloc (.cells #[.int .i64 x, .int .i64 y, .int .i64 z] 42)) x y z (bl_alloc HB8.out _) ((HRC.out.1.keep hb8).keep (bl_alloc (Below.refl _ _) _)) (by rw [HRC.out.2.2.1]; omega) (HTL.out _ _ ht))
        clear ht hb8 he
        go_wp2_with fail
        refine HK.out.mono ?_
        rintro e w9 ⟨htk, hb9⟩
        have HB9 : Hid (Below W.heap.size W w9) := (bl_alloc HB8.out _).trans hb9
        cases hf : takeF n s sl st.1 st.2.1 y z with
        | none =>
          rw [hf] at htk
          obtain rfl : e = .returned (.bool false) := htk
          have hRn : R = none := by rw [HRR.out]; unfold scanG stepG; rw [HT.out]; simp only; rw [hf]
          clear hf hb9
          go_wp2_with fail
          go_ret2
          exact ⟨fun st h9 => (by rw [hRn] at h9; cases h9), fun _ => rfl, HB9.out⟩
        | some r =>
          rw [hf] at htk
          obtain ⟨rfl, sa, sc, pa, pc, LA', lc', hcl⟩ := htk
          have HF := Lib.hid hf
          have HCL9 := Lib.hid hcl
          clear hf hb9 hcl
          go_wp2_with fail
          go_roundw
          case rel =>
            refine ⟨i + 1, by omega, by go_num, (r.1, r.2.1, st.2.2 ++ [((x, y, z), r.2.2)]), _, LA', lc', ?_, HCL9.out, ?_, ?_, HB9.out⟩
            · rw [HRR.out, HJ.out]
              show (match stepG n s sl inf i st with | none => none | some st' => scanG n s sl inf j (i + 1) st') = _
              have e9 : stepG n s sl inf i st = some (r.1, r.2.1, st.2.2 ++ [((x, y, z), r.2.2)]) := by unfold stepG; rw [HT.out]; simp only; rw [HF.out]
              rw [e9]
            · rw [List.map_append, HRC.out.2.1]; rfl
            · simp [HRC.out.2.2.1]
          case measure => simp [intOf]; omega
    · obtain rfl : i = m := by omega
      have HI2 : Hid _ := HI.out
      go_wp2_with fail
      go_ret2
      obtain ⟨st, es, LA, lc, r1, r2, r3, r4, r5⟩ := HI.out
      rw [Nat.sub_self] at r1
      refine ⟨fun st' h9 => ?_, fun h9 => (by rw [r1] at h9; cases h9), r5⟩
      rw [r1] at h9
      obtain rfl : st = st' := Option.some.inj h9
      exact ⟨_, _, _, _, _, _, _, es, LA, lc, rfl, r2, r3⟩

end Go.Proofs.YtgnagbbdnlmgeaaGreat.Cm
end

/- claim.Blocks, Slots, NextInode; bitmap.Copy. -/
section
set_option linter.unusedVariables false
set_option linter.unusedSimpArgs false
set_option maxHeartbeats 4000000
set_option maxRecDepth 100000
namespace Go.Proofs.YtgnagbbdnlmgeaaGreat.Cm
open Go Go.RowKit
open Go.Proofs.YtgnagbbdnlmgeaaGreat.Rr Go.Proofs.YtgnagbbdnlmgeaaGreat.Ob Go.Proofs.YtgnagbbdnlmgeaaGreat.Ba Go.Proofs.YtgnagbbdnlmgeaaGreat.Ko Go.Proofs.YtgnagbbdnlmgeaaGreat.Ge Go.Proofs.YtgnagbbdnlmgeaaGreat.Oc Go.Proofs.YtgnagbbdnlmgeaaGreat.Pk Go.Proofs.YtgnagbbdnlmgeaaGreat.Su Go.Proofs.YtgnagbbdnlmgeaaGreat.Rf Go.Proofs.YtgnagbbdnlmgeaaGreat.Dv Go.Proofs.YtgnagbbdnlmgeaaGreat.Vo Go.Proofs.YtgnagbbdnlmgeaaGreat.Ra Go.Proofs.YtgnagbbdnlmgeaaGreat.Jh Go.Proofs.YtgnagbbdnlmgeaaGreat.Tr Go.Proofs.YtgnagbbdnlmgeaaGreat.Iq Go.Proofs.YtgnagbbdnlmgeaaGreat.Bm Go.Proofs.YtgnagbbdnlmgeaaGreat.In Go.Proofs.YtgnagbbdnlmgeaaGreat.Je

structure Bk (w W : World) : Prop where
  below : Below w.heap.size w W

theorem copy_ {W : World} {B b n : Nat} {l : List Nat} {A : Option Addr} {c : Nat} (h : Bm W B b n l A c) (hA : A = none → l = [] ∧ c = 0) :
    Calls Tryz.prog 111 #[.pointer (some ⟨b, 0, none⟩)] W fun e w' => ∃ b' A' c', e = .returned (.pointer (some ⟨b', 0, none⟩)) ∧ Bm w' W.heap.size b' n l A' c' ∧ Below W.heap.size W w' := by
  have hu := Tryz.underlying182
  have hl9 : l.length ≤ 4194304 := by have := h.len; have := h.le; omega
  have HCO : Hid (∀ {W' : World}, Bk W W' → Calls Tryz.prog 75 #[.slice A l.length c] W' fun e w' => ∃ A' c', e = .returned (.slice A' l.length c') ∧ w'.ownsRow W'.heap.size 94 1 (.slice A' l.length c') l.length (ivs .u64 (ints l)) ∧ Below W'.heap.size W' w') := fun {W'} hb => by
    have hr : Rk .u64 W' A (ints l) := (own_rk (k := .u64) h.row).1.below hb.below
    have h9 := Pm.clone_any (show Pm.Rd W' A (ints l) from hr) c (by rw [ints_length]; exact hl9) (fun e => by obtain ⟨e1, e2⟩ := hA e; rw [e1]; exact ⟨rfl, e2⟩)
    rw [ints_length] at h9
    refine h9.mono ?_
    rintro e w' ⟨v, rfl, ho, hb'⟩
    obtain ⟨A', c', rfl⟩ := own_slice ho
    exact ⟨A', c', rfl, ho, hb'⟩
  have HCL : Hid (∀ W', Bk W W' → W'.cell? ⟨b, 0, none⟩ = some (.int .i64 n) ∧ W'.cell? ⟨b, 1, none⟩ = some (.slice A l.length c) ∧ Bk W W') := fun W' hb => ⟨cell_of (blk_bl h.box hb.below) 0, cell_of (blk_bl h.box hb.below) 1, hb⟩
  have HB0 : Hid (Bk W W.drew) := ⟨bl_drew (Below.refl _ _)⟩
  have HH : Hid (l.length = (n + 63) / 64 ∧ (∀ x ∈ l, x < 18446744073709551616) ∧ n ≤ 65534) := ⟨h.len, h.lt, h.le⟩
  obtain ⟨ln, hln⟩ : ∃ ln, ln = l.length := ⟨_, rfl⟩
  have HLN := Lib.hid hln
  rw [← hln] at HCO HCL
  clear h hA hl9 hln
  go_enter Tryz.func111, Tryz.ntmps111
  go_wp2_with fail
  go_region_held3 (fun W' => W'.cell? ⟨b, 0, none⟩ = some (.int .i64 n) ∧ W'.cell? ⟨b, 1, none⟩ = some (.slice A ln c) ∧ Bk W W')
    (first | exact HCL.out _ HB0.out | exact HCL.out _ HC5.out | exact HCL.out _ ⟨bl_alloc HC5.out.below _⟩)
    (first | (go_at_call 75; refine (HCO.out HB0.out).mono ?_; rintro e w5 ⟨A5, c5, rfl, ho5, hb5⟩; (have HO5 := Lib.hid ho5); (have HC5 : Hid (Bk W w5) := ⟨bl_then HB0.out.below hb5⟩); clear ho5 hb5))
  go_wp2_with fail
  go_ret
  have hb : Below w5.heap.size w5 (w5.alloc (.cells #[.int .i64 n, .slice A5 ln c5] 182)) := bl_alloc (Below.refl _ _) _
  have hsz : W.heap.size ≤ w5.heap.size := HC5.out.below.size
  refine ⟨_, A5, c5, rfl, ⟨by rw [← HLN.out]; exact alloc_new _ _, by rw [← HLN.out]; exact own_bl HO5.out hb, hsz, fun a ha e => ?_, HH.out.1, HH.out.2.1, HH.out.2.2⟩, bl_then HC5.out.below hb⟩
  obtain ⟨cur, hc9⟩ := Bm.own_blk' (k := a.block) HO5.out (by rw [ha]; rfl)
  have := lt_of hc9
  omega

theorem cblocks_ {W : World} {B q b1 b2 n : Nat} {l1 l2 : List Nat} {g1 g2 c1 c2 : Nat} {es : List Own} {LA : Option Addr} {lc : Nat} (h : Cl W B q b1 b2 n l1 l2 g1 g2 c1 c2 es LA lc) :
    Calls Tryz.prog 54 #[.pointer (some ⟨q, 0, none⟩)] W fun e w' => ∃ b' A' c', e = .returned (.pointer (some ⟨b', 0, none⟩)) ∧ Bm w' W.heap.size b' n l1 A' c' ∧ Below W.heap.size W w' := by
  have hu := Tryz.underlying179
  have HC := Lib.hid (copy_ h.bm1 (fun e => by cases e))
  have k1 := cell_of h.blk 1
  clear h
  go_enter Tryz.func54, Tryz.ntmps54
  go_wp2_with fail
  refine HC.out.mono ?_
  rintro e w1 ⟨b', A', c', rfl, hm, hb⟩
  have HM := Lib.hid (And.intro hm hb)
  clear hm hb
  go_wp2_with fail
  go_ret
  exact ⟨_, A', c', rfl, HM.out⟩
theorem cslots_ {W : World} {B q b1 b2 n : Nat} {l1 l2 : List Nat} {g1 g2 c1 c2 : Nat} {es : List Own} {LA : Option Addr} {lc : Nat} (h : Cl W B q b1 b2 n l1 l2 g1 g2 c1 c2 es LA lc) :
    Calls Tryz.prog 62 #[.pointer (some ⟨q, 0, none⟩)] W fun e w' => ∃ b' A' c', e = .returned (.pointer (some ⟨b', 0, none⟩)) ∧ Bm w' W.heap.size b' n l2 A' c' ∧ Below W.heap.size W w' := by
  have hu := Tryz.underlying179
  have HC := Lib.hid (copy_ h.bm2 (fun e => by cases e))
  have k1 := cell_of h.blk 2
  clear h
  go_enter Tryz.func62, Tryz.ntmps62
  go_wp2_with fail
  refine HC.out.mono ?_
  rintro e w1 ⟨b', A', c', rfl, hm, hb⟩
  have HM := Lib.hid (And.intro hm hb)
  clear hm hb
  go_wp2_with fail
  go_ret
  exact ⟨_, A', c', rfl, HM.out⟩

/-- the slice (A, ..) reads as these entries -/
def OR (w : World) (A : Option Addr) (l : List Own) : Prop := ∀ (i : Nat) p, l[i]? = some p → ∃ q off, A = some ⟨q, off, none⟩ ∧ q < w.heap.size ∧ w.cell? ⟨q, off + i * 5, none⟩ = some (.int .i64 p.k) ∧ w.cell? ⟨q, off + i * 5 + 1, none⟩ = some (.int .i64 p.h) ∧ w.cell? ⟨q, off + i * 5 + 2, none⟩ = some (.int .i64 p.z) ∧
  w.cell? ⟨q, off + i * 5 + 3, none⟩ = some (.slice p.sa p.L.length p.sc) ∧ w.cell? ⟨q, off + i * 5 + 4, none⟩ = some (.slice p.pa p.L.length p.pc)
theorem OR.below {w w' : World} {A : Option Addr} {l : List Own} (h : OR w A l) (hb : Below w.heap.size w w') : OR w' A l := by
  intro i p hi
  obtain ⟨q, off, rfl, h0, h1, h2, h3, h4, h5⟩ := h i p hi
  exact ⟨q, off, rfl, Nat.lt_of_lt_of_le h0 hb.size, (hb.cell (p := ⟨q, _, none⟩) h0).trans h1, (hb.cell (p := ⟨q, _, none⟩) h0).trans h2, (hb.cell (p := ⟨q, _, none⟩) h0).trans h3, (hb.cell (p := ⟨q, _, none⟩) h0).trans h4, (hb.cell (p := ⟨q, _, none⟩) h0).trans h5⟩
theorem own_or {w : World} {B T n : Nat} {A : Option Addr} {c : Nat} {l : List Own} (h : w.ownsRow B T 5 (.slice A n c) n (ovs l)) : OR w A l := by
  obtain ⟨h1, ⟨h2, h3⟩ | ⟨g, cap, cur, hv, hg, hb, hn, hm, hs, ht⟩⟩ := h
  · intro i p hi
    have hl : (ovs l).length = 0 := by simp only [Value.slice.injEq] at h2; omega
    rw [ovs_length] at hl
    have : l = [] := by cases l with | nil => rfl | cons a r => simp at hl
    subst this
    simp at hi
  · intro i p hi
    simp only [Value.slice.injEq] at hv
    obtain ⟨rfl, -, -⟩ := hv
    obtain ⟨g1, g2, g3, g4, g5⟩ := ovs_get hi
    have key : ∀ {j : Nat} {v : Value}, (ovs l)[j]? = some v → w.cell? ⟨g, 0 + j, none⟩ = some v := fun {j} {v} hj => by
      rw [cell_of hb, Nat.zero_add]
      rw [← ht, List.getElem?_take] at hj
      split at hj
      · simpa using hj
      · cases hj
    exact ⟨g, 0, rfl, lt_of hb, key g1, key g2, key g3, key g4, key g5⟩

def ixO (es : List Own) : Int := match es.findIdx? (fun e => decide (e.k = 0)) with | none => -1 | some i => (i : Int)
theorem next1_ (k h z : Int) (a b : Value) (w : World) : Calls Tryz.prog 155 #[.agg #[.int .i64 k, .int .i64 h, .int .i64 z, a, b]] w fun e w' => e = .returned (.bool (k == 0)) ∧ Below w.heap.size w w' := by
  have hu := Tryz.underlying185
  have hu2 := Tryz.underlying42
  go_enter Tryz.func155, Tryz.ntmps155
  go_wp2_with fail
  go_ret
  exact ⟨rfl, bl_alloc (Below.refl _ _) _⟩

end Go.Proofs.YtgnagbbdnlmgeaaGreat.Cm
end

/- claim.NextInode; zero images; cantlelaw17.stretch, zero. -/
section
set_option linter.unusedVariables false
set_option linter.unusedSimpArgs false
set_option maxHeartbeats 4000000
set_option maxRecDepth 100000
namespace Go.Proofs.YtgnagbbdnlmgeaaGreat.Cm
open Go Go.RowKit
open Go.Proofs.YtgnagbbdnlmgeaaGreat.Rr Go.Proofs.YtgnagbbdnlmgeaaGreat.Ob Go.Proofs.YtgnagbbdnlmgeaaGreat.Ba Go.Proofs.YtgnagbbdnlmgeaaGreat.Ko Go.Proofs.YtgnagbbdnlmgeaaGreat.Ge Go.Proofs.YtgnagbbdnlmgeaaGreat.Oc Go.Proofs.YtgnagbbdnlmgeaaGreat.Pk Go.Proofs.YtgnagbbdnlmgeaaGreat.Su Go.Proofs.YtgnagbbdnlmgeaaGreat.Rf Go.Proofs.YtgnagbbdnlmgeaaGreat.Dv Go.Proofs.YtgnagbbdnlmgeaaGreat.Vo Go.Proofs.YtgnagbbdnlmgeaaGreat.Ra Go.Proofs.YtgnagbbdnlmgeaaGreat.Jh Go.Proofs.YtgnagbbdnlmgeaaGreat.Tr Go.Proofs.YtgnagbbdnlmgeaaGreat.Iq Go.Proofs.YtgnagbbdnlmgeaaGreat.Bm Go.Proofs.YtgnagbbdnlmgeaaGreat.In Go.Proofs.YtgnagbbdnlmgeaaGreat.Je Go.Proofs.YtgnagbbdnlmgeaaGreat.Lo Go.Proofs.YtgnagbbdnlmgeaaGreat.Ho

/-- the least free inode -/
def ixD : List Dat → Nat → Int
  | [], _ => -1
  | d :: r, i => if d.1.1 = 0 then (i : Int) else ixD r (i + 1)

theorem indexO_ {w : World} {A : Option Addr} {l : List Own} (h : OR w A l) (c : Nat) (hl : l.length ≤ 1000000000) :
    Calls Tryz.prog 154 #[.slice A l.length c, .func (.func 155) #[] #[]] w fun e w' => e = .returned (.int .i64 (ixD (l.map Own.dat) 0)) ∧ Below w.heap.size w w' := by
  have hu := Tryz.underlying185
  have H := Lib.hid h
  obtain ⟨m, hm⟩ : ∃ m, m = l.length := ⟨_, rfl⟩
  rw [← hm] at hl
  rw [← hm]
  have HN := Lib.hid hm
  obtain ⟨R, hR⟩ : ∃ R, R = ixD (l.map Own.dat) 0 := ⟨_, rfl⟩
  rw [← hR]
  have HR0 : Hid (R = ixD ((l.drop 0).map Own.dat) 0) := hR
  clear h hm hR
  go_enter Tryz.func154, Tryz.ntmps154
  go_wp2_with fail
  go_loopw [8] (fun c8 wr => ∃ i : Nat, i ≤ m ∧ c8 = .int .i64 i ∧ Hid (R = ixD ((l.drop i).map Own.dat) i ∧ Below w.heap.size w wr)) (fun c8 _ => m - (intOf c8).toNat)
  case atStart => exact ⟨0, Nat.zero_le _, rfl, HR0.out, Below.refl _ _⟩
  case round =>
    obtain ⟨i, hi, rfl, HR⟩ := hrel
    by_cases hlt : i < m
    · obtain ⟨p, hp⟩ := some_at (l := l) (i := i) (by rw [← HN.out]; exact hlt)
      obtain ⟨g, off, rfl, -, g1, g2, g3, g4, g5⟩ := (H.out.below HR.out.2) i p hp
      have hdr : l.drop i = p :: l.drop (i + 1) := by
        obtain ⟨h1, h2⟩ := List.getElem?_eq_some_iff.1 hp
        rw [List.drop_eq_getElem_cons h1, h2]
      have HD : Hid (R = if p.k = 0 then (i : Int) else ixD ((l.drop (i + 1)).map Own.dat) (i + 1)) := by
        show _ = _
        rw [HR.out.1, hdr]
        rfl
      have HC := Lib.hid (next1_ p.k p.h p.z (.slice p.sa p.L.length p.sc) (.slice p.pa p.L.length p.pc) wr)
      obtain ⟨k, h, z, sa, sc, pa, pc, L⟩ := p
      simp only at g1 g2 g3 g4 g5 HC HD
      clear hp hdr
      generalize L.length = ll at *
      by_cases hk : k = 0
      · subst hk
        rw [if_pos rfl] at HD
        go_wp2_with fail
        refine HC.out.mono ?_
        rintro e w2 ⟨rfl, hb2⟩
        have HB2 := Lib.hid (bl_then HR.out.2 hb2)
        clear hb2
        go_wp2_with fail
        go_ret
        exact ⟨by rw [HD.out]; rfl, HB2.out⟩
      · have hk0 : (k == 0) = false := beq_eq_false_iff_ne.2 hk
        rw [hk0] at HC
        rw [if_neg hk] at HD
        clear hk
        go_wp2_with fail
        refine HC.out.mono ?_
        rintro e w2 ⟨rfl, hb2⟩
        have HB2 := Lib.hid (bl_then HR.out.2 hb2)
        clear hb2
        go_wp2_with fail
        go_roundw
        case rel => exact ⟨i + 1, by omega, by go_num, HD.out, HB2.out⟩
        case measure => simp [intOf]; omega
    · obtain rfl : i = m := by omega
      have HD : Hid (R = -1) := by
        show _ = _
        rw [HR.out.1, List.drop_of_length_le (by rw [← HN.out]; exact Nat.le_refl _)]
        rfl
      go_wp2_with fail
      go_ret
      exact ⟨by rw [HD.out]; rfl, HR.out.2⟩

theorem nexti_ {W : World} {B q b1 b2 n : Nat} {l1 l2 : List Nat} {g1 g2 c1 c2 : Nat} {es : List Own} {LA : Option Addr} {lc : Nat} (h : Cl W B q b1 b2 n l1 l2 g1 g2 c1 c2 es LA lc) (hl : es.length ≤ 1000000000) :
    Calls Tryz.prog 107 #[.pointer (some ⟨q, 0, none⟩)] W fun e w' => e = .returned (.int .i64 (ixD (es.map Own.dat) 0)) ∧ Below W.heap.size W w' := by
  have hu := Tryz.underlying179
  have HC := Lib.hid (indexO_ (own_or h.row) lc hl)
  have k1 := cell_of h.blk 0
  clear h hl
  go_enter Tryz.func107, Tryz.ntmps107
  go_wp2_with fail
  refine HC.out.mono ?_
  rintro e w1 ⟨rfl, hb⟩
  have HM := Lib.hid hb
  clear hb
  go_wp2_with fail
  go_ret
  exact ⟨rfl, HM.out⟩

theorem zero_ (W : World) : Calls Tryz.prog 50 #[] W fun e w' => e = .returned (.agg #[.int .u8 4, .int .u8 2, .int .u8 0, .slice none 0 0]) ∧ Below W.heap.size W w' := by
  have hu := Tryz.underlying24
  go_enter Tryz.func50, Tryz.ntmps50
  go_wp2_with fail
  exact bodyPost_ret (res_c rfl _ _ W.heap.size 24 #[.int .u8 4, .int .u8 2, .int .u8 0, .slice none 0 0] (0, 0) _ rfl (alloc_new W _) hu rfl (by kernel_rfl)) rfl ⟨rfl, bl_alloc (Below.refl _ _) _⟩
theorem stretch_ (b : Int) (W : World) : Calls Tryz.prog 52 #[.int .i64 b] W fun e w' => e = .returned (.agg #[.int .i64 b, .int .i64 1, .int .i64 (-1)]) ∧ Below W.heap.size W w' := by
  have hu := Tryz.underlying51
  go_enter Tryz.func52, Tryz.ntmps52
  go_wp2_with fail
  exact bodyPost_ret (res_c rfl _ _ W.heap.size 51 #[.int .i64 b, .int .i64 1, .int .i64 (-1)] (0, 0) _ rfl (alloc_new W _) hu rfl (by kernel_rfl)) rfl ⟨rfl, bl_alloc (Below.refl _ _) _⟩

end Go.Proofs.YtgnagbbdnlmgeaaGreat.Cm
end

/- Zero images and what is written into them: plain laws. -/
section
set_option linter.unusedVariables false
set_option linter.unusedSimpArgs false
set_option maxRecDepth 100000
namespace Go.Proofs.YtgnagbbdnlmgeaaGreat.Cm
open Go Go.RowKit
open Go.Proofs.YtgnagbbdnlmgeaaGreat.Rr Go.Proofs.YtgnagbbdnlmgeaaGreat.Ob Go.Proofs.YtgnagbbdnlmgeaaGreat.Ba Go.Proofs.YtgnagbbdnlmgeaaGreat.Ko Go.Proofs.YtgnagbbdnlmgeaaGreat.Ge Go.Proofs.YtgnagbbdnlmgeaaGreat.Oc Go.Proofs.YtgnagbbdnlmgeaaGreat.Pk Go.Proofs.YtgnagbbdnlmgeaaGreat.Su Go.Proofs.YtgnagbbdnlmgeaaGreat.Rf Go.Proofs.YtgnagbbdnlmgeaaGreat.Dv Go.Proofs.YtgnagbbdnlmgeaaGreat.Vo Go.Proofs.YtgnagbbdnlmgeaaGreat.Ra Go.Proofs.YtgnagbbdnlmgeaaGreat.Jh Go.Proofs.YtgnagbbdnlmgeaaGreat.Tr Go.Proofs.YtgnagbbdnlmgeaaGreat.Iq Go.Proofs.YtgnagbbdnlmgeaaGreat.Bm Go.Proofs.YtgnagbbdnlmgeaaGreat.In Go.Proofs.YtgnagbbdnlmgeaaGreat.Je Go.Proofs.YtgnagbbdnlmgeaaGreat.Lo Go.Proofs.YtgnagbbdnlmgeaaGreat.Ho

theorem zero_at {r0 r1 r2 n m s T p3 p4 p5 : Nat} {ws : List Nat} (hi : Im r0 r1 r2 [] n m s T p3 p4 p5 ws) {i : Nat} (h8 : 8 ≤ i) (hT : i < T) : ws[i]? = some 0 := by
  have h1 := dws_at (ints (enc n m s)) (ints []) T i rfl h8 hT
  rw [hi.words] at h1
  have h2 : rwd (ints []) i = 0 := by simp [rwd, ints]
  rw [h2] at h1
  obtain ⟨hl, he⟩ := List.getElem?_eq_some_iff.1 h1
  have hl2 : i < ws.length := by rw [ints_length] at hl; exact hl
  obtain ⟨x, hx⟩ := some_at (l := ws) (i := i) hl2
  have h3 := ints_get hx
  rw [h1] at h3
  have : (0 : Int) = (x : Int) := Option.some.inj h3
  rw [hx]
  congr 1
  omega

def wputN (l : List Nat) (a : Nat) : List Nat → List Nat
  | [] => l
  | x :: r => wputN (l.set a x) (a + 1) r
theorem ints_set (l : List Nat) (a x : Nat) : (ints l).set a (x : Int) = ints (l.set a x) := by simp [ints]
theorem wputN_ints : ∀ (xs l : List Nat) (a : Nat), wput (ints l) a (ints xs) = ints (wputN l a xs)
  | [], l, a => rfl
  | x :: r, l, a => by
    show wput ((ints l).set a (x : Int)) (a + 1) (ints r) = _
    rw [ints_set, wputN_ints r]
    rfl
theorem wputN_len : ∀ (xs l : List Nat) (a : Nat), (wputN l a xs).length = l.length
  | [], l, a => rfl
  | x :: r, l, a => by show (wputN (l.set a x) (a + 1) r).length = _; rw [wputN_len r, List.length_set]
theorem wputN_out : ∀ (xs l : List Nat) (a i : Nat), (i < a ∨ a + xs.length ≤ i) → (wputN l a xs)[i]? = l[i]?
  | [], l, a, i, _ => rfl
  | x :: r, l, a, i, h => by
    simp only [List.length_cons] at h
    show (wputN (l.set a x) (a + 1) r)[i]? = _
    rw [wputN_out r _ _ _ (by omega), List.getElem?_set_ne (by omega)]
theorem wputN_in : ∀ (xs l : List Nat) (a j : Nat), a + xs.length ≤ l.length → j < xs.length → (wputN l a xs)[a + j]? = xs[j]?
  | [], l, a, j, _, hj => by simp at hj
  | x :: r, l, a, j, h, hj => by
    simp only [List.length_cons] at h hj
    show (wputN (l.set a x) (a + 1) r)[a + j]? = _
    cases j with
    | zero =>
      rw [wputN_out r _ _ _ (by omega), Nat.add_zero, List.getElem?_set_self (by omega)]
      rfl
    | succ j =>
      rw [show a + (j + 1) = a + 1 + j by omega, wputN_in r _ _ _ (by rw [List.length_set]; omega) (by omega)]
      rfl
theorem wputN_lt {xs l : List Nat} {a : Nat} (h1 : ∀ x ∈ xs, x < 18446744073709551616) (h2 : ∀ x ∈ l, x < 18446744073709551616) : ∀ x ∈ wputN l a xs, x < 18446744073709551616 := by
  induction xs generalizing l a with
  | nil => exact h2
  | cons y r ih =>
    refine ih (fun x hx => h1 x (by simp [hx])) (fun x hx => ?_)
    rcases List.mem_or_eq_of_mem_set hx with h | h
    · exact h2 x h
    · rw [h]; exact h1 y (by simp)

theorem iLine_ltC (k h z : Int) (hb : iB k h z = true) : ∀ x ∈ iLine k h z, x < 18446744073709551616 := by
  intro x hx
  rcases of_decide_eq_true hb with ⟨rfl, rfl, rfl⟩ | ⟨h1, h2, h3, h4, h5, h6, h7⟩
  · simp [iLine] at hx
    omega
  · unfold iLine at hx
    rw [if_neg (by omega)] at hx
    have hs := sum7_lt (k.toNat + 65536 * (h + 1).toNat) z.toNat
    simp only [line, List.mem_cons, List.not_mem_nil, or_false] at hx
    rcases hx with rfl | rfl | rfl | rfl | rfl | rfl | rfl | rfl <;> omega

theorem line_ok (k h z : Int) (hb : iB k h z = true) : ok6 (iLine k h z) = true ∧ n6 (iLine k h z) = (k, h, z) := by
  rcases of_decide_eq_true hb with ⟨rfl, rfl, rfl⟩ | ⟨h1, h2, h3, h4, h5, h6, h7⟩
  · exact ⟨by decide, by decide⟩
  · have e0 : (iLine k h z).getD 0 0 = k.toNat + 65536 * (h + 1).toNat := by unfold iLine; rw [if_neg (by omega)]; rfl
    have e1 : (iLine k h z).getD 1 0 = z.toNat := by unfold iLine; rw [if_neg (by omega)]; rfl
    have a1 : (((k.toNat + 65536 * (h + 1).toNat) % 65536 : Nat) : Int) = k := by omega
    have a2 : (((k.toNat + 65536 * (h + 1).toNat) / 65536 : Nat) : Int) - 1 = h := by omega
    have a3 : (z.toNat : Int) = z := by omega
    have hok : ok6 (iLine k h z) = true := by
      unfold ok6
      rw [e0, e1, a1, a2, a3, hb, decide_eq_true (p := k.toNat + 65536 * (h + 1).toNat < 4294967296) (by omega), decide_eq_true (p := z.toNat ≤ 268435456) (by omega), decide_eq_true (rfl : iLine k h z = iLine k h z)]
      rfl
    refine ⟨hok, ?_⟩
    unfold n6
    rw [hok, e0, e1, a1, a2, a3]
    rfl

/-- an image of five blocks and three inodes: what its lines and two of its slots tell -/
structure Zs (ws : List Nat) (f0 f1 : Int × Int × Int) (u0 u1 : Option Tri) : Prop where
  len : ws.length = 96
  lt : ∀ x ∈ ws, x < 18446744073709551616
  i0 : inF ws 3 0 = some f0
  i1 : inF ws 3 1 = some f1
  i2 : inF ws 3 2 = some (0, -1, 0)
  s0 : slF ws 5 3 0 = u0
  s1 : slF ws 5 3 1 = u1

theorem inF_at {ws : List Nat} {i : Nat} (hi : i < 3) {l : List Nat} (h : inL ws i = l) (hok : ok6 l = true) : inF ws 3 i = some (n6 l) := by
  unfold inF
  rw [if_pos (by omega), show ((i : Nat) : Int).toNat = i from by omega, h, if_pos hok]
theorem inL_ext {ws l : List Nat} {i : Nat} (hl : l.length = 8) (h : ∀ j, j < 8 → ws[16 + 8 * i + j]? = l[j]?) : inL ws i = l := by
  unfold inL
  apply List.ext_getElem?
  intro j
  rw [List.getElem?_take]
  by_cases hj : j < 8
  · rw [if_pos hj, List.getElem?_drop]
    exact h j hj
  · rw [if_neg hj, List.getElem?_eq_none (by omega)]
theorem inF_same {ws ws' : List Nat} {i : Nat} (hi : i < 3) (h : ∀ j, j < 8 → ws'[16 + 8 * i + j]? = ws[16 + 8 * i + j]?) : inF ws' 3 i = inF ws 3 i := by
  have : inL ws' i = inL ws i := by
    unfold inL
    apply List.ext_getElem?
    intro j
    rw [List.getElem?_take, List.getElem?_take]
    by_cases hj : j < 8
    · rw [if_pos hj, if_pos hj, List.getElem?_drop, List.getElem?_drop]
      exact h j hj
    · rw [if_neg hj, if_neg hj]
  unfold inF
  rw [show ((i : Nat) : Int).toNat = i from by omega, this]
theorem slF_same {ws ws' : List Nat} {i : Nat} (h : ws'[40 + i]? = ws[40 + i]?) : slF ws' 5 3 i = slF ws 5 3 i := by
  unfold slF
  have : ws'.getD (16 + 8 * 3 + ((i : Nat) : Int).toNat) 0 = ws.getD (16 + 8 * 3 + ((i : Nat) : Int).toNat) 0 := by
    rw [List.getD_eq_getElem?_getD, List.getD_eq_getElem?_getD, show 16 + 8 * 3 + ((i : Nat) : Int).toNat = 40 + i by omega, h]
  rw [this]

theorem Zs.inode0 {ws : List Nat} {f0 f1 : Int × Int × Int} {u0 u1 : Option Tri} (h : Zs ws f0 f1 u0 u1) (k hd z : Int) (hb : iB k hd z = true) : Zs (wputN ws 16 (iLine k hd z)) (k, hd, z) f1 u0 u1 := by
  obtain ⟨h1, h2⟩ := line_ok k hd z hb
  have hl := iLine_len k hd z
  refine ⟨by rw [wputN_len]; exact h.len, wputN_lt (iLine_ltC k hd z hb) h.lt, ?_, ?_, ?_, ?_, ?_⟩
  · rw [← h2]
    exact inF_at (i := 0) (by omega) (inL_ext hl (fun j hj => wputN_in _ _ 16 j (by rw [hl, h.len]; omega) (by rw [hl]; exact hj))) h1
  · rw [← h.i1]; exact inF_same (i := 1) (by omega) (fun j hj => wputN_out _ _ _ _ (by rw [hl]; omega))
  · rw [← h.i2]; exact inF_same (i := 2) (by omega) (fun j hj => wputN_out _ _ _ _ (by rw [hl]; omega))
  · rw [← h.s0]; exact slF_same (i := 0) (wputN_out _ _ _ _ (by rw [hl]; omega))
  · rw [← h.s1]; exact slF_same (i := 1) (wputN_out _ _ _ _ (by rw [hl]; omega))
theorem Zs.inode1 {ws : List Nat} {f0 f1 : Int × Int × Int} {u0 u1 : Option Tri} (h : Zs ws f0 f1 u0 u1) (k hd z : Int) (hb : iB k hd z = true) : Zs (wputN ws 24 (iLine k hd z)) f0 (k, hd, z) u0 u1 := by
  obtain ⟨h1, h2⟩ := line_ok k hd z hb
  have hl := iLine_len k hd z
  refine ⟨by rw [wputN_len]; exact h.len, wputN_lt (iLine_ltC k hd z hb) h.lt, ?_, ?_, ?_, ?_, ?_⟩
  · rw [← h.i0]; exact inF_same (i := 0) (by omega) (fun j hj => wputN_out _ _ _ _ (by rw [hl]; omega))
  · rw [← h2]
    exact inF_at (i := 1) (by omega) (inL_ext hl (fun j hj => wputN_in _ _ 24 j (by rw [hl, h.len]; omega) (by rw [hl]; exact hj))) h1
  · rw [← h.i2]; exact inF_same (i := 2) (by omega) (fun j hj => wputN_out _ _ _ _ (by rw [hl]; omega))
  · rw [← h.s0]; exact slF_same (i := 0) (wputN_out _ _ _ _ (by rw [hl]; omega))
  · rw [← h.s1]; exact slF_same (i := 1) (wputN_out _ _ _ _ (by rw [hl]; omega))
theorem Zs.slot0 {ws : List Nat} {f0 f1 : Int × Int × Int} {u0 u1 : Option Tri} (h : Zs ws f0 f1 u0 u1) (a b c : Int) (hm : sMay a b c = true) : Zs (ws.set 40 (sEnc a b c)) f0 f1 (some (a, b, c)) u1 := by
  refine ⟨by rw [List.length_set]; exact h.len, fun x hx => ?_, ?_, ?_, ?_, ?_, ?_⟩
  · rcases List.mem_or_eq_of_mem_set hx with h9 | h9
    · exact h.lt x h9
    · rw [h9]; exact sEnc_lt _ _ _ hm
  · rw [← h.i0]; exact inF_same (i := 0) (by omega) (fun j hj => List.getElem?_set_ne (by omega))
  · rw [← h.i1]; exact inF_same (i := 1) (by omega) (fun j hj => List.getElem?_set_ne (by omega))
  · rw [← h.i2]; exact inF_same (i := 2) (by omega) (fun j hj => List.getElem?_set_ne (by omega))
  · exact slF_hit (m := 3) (s := 0) (by omega) (by rw [h.len]; omega) hm
  · rw [← h.s1]; exact slF_same (i := 1) (List.getElem?_set_ne (by omega))
theorem Zs.slot1 {ws : List Nat} {f0 f1 : Int × Int × Int} {u0 u1 : Option Tri} (h : Zs ws f0 f1 u0 u1) (a b c : Int) (hm : sMay a b c = true) : Zs (ws.set 41 (sEnc a b c)) f0 f1 u0 (some (a, b, c)) := by
  refine ⟨by rw [List.length_set]; exact h.len, fun x hx => ?_, ?_, ?_, ?_, ?_, ?_⟩
  · rcases List.mem_or_eq_of_mem_set hx with h9 | h9
    · exact h.lt x h9
    · rw [h9]; exact sEnc_lt _ _ _ hm
  · rw [← h.i0]; exact inF_same (i := 0) (by omega) (fun j hj => List.getElem?_set_ne (by omega))
  · rw [← h.i1]; exact inF_same (i := 1) (by omega) (fun j hj => List.getElem?_set_ne (by omega))
  · rw [← h.i2]; exact inF_same (i := 2) (by omega) (fun j hj => List.getElem?_set_ne (by omega))
  · rw [← h.s0]; exact slF_same (i := 0) (List.getElem?_set_ne (by omega))
  · exact slF_hit (m := 3) (s := 1) (by omega) (by rw [h.len]; omega) hm

end Go.Proofs.YtgnagbbdnlmgeaaGreat.Cm
end

/- Zero images scanned; cantlelaw17.Lives. -/
section
set_option linter.unusedVariables false
set_option linter.unusedSimpArgs false
set_option maxHeartbeats 4000000
set_option maxRecDepth 100000
namespace Go.Proofs.YtgnagbbdnlmgeaaGreat.Cm
open Go Go.RowKit
open Go.Proofs.YtgnagbbdnlmgeaaGreat.Rr Go.Proofs.YtgnagbbdnlmgeaaGreat.Ob Go.Proofs.YtgnagbbdnlmgeaaGreat.Ba Go.Proofs.YtgnagbbdnlmgeaaGreat.Ko Go.Proofs.YtgnagbbdnlmgeaaGreat.Ge Go.Proofs.YtgnagbbdnlmgeaaGreat.Oc Go.Proofs.YtgnagbbdnlmgeaaGreat.Pk Go.Proofs.YtgnagbbdnlmgeaaGreat.Su Go.Proofs.YtgnagbbdnlmgeaaGreat.Rf Go.Proofs.YtgnagbbdnlmgeaaGreat.Dv Go.Proofs.YtgnagbbdnlmgeaaGreat.Vo Go.Proofs.YtgnagbbdnlmgeaaGreat.Ra Go.Proofs.YtgnagbbdnlmgeaaGreat.Jh Go.Proofs.YtgnagbbdnlmgeaaGreat.Tr Go.Proofs.YtgnagbbdnlmgeaaGreat.Iq Go.Proofs.YtgnagbbdnlmgeaaGreat.Bm Go.Proofs.YtgnagbbdnlmgeaaGreat.In Go.Proofs.YtgnagbbdnlmgeaaGreat.Je Go.Proofs.YtgnagbbdnlmgeaaGreat.Lo Go.Proofs.YtgnagbbdnlmgeaaGreat.Ho Go.Proofs.YtgnagbbdnlmgeaaGreat.Jd

theorem zero_im {n m s T p3 p4 p5 : Nat} {ws : List Nat} (hi : Im 4 2 0 [] n m s T p3 p4 p5 ws) : n = 5 ∧ m = 3 ∧ s = 64 ∧ T = 96 ∧ Zs ws (0, -1, 0) (0, -1, 0) none none := by
  have h1 : n = 5 := hi.n_is
  have h2 : m = 3 := hi.m_is
  have h3 : s = 64 := hi.s_is
  have h4 : T = 96 := by
    have h9 := hi.T_is
    rw [h1, h2, h3] at h9
    have h8 : tot 5 3 64 = 96 := by decide
    have h9' : (T : Int) = tot 5 3 64 := h9
    omega
  have hz : ∀ i : Nat, 8 ≤ i → i < 96 → ws[i]? = some 0 := fun i h8 hT => zero_at hi h8 (by rw [h4]; exact hT)
  have hln : ∀ i : Nat, i < 3 → inF ws 3 i = some (0, -1, 0) := fun i hi3 => by
    have h9 := inF_at hi3 (inL_ext (ws := ws) (l := List.replicate 8 0) (i := i) (by simp) (fun j hj => by rw [hz _ (by omega) (by omega), List.getElem?_replicate, if_pos hj])) (by decide)
    rw [h9]
    decide
  have hsl : ∀ i : Nat, i < 5 → slF ws 5 3 i = none := fun i hi5 => by
    unfold slF
    have e : ws.getD (16 + 8 * 3 + ((i : Nat) : Int).toNat) 0 = 0 := by
      rw [List.getD_eq_getElem?_getD, hz _ (by omega) (by omega)]
      rfl
    have h0 : ok7 0 = false := by decide
    rw [e, h0]
    simp
  exact ⟨h1, h2, h3, h4, by rw [hi.len, h4], hi.lt, hln 0 (by omega), hln 1 (by omega), hln 2 (by omega), hsl 0 (by omega), hsl 1 (by omega)⟩

theorem take_free (n s : Nat) (sl : Int → Option Tri) (l1 l2 : List Nat) : takeF n s sl l1 l2 (-1) 0 = some (l1, l2, []) := by
  unfold takeF
  rw [chainF_stop]
  simp [runsOf, sumR, needF, turnL, blocksOf]
theorem scan_zero {ws : List Nat} {u0 u1 : Option Tri} (h : Zs ws (0, -1, 0) (0, -1, 0) u0 u1) : scanF 5 3 64 ws = some ([0], [0], [((0, -1, 0), []), ((0, -1, 0), []), ((0, -1, 0), [])]) := by
  have h0 : inF ws 3 ((0 : Nat) : Int) = some (0, -1, 0) := h.i0
  have h1 : inF ws 3 ((0 + 1 : Nat) : Int) = some (0, -1, 0) := h.i1
  have h2 : inF ws 3 ((0 + 1 + 1 : Nat) : Int) = some (0, -1, 0) := h.i2
  unfold scanF
  show scanG 5 64 (slF ws 5 3) (inF ws 3) 3 0 ([0], [0], []) = _
  unfold scanG stepG
  rw [h0]
  simp only [take_free]
  unfold scanG stepG
  rw [h1]
  simp only [take_free]
  unfold scanG stepG
  rw [h2]
  simp only [take_free]
  rfl

theorem lives17 (w : World) : Calls Tryz.prog 48 #[] w fun e w' => e = .returned (.bool true) ∧ Below w.heap.size w w' := by
  have hu := Tryz.underlying30
  obtain ⟨n, m, s, T, p3, p4, p5, ws, hi⟩ := im_ 4 2 0 [] (by simp)
  obtain ⟨rfl, rfl, rfl, rfl, hzs⟩ := zero_im hi
  have HO : Hid (∀ {W : World}, _) := fun {W} => open17N (by decide) (by decide) (by decide) hi (A := none) 0 (by decide) (w := W) (Rk.nil _ _ _)
  have HZ := Lib.hid hzs
  clear hi hzs
  go_enter Tryz.func48, Tryz.ntmps48
  go_wp2_with fail
  refine (zero_ _).mono ?_
  rintro e w1 ⟨rfl, hb1⟩
  have HB1 := Lib.hid hb1
  clear hb1
  go_wp2_with fail
  refine HO.out.mono ?_
  rintro e w2 ⟨v, b, g, a8, c8, rfl, hop⟩
  unfold volA
  have HV2 := Lib.hid (hop.vol.below (bl_alloc (Below.refl _ _) (.cells #[.int .i64 (5 : Nat), .int .i64 (3 : Nat), .int .i64 (64 : Nat), .int .i64 16, .int .i64 (16 + 8 * ((3 : Nat) : Int)), .int .i64 p3, .int .i64 p4, .int .i64 p5, .slice (some a8) (96 : Nat) c8] 30)))
  have HB2 : Hid (Below w.heap.size w (w2.alloc (.cells #[.int .i64 (5 : Nat), .int .i64 (3 : Nat), .int .i64 (64 : Nat), .int .i64 16, .int .i64 (16 + 8 * ((3 : Nat) : Int)), .int .i64 p3, .int .i64 p4, .int .i64 p5, .slice (some a8) (96 : Nat) c8] 30))) := bl_alloc (bl_then HB1.out hop.below) _
  clear hop
  go_wp2_with fail
  refine (lives16 _).mono ?_
  rintro e w3 ⟨rfl, hb3⟩
  have HV3 := Lib.hid (HV2.out.below hb3)
  have HB3 := Lib.hid (bl_then HB2.out hb3)
  clear hb3
  go_wp2_with fail
  refine (scan_ HV3.out (Vs.words_devOf _) HZ.out.lt (by rw [HZ.out.len]; omega) (by decide) (by decide) (by decide)).mono ?_
  rintro e w4 ⟨hso, -, hb4⟩
  obtain ⟨q, b1, b2, g1, g2, c1, c2, es, LA, lc, rfl, hcl, hes⟩ := hso _ (scan_zero HZ.out)
  have HC4 := Lib.hid (And.intro hcl hes)
  have HB4 := Lib.hid (bl_then HB3.out hb4)
  have hlen : es.length = 3 := by have := congrArg List.length hes; simpa using this
  have HNX := Lib.hid (nexti_ hcl (by rw [hlen]; decide))
  rw [hes] at HNX
  have HL := Lib.hid hlen
  clear hso hb4 hcl hes hlen
  go_wp2_with (first | (go_at_call 107; refine HNX.out.mono ?_; rintro e w5 ⟨rfl, hb5⟩; (have HC5 := Lib.hid (HC4.out.1.keep hb5)); (have HB5 := Lib.hid (bl_then HB4.out hb5)); clear hb5) |
    (go_at_call 54; refine (cblocks_ HC5.out).mono ?_; rintro e w6 ⟨b', A', c', rfl, hm6, hb6⟩; (have HM6 := Lib.hid hm6); (have HC6 := Lib.hid (HC5.out.keep hb6)); (have HB6 := Lib.hid (bl_then HB5.out hb6)); clear hm6 hb6) |
    (go_at_call 55; refine (count_ HM6.out (by decide) (by decide)).mono ?_; rintro e w7 ⟨rfl, hw7⟩; (have hw7' := hw7.symm); subst hw7') |
    (go_at_call 62; refine (cslots_ HC6.out).mono ?_; rintro e w8 ⟨b'', A'', c'', rfl, hm8, hb8⟩; (have HM8 := Lib.hid hm8); (have HB8 := Lib.hid (bl_then HB6.out hb8)); clear hm8 hb8) |
    (go_at_call 97; refine (free_ HM8.out (by decide) (by decide)).mono ?_; rintro e w9 ⟨rfl, hb9⟩; (have HB9 := Lib.hid (bl_then HB8.out hb9)); clear hb9))
  go_ret
  exact ⟨rfl, HB9.out⟩

end Go.Proofs.YtgnagbbdnlmgeaaGreat.Cm
end

/- ClaimTwice: the walk. -/
section
set_option linter.unusedVariables false
set_option linter.unusedSimpArgs false
set_option maxHeartbeats 4000000
set_option maxRecDepth 100000
namespace Go.Proofs.YtgnagbbdnlmgeaaGreat.Cm
open Go Go.RowKit
open Go.Proofs.YtgnagbbdnlmgeaaGreat.Rr Go.Proofs.YtgnagbbdnlmgeaaGreat.Ob Go.Proofs.YtgnagbbdnlmgeaaGreat.Ba Go.Proofs.YtgnagbbdnlmgeaaGreat.Ko Go.Proofs.YtgnagbbdnlmgeaaGreat.Ge Go.Proofs.YtgnagbbdnlmgeaaGreat.Oc Go.Proofs.YtgnagbbdnlmgeaaGreat.Pk Go.Proofs.YtgnagbbdnlmgeaaGreat.Su Go.Proofs.YtgnagbbdnlmgeaaGreat.Rf Go.Proofs.YtgnagbbdnlmgeaaGreat.Dv Go.Proofs.YtgnagbbdnlmgeaaGreat.Vo Go.Proofs.YtgnagbbdnlmgeaaGreat.Ra Go.Proofs.YtgnagbbdnlmgeaaGreat.Jh Go.Proofs.YtgnagbbdnlmgeaaGreat.Tr Go.Proofs.YtgnagbbdnlmgeaaGreat.Iq Go.Proofs.YtgnagbbdnlmgeaaGreat.Bm Go.Proofs.YtgnagbbdnlmgeaaGreat.In Go.Proofs.YtgnagbbdnlmgeaaGreat.Je Go.Proofs.YtgnagbbdnlmgeaaGreat.Lo Go.Proofs.YtgnagbbdnlmgeaaGreat.Ho Go.Proofs.YtgnagbbdnlmgeaaGreat.Jd

theorem take_one {sl : Int → Option Tri} {l1 l2 : List Nat} {a b z : Int} (hs : sl a = some (b, 1, -1)) (ha : a ≠ -1) (hb : b ≤ 4) (hz : 1 ≤ z ∧ z ≤ 64) :
    takeF 5 64 sl l1 l2 a z = if ((turnL 5 false l2 [a]).2 : Int) ≠ 1 then none else if ((turnL 5 false l1 [b]).2 : Int) ≠ 1 then none else some ((turnL 5 false l1 [b]).1, (turnL 5 false l2 [a]).1, [(a, (b, 1, -1))]) := by
  have hc : chainF 5 sl 5 a = some [(a, (b, 1, -1))] := by
    rw [chainF_step (k := 4) ha hs (by show ¬ (5 : Int) < b + 1; omega)]
    show (chainF 5 sl 4 (-1)).map _ = _
    rw [chainF_stop]
    rfl
  have h1 : sumR (runsOf [((b, 1, -1) : Tri)]) = 1 := rfl
  have h2 : needF 64 z = 1 := by unfold needF; rw [if_neg (by omega)]; omega
  have h3 : blocksOf [((b, 1, -1) : Tri)] = [b] := by
    show run1 b (1 : Int).toNat ++ [] = [b]
    simp [run1]
  unfold takeF
  rw [hc]
  simp only [List.map_cons, List.map_nil, h1, h2, h3, List.length_cons, List.length_nil]
  rw [if_neg (by simp)]
  rfl

theorem scan_twice {ws : List Nat} {z hm : Int} {u1 : Option Tri} (hz : 1 ≤ z ∧ z ≤ 64) (h : Zs ws (1, 0, z) (1, hm, z) (some (0, 1, -1)) u1) (hh : hm = 0 ∨ hm = 1 ∧ u1 = some (0, 1, -1)) : scanF 5 3 64 ws = none := by
  have h0 : inF ws 3 ((0 : Nat) : Int) = some (1, 0, z) := h.i0
  have h1 : inF ws 3 ((0 + 1 : Nat) : Int) = some (1, hm, z) := h.i1
  have k0 : turnL 5 false [0] [0] = ([1], 1) := by decide
  have t0 : takeF 5 64 (slF ws 5 3) [0] [0] 0 z = some ([1], [1], [(0, (0, 1, -1))]) := by rw [take_one (b := 0) h.s0 (by decide) (by decide) hz, k0]; rfl
  unfold scanF
  show scanG 5 64 (slF ws 5 3) (inF ws 3) 3 0 ([0], [0], []) = _
  unfold scanG stepG
  rw [h0]
  simp only [t0]
  unfold scanG stepG
  rw [h1]
  rcases hh with rfl | ⟨rfl, rfl⟩
  · have k1 : turnL 5 false [1] [0] = ([1], 0) := by decide
    have t1 : takeF 5 64 (slF ws 5 3) [1] [1] 0 z = none := by rw [take_one (b := 0) h.s0 (by decide) (by decide) hz, k1]; rfl
    simp only [t1]
  · have k1 : turnL 5 false [1] [1] = ([3], 1) := by decide
    have k2 : turnL 5 false [1] [0] = ([1], 0) := by decide
    have t1 : takeF 5 64 (slF ws 5 3) [1] [1] 1 z = none := by rw [take_one (b := 0) h.s1 (by decide) (by decide) hz, k1, k2]; rfl
    simp only [t1]
theorem scan_once {ws : List Nat} {z : Int} (hz : 1 ≤ z ∧ z ≤ 64) (h : Zs ws (1, 0, z) (1, 1, z) (some (0, 1, -1)) (some (1, 1, -1))) : ∃ ds, scanF 5 3 64 ws = some ([3], [3], ds) ∧ ds.length = 3 := by
  have h0 : inF ws 3 ((0 : Nat) : Int) = some (1, 0, z) := h.i0
  have h1 : inF ws 3 ((0 + 1 : Nat) : Int) = some (1, 1, z) := h.i1
  have h2 : inF ws 3 ((0 + 1 + 1 : Nat) : Int) = some (0, -1, 0) := h.i2
  have k0 : turnL 5 false [0] [0] = ([1], 1) := by decide
  have k1 : turnL 5 false [1] [1] = ([3], 1) := by decide
  have t0 : takeF 5 64 (slF ws 5 3) [0] [0] 0 z = some ([1], [1], [(0, (0, 1, -1))]) := by rw [take_one (b := 0) h.s0 (by decide) (by decide) hz, k0]; rfl
  have t1 : takeF 5 64 (slF ws 5 3) [1] [1] 1 z = some ([3], [3], [(1, (1, 1, -1))]) := by rw [take_one (b := 1) h.s1 (by decide) (by decide) hz, k1]; rfl
  refine ⟨[((1, 0, z), [(0, (0, 1, -1))]), ((1, 1, z), [(1, (1, 1, -1))]), ((0, -1, 0), [])], ?_, rfl⟩
  unfold scanF
  show scanG 5 64 (slF ws 5 3) (inF ws 3) 3 0 ([0], [0], []) = _
  unfold scanG stepG
  rw [h0]
  simp only [t0]
  unfold scanG stepG
  rw [h1]
  simp only [t1]
  unfold scanG stepG
  rw [h2]
  simp only [take_free]
  rfl

/-- a volume whose device is being written -/
def Vd (W0 W : World) (v b : Nat) (g0 : Lay) (lim : Nat) (ws : List Nat) : Prop :=
  ∃ d g, VolIs W v b 5 3 64 d g ∧ Pm.wordsOf d = ints ws ∧ d.fuse = none ∧ d.steps ≤ lim ∧ (∀ q ∈ g.foot b, q ∈ g0.foot b ∨ W0.heap.size ≤ q) ∧ Upd (g0.foot b) W0 W
theorem Vd.below {W0 W W' : World} {v b : Nat} {g0 : Lay} {lim : Nat} {ws : List Nat} (h : Vd W0 W v b g0 lim ws) (hb : Below W.heap.size W W') : Vd W0 W' v b g0 lim ws := by
  obtain ⟨d, g, h1, h2, h3, h4, h5, h6⟩ := h
  exact ⟨d, g, h1.below hb, h2, h3, h4, h5, h6.trans (Upd.of_below (F := []) hb) (by simp)⟩
theorem vd_inode {W0 W : World} {v b : Nat} {g0 : Lay} {lim : Nat} {ws : List Nat} (h : Vd W0 W v b g0 lim ws) (hl : ws.length = 96) (hlim : lim ≤ 100000) (i : Nat) (hi : i = 0 ∨ i = 1) (k hd z : Int) (hb : iB k hd z = true) :
    Calls Tryz.prog 51 #[.pointer (some ⟨v, 0, none⟩), .int .i64 i, .agg #[.int .i64 k, .int .i64 hd, .int .i64 z]] W fun e w' => e = .returned (.int .i64 0) ∧ Vd W0 w' v b g0 (lim + 100) (wputN ws (16 + 8 * i) (iLine k hd z)) := by
  obtain ⟨d, g, h1, h2, h3, h4, h5, h6⟩ := h
  have hll := iLine_len k hd z
  have hln : d.las.length = 96 := by rw [← Pm.wordsOf_length, h2, ints_length, hl]
  obtain ⟨d2, hput, hpt⟩ := Wp.put_many d h3 (ints (iLine k hd z)) (16 + 8 * i) (by rw [ints_length, hll, hln]; omega)
  refine (setinode_yes h1 (by omega) (i : Int) k hd z (by omega) hb (16 + 8 * i) (by omega) _ hput).mono ?_
  rintro e w' ⟨rfl, hto⟩
  obtain ⟨g2, hv2, hf2, hu2⟩ := h1.to hto (by rw [hpt.las])
  have hnl : nline (16 + 8 * i) 8 ≤ 8 := by rcases hi with rfl | rfl <;> decide
  refine ⟨rfl, d2, g2, hv2, by rw [hpt.words, h2, wputN_ints], hpt.fuse, ?_, fun q hq => ?_, h6.trans hu2 h5⟩
  · have := hpt.steps
    rw [ints_length, hll] at this
    omega
  · rcases hf2 q hq with h9 | h9
    · exact h5 q h9
    · exact .inr (Nat.le_trans h6.size h9)
theorem vd_slot {W0 W : World} {v b : Nat} {g0 : Lay} {lim : Nat} {ws : List Nat} (h : Vd W0 W v b g0 lim ws) (hl : ws.length = 96) (hlim : lim ≤ 100000) (i : Nat) (hi : i = 0 ∨ i = 1) (x y z : Int) (hm : sMay x y z = true) :
    Calls Tryz.prog 41 #[.pointer (some ⟨v, 0, none⟩), .int .i64 i, .agg #[.int .i64 x, .int .i64 y, .int .i64 z]] W fun e w' => e = .returned (.int .i64 0) ∧ Vd W0 w' v b g0 (lim + 100) (ws.set (40 + i) (sEnc x y z)) := by
  obtain ⟨d, g, h1, h2, h3, h4, h5, h6⟩ := h
  have hln : d.las.length = 96 := by rw [← Pm.wordsOf_length, h2, ints_length, hl]
  obtain ⟨d2, hput, hpt⟩ := Wp.put_many d h3 [(sEnc x y z : Int)] (40 + i) (by rw [hln]; simp; omega)
  refine (setslot_yes h1 (by omega) (i : Int) x y z (by omega) hm (40 + i) (by omega) _ hput).mono ?_
  rintro e w' ⟨rfl, hto⟩
  obtain ⟨g2, hv2, hf2, hu2⟩ := h1.to hto (by rw [hpt.las])
  refine ⟨rfl, d2, g2, hv2, ?_, hpt.fuse, ?_, fun q hq => ?_, h6.trans hu2 h5⟩
  · rw [hpt.words, h2]
    show (ints ws).set (40 + i) _ = _
    rw [ints_set]
  · have := hpt.steps
    simp [nline] at this
    omega
  · rcases hf2 q hq with h9 | h9
    · exact h5 q h9
    · exact .inr (Nat.le_trans h6.size h9)
theorem vd_scan {W0 W : World} {v b : Nat} {g0 : Lay} {lim : Nat} {ws : List Nat} (h : Vd W0 W v b g0 lim ws) (hl : ws.length = 96) (hlt : ∀ x ∈ ws, x < 18446744073709551616) :
    Calls Tryz.prog 53 #[.pointer (some ⟨v, 0, none⟩)] W fun e w' =>
      (∀ st, scanF 5 3 64 ws = some st → ∃ q b1 b2 g1 g2 c1 c2 es LA lc, e = .returned (.tuple #[.pointer (some ⟨q, 0, none⟩), .int .i64 0]) ∧ Cl w' W.heap.size q b1 b2 5 st.1 st.2.1 g1 g2 c1 c2 es LA lc ∧ es.map Own.dat = st.2.2) ∧
      (scanF 5 3 64 ws = none → e = .returned (.tuple #[.pointer none, .int .i64 2])) ∧ Below W.heap.size W w' := by
  obtain ⟨d, g, h1, h2, -⟩ := h
  exact scan_ h1 h2 hlt (by rw [hl]; omega) (by decide) (by decide) (by decide)
theorem Vd.back {W0 W : World} {v b : Nat} {g0 : Lay} {lim B : Nat} {ws : List Nat} {w : World} (h : Vd W0 W v b g0 lim ws) (hB : ∀ k ∈ g0.foot b, B ≤ k) (hw : Below B w W0) (hs : B ≤ W0.heap.size) : Below B w W := by
  obtain ⟨d, g, -, -, -, -, -, h6⟩ := h
  exact hw.trans (h6.belowB hs hB)

end Go.Proofs.YtgnagbbdnlmgeaaGreat.Cm
end
