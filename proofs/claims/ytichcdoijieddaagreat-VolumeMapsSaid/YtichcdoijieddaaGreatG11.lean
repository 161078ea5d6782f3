/- Parts of the proof, one behind the other: Sm, Vo, Vr, Rc, Qe, Re, Rg, Rh. -/
import Derived.Test.YtichcdoijieddaaGreatG10
import Derived.Test.YtichcdoijieddaaGreatG09
import Derived.Test.YtichcdoijieddaaGreatG04
import Derived.Test.YtichcdoijieddaaGreatG08

/- slot.Decode (printed by gensm.py). -/
section
set_option linter.unusedVariables false
set_option linter.unusedSimpArgs false
set_option maxHeartbeats 2000000
set_option maxRecDepth 100000
namespace Go.Proofs.YtichcdoijieddaaGreat.Lo
open Go Go.RowKit
open Go.Proofs.YtichcdoijieddaaGreat.Ob Go.Proofs.YtichcdoijieddaaGreat.Ba Go.Proofs.YtichcdoijieddaaGreat.Cr Go.Proofs.YtichcdoijieddaaGreat.C6 Go.Proofs.YtichcdoijieddaaGreat.Cc Go.Proofs.YtichcdoijieddaaGreat.Oc Go.Proofs.YtichcdoijieddaaGreat.Pk Go.Proofs.YtichcdoijieddaaGreat.Su

def pd (x : Nat) : Nat := x / 281474976710656
def nxt (d : Nat) : Int := if d = 65535 then -1 else d
theorem spl4 (x : Nat) (hx : x < 18446744073709551616) : spl x [16, 16, 16, 16] = [pa x, pb x, pc x, pd x] := by
  simp only [spl, pa, pb, pc, pd]
  simp
  omega
def SDec (x a b d : Nat) (e : Ending) : Prop :=
  (sMay a b (nxt d) = true ∧ sEnc a b (nxt d) = x → e = .returned (.tuple #[.agg #[.int .i64 a, .int .i64 b, .int .i64 (nxt d)], .int .i64 0])) ∧ (¬ (sMay a b (nxt d) = true ∧ sEnc a b (nxt d) = x) → e = .returned (.tuple #[.agg #[.int .i64 0, .int .i64 0, .int .i64 0], .int .i64 2]))
theorem sdec_yes {x a b d : Nat} {n : Int} (hn : n = nxt d) (h : sMay a b n = true ∧ sEnc a b n = x) : SDec x a b d (.returned (.tuple #[.agg #[.int .i64 a, .int .i64 b, .int .i64 n], .int .i64 0])) := by subst hn; exact ⟨fun _ => rfl, fun k => absurd h k⟩
theorem sdec_no {x a b d : Nat} {n : Int} (hn : n = nxt d) (h : ¬ (sMay a b n = true ∧ sEnc a b n = x)) : SDec x a b d (.returned (.tuple #[.agg #[.int .i64 0, .int .i64 0, .int .i64 0], .int .i64 2])) := by subst hn; exact ⟨fun k => absurd k h, fun _ => rfl⟩

theorem decode_ (x : Nat) (hx : x < 18446744073709551616) (a b d : Nat) (h1 : a = pa x) (h2 : b = pb x) (h3 : d = pc x) (w : World) :
    Calls Tryz.prog 76 #[.int .u64 x] w fun e w' => SDec x a b d e ∧ Below w.heap.size w w' := by
  have hu := Tryz.underlying88
  have ha1 : a < 65536 := by rw [h1]; exact Nat.mod_lt _ (by decide)
  have hb1 : b < 65536 := by rw [h2]; exact Nat.mod_lt _ (by decide)
  have hd1 : d < 65536 := by rw [h3]; exact Nat.mod_lt _ (by decide)
  have hrk : Rk .i64 ((w.alloc (.cells #[.int .i64 0, .int .i64 0, .int .i64 0] 88)).alloc (.cells #[.int .i64 16, .int .i64 16, .int .i64 16, .int .i64 16] 3)) (some ⟨w.heap.size + 1, 0, none⟩) (ints [16, 16, 16, 16]) := by
    have := alloc_new (w.alloc (.cells #[.int .i64 0, .int .i64 0, .int .i64 0] 88)) (.cells #[.int .i64 16, .int .i64 16, .int .i64 16, .int .i64 16] 3)
    rw [World.size_alloc] at this
    refine blk_rk this fun i x hx => ?_
    match i with
    | 0 => simpa [ints] using hx
    | 1 => simpa [ints] using hx
    | 2 => simpa [ints] using hx
    | 3 => simpa [ints] using hx
    | i + 4 => simp [ints] at hx
  have hsp := split_ hrk x hx 4 (by simp) (by decide) (by decide)
  have hne : x / 2 ^ [16, 16, 16, 16].sum = 0 := by
    simp
    omega
  rw [decide_eq_true hne, spl4 x hx, ← h1, ← h2, ← h3, show ([16, 16, 16, 16] : List Nat).length = 4 from rfl] at hsp
  have HS := Lib.hid (And.intro hsp hne)
  clear hrk hsp hne h1 h2 h3
  go_enter Tryz.func76, Tryz.ntmps76
  go_wp2_with fail
  refine HS.out.1.mono ?_
  rintro e w1 ⟨v, rfl, hown, hb⟩
  have hown := hown HS.out.2
  obtain ⟨A1, c1, rfl⟩ := own_slice hown
  obtain ⟨g1, rfl, hc0, hf0⟩ := own_at (i := 0) (x := (a : Nat)) hown rfl
  obtain ⟨g2, e2, hc1, hf1⟩ := own_at (i := 1) (x := (b : Nat)) hown rfl
  cases e2
  obtain ⟨g3, e3, hc2, hf2⟩ := own_at (i := 2) (x := (d : Nat)) hown rfl
  cases e3
  have hz := hb.size
  simp only [World.size_alloc] at hz
  have hz1 : w.heap.size < w1.heap.size := by omega
  have hq1 : Hid (w1.heap[w.heap.size]? = some (.cells #[.int .i64 0, .int .i64 0, .int .i64 0] 88 (0, 0))) := blk_bl (alloc_old (alloc_new w _) _) hb
  have HQ1 : Hid (Below w.heap.size w w1) := bl_then (bl_alloc (bl_alloc (Below.refl _ _) _) _) hb
  have hg : g1 < w1.heap.size := by
    have := hc0
    unfold World.cell? at this
    cases hq : w1.heap[g1]? with
    | none => simp [hq] at this
    | some o => exact lt_of hq
  clear hown hb hf0 hf1 hf2 hz HS
  go_wp2_with fail
  go_region
  have HBX0 : Hid (Below w.heap.size w (w1.alloc (.cells #[.int .i64 a, .int .i64 b, .int .i64 d] 88)).drew) := bl_drew (bl_alloc HQ1.out _)
  have HQX0 : Hid ((w1.alloc (.cells #[.int .i64 a, .int .i64 b, .int .i64 d] 88)).drew.heap[w.heap.size]? = some (.cells #[.int .i64 0, .int .i64 0, .int .i64 0] 88 (0, 0))) := alloc_old hq1.out _
  have HCX0 : Hid ((w1.alloc (.cells #[.int .i64 a, .int .i64 b, .int .i64 d] 88)).drew.heap[w1.heap.size]? = some (.cells #[.int .i64 a, .int .i64 b, .int .i64 d] 88 (0, 0))) := alloc_new w1 _
  have b0 := cell_of HCX0.out 0
  have b1 := cell_of HCX0.out 1
  have b2 := cell_of HCX0.out 2
  have k2 := free_of HCX0.out 2
  have hlo : Hid (w.heap.size < w1.heap.size) := hz1
  have hkk : Hid (w1.heap.size < (w1.alloc (.cells #[.int .i64 a, .int .i64 b, .int .i64 d] 88)).drew.heap.size) := by show _ < _; simp
  generalize (w1.alloc (.cells #[.int .i64 a, .int .i64 b, .int .i64 d] 88)).drew = wX at *
  generalize w1.heap.size = g at *
  clear hc0 hc1 hc2 hq1 HQ1 hg hz1
  by_cases hd : d = 65535
  · have hn : nxt d = -1 := by unfold nxt; rw [if_pos hd]
    have HN := Lib.hid hn
    have e0 : ((d : Int) == 65535) = true := by rw [beq_iff_eq]; omega
    have HBX : Hid (Below w.heap.size w (wX.setCell ⟨g, 2, none⟩ (.int .i64 (-1)))) := bl_set HBX0.out (Nat.le_of_lt hlo.out) _
    have HQX : Hid ((wX.setCell ⟨g, 2, none⟩ (.int .i64 (-1))).heap[w.heap.size]? = some (.cells #[.int .i64 0, .int .i64 0, .int .i64 0] 88 (0, 0))) := set_other HQX0.out (a := ⟨g, 2, none⟩) (Nat.ne_of_lt hlo.out) _
    have HCX : Hid ((wX.setCell ⟨g, 2, none⟩ (.int .i64 (-1))).heap[g]? = some (.cells #[.int .i64 a, .int .i64 b, .int .i64 (-1)] 88 (0, 0))) := set_same HCX0.out 2 _
    clear hn hd
    by_cases hmay : sMay a b (-1) = true
    · have HG := Lib.hid hmay
      have HEN := Lib.hid (encode_yes a b (-1) hmay)
      clear hmay
      go_wp2_with fail
      refine (HEN.out _).mono ?_
      rintro e w2 ⟨rfl, hb2⟩
      have HB2 := Lib.hid (bl_then HBX.out hb2)
      have hq2 := blk_bl HQX.out hb2
      have l0 := cell_of hq2 0
      have l1 := cell_of hq2 1
      have l2 := cell_of hq2 2
      have f0 := free_of hq2 0
      have f1 := free_of hq2 1
      have f2 := free_of hq2 2
      have HR2 := Lib.hid hq2
      have hbx := blk_bl HCX.out hb2
      have m0 := cell_of hbx 0
      have m1 := cell_of hbx 1
      have m2 := cell_of hbx 2
      by_cases hle : sEnc a b (-1) = x
      · have HLE := Lib.hid (And.intro HG.out hle)
        rw [hle]
        clear hb2 hle HG HEN HQX HBX HCX
        go_wp2_with fail
        have hs := sdec_yes (x := x) (a := a) (b := b) (d := d) HN.out.symm HLE.out
        exact bodyPost_ret (res_ct (u := 3) rfl _ _ w.heap.size 88 #[.int .i64 a, .int .i64 b, .int .i64 (-1)] (0, 0) _ rfl (put3 HR2.out _ _ _) hu rfl (by kernel_rfl)) rfl ⟨hs, bl_put3 HB2.out (Nat.le_refl _) _ _ _⟩
      · have HLE : Hid (¬ (sMay a b (-1) = true ∧ sEnc a b (-1) = x)) := fun h => hle h.2
        have hne : ((sEnc a b (-1) : Nat) : Int) ≠ (x : Nat) := by omega
        have hs := sdec_no (x := x) (a := a) (b := b) (d := d) HN.out.symm HLE.out
        clear HLE
        generalize sEnc a b (-1) = z at *
        clear hb2 hle HG HEN HQX HBX HCX
        have e1 : ((z : Int) == (x : Int)) = false := beq_eq_false_iff_ne.2 hne
        have e2 : ((z : Int) != (x : Int)) = true := bne_iff_ne.2 hne
        go_wp2_with fail
        exact bodyPost_ret (res_ct (u := 3) rfl _ _ w.heap.size 88 #[.int .i64 0, .int .i64 0, .int .i64 0] (0, 0) _ rfl (put3 HR2.out _ _ _) hu rfl (by kernel_rfl)) rfl ⟨hs, bl_put3 HB2.out (Nat.le_refl _) _ _ _⟩
    · have HG : Hid (¬ (sMay a b (-1) = true ∧ sEnc a b (-1) = x)) := fun h => hmay h.1
      have HEN := Lib.hid (encode_no a b (-1) (by simpa using hmay))
      clear hmay
      go_wp2_with fail
      refine (HEN.out _).mono ?_
      rintro e w2 ⟨rfl, hb2⟩
      have HB2 := Lib.hid (bl_then HBX.out hb2)
      have hq2 := blk_bl HQX.out hb2
      have l0 := cell_of hq2 0
      have l1 := cell_of hq2 1
      have l2 := cell_of hq2 2
      have f0 := free_of hq2 0
      have f1 := free_of hq2 1
      have f2 := free_of hq2 2
      have HR2 := Lib.hid hq2
      clear hb2 HEN HQX HBX HCX
      go_wp2_with fail
      have hs := sdec_no (x := x) (a := a) (b := b) (d := d) HN.out.symm HG.out
      exact bodyPost_ret (res_ct (u := 3) rfl _ _ w.heap.size 88 #[.int .i64 0, .int .i64 0, .int .i64 0] (0, 0) _ rfl (put3 HR2.out _ _ _) hu rfl (by kernel_rfl)) rfl ⟨hs, bl_put3 HB2.out (Nat.le_refl _) _ _ _⟩

  · have hn : nxt d = d := by unfold nxt; rw [if_neg hd]
    have HN := Lib.hid hn
    have e0 : ((d : Int) == 65535) = false := by rw [beq_eq_false_iff_ne]; omega
    have HBX := Lib.hid HBX0.out
    have HQX := Lib.hid HQX0.out
    have HCX := Lib.hid HCX0.out
    clear hn hd
    by_cases hmay : sMay a b d = true
    · have HG := Lib.hid hmay
      have HEN := Lib.hid (encode_yes a b d hmay)
      clear hmay
      go_wp2_with fail
      refine (HEN.out _).mono ?_
      rintro e w2 ⟨rfl, hb2⟩
      have HB2 := Lib.hid (bl_then HBX.out hb2)
      have hq2 := blk_bl HQX.out hb2
      have l0 := cell_of hq2 0
      have l1 := cell_of hq2 1
      have l2 := cell_of hq2 2
      have f0 := free_of hq2 0
      have f1 := free_of hq2 1
      have f2 := free_of hq2 2
      have HR2 := Lib.hid hq2
      have hbx := blk_bl HCX.out hb2
      have m0 := cell_of hbx 0
      have m1 := cell_of hbx 1
      have m2 := cell_of hbx 2
      by_cases hle : sEnc a b d = x
      · have HLE := Lib.hid (And.intro HG.out hle)
        rw [hle]
        clear hb2 hle HG HEN HQX HBX HCX
        go_wp2_with fail
        have hs := sdec_yes (x := x) (a := a) (b := b) (d := d) HN.out.symm HLE.out
        exact bodyPost_ret (res_ct (u := 3) rfl _ _ w.heap.size 88 #[.int .i64 a, .int .i64 b, .int .i64 d] (0, 0) _ rfl (put3 HR2.out _ _ _) hu rfl (by kernel_rfl)) rfl ⟨hs, bl_put3 HB2.out (Nat.le_refl _) _ _ _⟩
      · have HLE : Hid (¬ (sMay a b d = true ∧ sEnc a b d = x)) := fun h => hle h.2
        have hne : ((sEnc a b d : Nat) : Int) ≠ (x : Nat) := by omega
        have hs := sdec_no (x := x) (a := a) (b := b) (d := d) HN.out.symm HLE.out
        clear HLE
        generalize sEnc a b d = z at *
        clear hb2 hle HG HEN HQX HBX HCX
        have e1 : ((z : Int) == (x : Int)) = false := beq_eq_false_iff_ne.2 hne
        have e2 : ((z : Int) != (x : Int)) = true := bne_iff_ne.2 hne
        go_wp2_with fail
        exact bodyPost_ret (res_ct (u := 3) rfl _ _ w.heap.size 88 #[.int .i64 0, .int .i64 0, .int .i64 0] (0, 0) _ rfl (put3 HR2.out _ _ _) hu rfl (by kernel_rfl)) rfl ⟨hs, bl_put3 HB2.out (Nat.le_refl _) _ _ _⟩
    · have HG : Hid (¬ (sMay a b d = true ∧ sEnc a b d = x)) := fun h => hmay h.1
      have HEN := Lib.hid (encode_no a b d (by simpa using hmay))
      clear hmay
      go_wp2_with fail
      refine (HEN.out _).mono ?_
      rintro e w2 ⟨rfl, hb2⟩
      have HB2 := Lib.hid (bl_then HBX.out hb2)
      have hq2 := blk_bl HQX.out hb2
      have l0 := cell_of hq2 0
      have l1 := cell_of hq2 1
      have l2 := cell_of hq2 2
      have f0 := free_of hq2 0
      have f1 := free_of hq2 1
      have f2 := free_of hq2 2
      have HR2 := Lib.hid hq2
      clear hb2 HEN HQX HBX HCX
      go_wp2_with fail
      have hs := sdec_no (x := x) (a := a) (b := b) (d := d) HN.out.symm HG.out
      exact bodyPost_ret (res_ct (u := 3) rfl _ _ w.heap.size 88 #[.int .i64 0, .int .i64 0, .int .i64 0] (0, 0) _ rfl (put3 HR2.out _ _ _) hu rfl (by kernel_rfl)) rfl ⟨hs, bl_put3 HB2.out (Nat.le_refl _) _ _ _⟩

end Go.Proofs.YtichcdoijieddaaGreat.Lo
end

/- volume.Open, Device, SetSlot, Slot. -/
section
set_option linter.unusedVariables false
set_option linter.unusedSimpArgs false
set_option maxHeartbeats 2000000
set_option maxRecDepth 100000
namespace Go.Proofs.YtichcdoijieddaaGreat.Vo
open Go Go.RowKit
open Go.Proofs.YtichcdoijieddaaGreat.Ob Go.Proofs.YtichcdoijieddaaGreat.Ba Go.Proofs.YtichcdoijieddaaGreat.Oc Go.Proofs.YtichcdoijieddaaGreat.Pk Go.Proofs.YtichcdoijieddaaGreat.Dv Go.Proofs.YtichcdoijieddaaGreat.Su Go.Proofs.YtichcdoijieddaaGreat.Mp Go.Proofs.YtichcdoijieddaaGreat.Ge Go.Proofs.YtichcdoijieddaaGreat.Lo Go.Proofs.YtichcdoijieddaaGreat.Ko

def volObj (b n m s : Nat) : Obj := .cells #[.pointer (some ⟨b, 0, none⟩), .int .i64 n, .int .i64 m, .int .i64 s] 116 (0, 0)

structure VolIs (w : World) (v b n m s : Nat) (d : Dev) (g : Lay) : Prop where
  blk : w.heap[v]? = some (volObj b n m s)
  dev : DevIs w b d g
  ok : geoOk n m s = true
  len : (d.las.length : Int) = tot n m s

theorem VolIs.cells {w : World} {v b n m s : Nat} {d : Dev} {g : Lay} (h : VolIs w v b n m s d g) :
    w.cell? ⟨v, 0, none⟩ = some (.pointer (some ⟨b, 0, none⟩)) ∧ w.cell? ⟨v, 1, none⟩ = some (.int .i64 n) ∧ w.cell? ⟨v, 2, none⟩ = some (.int .i64 m) ∧ w.cell? ⟨v, 3, none⟩ = some (.int .i64 s) :=
  ⟨cell_of h.blk 0, cell_of h.blk 1, cell_of h.blk 2, cell_of h.blk 3⟩
theorem VolIs.below {w w' : World} {v b n m s : Nat} {d : Dev} {g : Lay} (h : VolIs w v b n m s d g) (hb : Below w.heap.size w w') : VolIs w' v b n m s d g :=
  ⟨blk_bl h.blk hb, h.dev.below hb, h.ok, h.len⟩
theorem VolIs.apart {w : World} {v b n m s : Nat} {d : Dev} {g : Lay} (h : VolIs w v b n m s d g) : v ∉ g.foot b := not_foot h.dev h.blk (by decide) (by decide) (by decide)
theorem VolIs.to {w w' : World} {v b n m s : Nat} {d d' : Dev} {g : Lay} (h : VolIs w v b n m s d g) (k : DevTo w w' b g d') (hl : d'.las.length = d.las.length) : ∃ g', VolIs w' v b n m s d' g' ∧ (∀ q ∈ g'.foot b, q ∈ g.foot b ∨ w.heap.size ≤ q) ∧ Upd (g.foot b) w w' := by
  obtain ⟨g', h1, h2, h3⟩ := k
  exact ⟨g', ⟨h3.blk h.blk h.apart, h1, h.ok, by rw [hl]; exact h.len⟩, h2, h3⟩

theorem device_ {w : World} {v b n m s : Nat} {d : Dev} {g : Lay} (h : VolIs w v b n m s d g) :
    Calls Tryz.prog 24 #[.pointer (some ⟨v, 0, none⟩)] w fun e w' => e = .returned (.pointer (some ⟨b, 0, none⟩)) ∧ w' = w := by
  obtain ⟨c0, c1, c2, c3⟩ := h.cells
  clear h
  go_enter Tryz.func24, Tryz.ntmps24
  go_wp2
  go_ret
  exact ⟨rfl, rfl⟩

theorem open_ok {w : World} {b : Nat} {d : Dev} {g : Lay} (h : DevIs w b d g) (n m s : Nat) (hok : geoOk n m s = true) (hn : n < 65536) (hm : m < 65536) (hs : s < 65536) (hlen : (d.las.length : Int) = tot n m s) (h8 : 8 ≤ d.las.length)
    (hl : ∀ (i : Nat) x, (enc n m s)[i]? = some x → d.load i = (x : Int)) :
    Calls Tryz.prog 51 #[.pointer (some ⟨b, 0, none⟩)] w fun e w' => ∃ v, e = .returned (.tuple #[.pointer (some ⟨v, 0, none⟩), .int .i64 0]) ∧ w.heap.size ≤ v ∧ VolIs w' v b n m s d g ∧ Below w.heap.size w w' := by
  have hu := Tryz.underlying116
  have HR := Lib.hid (read_ok h n m s hok hn hm hs hlen h8 hl)
  have HD := Lib.hid h
  have HO := Lib.hid (And.intro hok hlen)
  clear h hok hn hm hs hlen h8 hl
  go_enter Tryz.func51, Tryz.ntmps51
  go_wp2_with fail
  refine HR.out.mono ?_
  rintro e w1 ⟨rfl, hb⟩
  have HB := Lib.hid hb
  clear hb HR
  go_wp2_with fail
  go_ret2
  have hb2 : Below w1.heap.size w1 (w1.alloc (.cells #[.int .i64 n, .int .i64 m, .int .i64 s] 83)) := bl_alloc (Below.refl _ _) _
  refine ⟨w1.heap.size + 1, rfl, by have := HB.out.size; omega, ⟨?_, ?_, HO.out.1, HO.out.2⟩, bl_alloc (bl_alloc HB.out _) _⟩
  · have := alloc_new (w1.alloc (.cells #[.int .i64 n, .int .i64 m, .int .i64 s] 83)) (volObj b n m s)
    rw [World.size_alloc] at this
    exact this
  · exact HD.out.below (bl_alloc (bl_alloc HB.out _) _)

theorem plc_no {a i k : Int} (h : i < 0 ∨ k ≤ i) : plc a i k = -1 := by
  unfold plc
  rw [if_neg]
  omega
theorem plc_yes {a i k : Int} (h : 0 ≤ i ∧ i < k) : plc a i k = a := by
  unfold plc
  rw [if_pos h]

theorem setslot_range {w : World} {v b n m s : Nat} {d : Dev} {g : Lay} (h : VolIs w v b n m s d g) (i x y z : Int) (hi : i < 0 ∨ (n : Int) ≤ i) :
    Calls Tryz.prog 52 #[.pointer (some ⟨v, 0, none⟩), .int .i64 i, .agg #[.int .i64 x, .int .i64 y, .int .i64 z]] w fun e w' => e = .returned (.int .i64 9) ∧ Below w.heap.size w w' := by
  have hu := Tryz.underlying88
  have hsl := slot_ n m s i h.ok
  rw [plc_no hi] at hsl
  have HS := Lib.hid hsl
  have h2 := h.below (bl_alloc (Below.refl _ _) (.cells #[.int .i64 x, .int .i64 y, .int .i64 z] 88))
  obtain ⟨c0, c1, c2, c3⟩ := h2.cells
  clear h h2 hi hsl
  go_enter Tryz.func52, Tryz.ntmps52
  go_wp2_with (go_at_call 75; refine (HS.out _).mono ?_; rintro e w1 ⟨rfl, hb⟩; (have HB := Lib.hid hb); clear hb)
  go_ret
  exact ⟨rfl, bl_then (bl_alloc (Below.refl _ _) _) HB.out⟩

theorem setslot_no {w : World} {v b n m s : Nat} {d : Dev} {g : Lay} (h : VolIs w v b n m s d g) (i x y z : Int) (hi : 0 ≤ i ∧ i < (n : Int)) (hmay : sMay x y z = false) :
    Calls Tryz.prog 52 #[.pointer (some ⟨v, 0, none⟩), .int .i64 i, .agg #[.int .i64 x, .int .i64 y, .int .i64 z]] w fun e w' => e = .returned (.int .i64 1) ∧ Below w.heap.size w w' := by
  have hu := Tryz.underlying88
  have hsl := slot_ n m s i h.ok
  rw [plc_yes hi] at hsl
  obtain ⟨k, hk⟩ : ∃ k, k = 16 + 8 * (m : Int) + i := ⟨_, rfl⟩
  rw [← hk] at hsl
  have hk0 : 0 ≤ k := by omega
  have HS := Lib.hid hsl
  have HE := Lib.hid (encode_no x y z hmay)
  have h2 := h.below (bl_alloc (Below.refl _ _) (.cells #[.int .i64 x, .int .i64 y, .int .i64 z] 88))
  obtain ⟨c0, c1, c2, c3⟩ := h2.cells
  clear h h2 hi hsl hk hmay
  go_enter Tryz.func52, Tryz.ntmps52
  go_wp2_with (first | (go_at_call 75; refine (HS.out _).mono ?_; rintro e w1 ⟨rfl, hb⟩; (have hq := blk_bl (alloc_new w (.cells #[.int .i64 x, .int .i64 y, .int .i64 z] 88)) hb); (have m0 := cell_of hq 0); (have m1 := cell_of hq 1); (have m2 := cell_of hq 2); (have HB := Lib.hid hb); clear hb hq) |
    (go_at_call 96; refine (HE.out _).mono ?_; rintro e w2 ⟨rfl, hb⟩; (have HB2 := Lib.hid hb); clear hb))
  go_ret
  exact ⟨rfl, bl_then (bl_then (bl_alloc (Below.refl _ _) _) HB.out) HB2.out⟩

theorem setslot_yes {w : World} {v b n m s : Nat} {d : Dev} {g : Lay} (h : VolIs w v b n m s d g) (hst : d.steps ≤ 1000000000) (i x y z : Int) (hi : 0 ≤ i ∧ i < (n : Int)) (hmay : sMay x y z = true) (k : Nat) (hk : (k : Int) = 16 + 8 * (m : Int) + i)
    (R : Dev × Option Nat) (hR : putGo true [(sEnc x y z : Int)] k ⟨d, 0, []⟩ = R) :
    Calls Tryz.prog 52 #[.pointer (some ⟨v, 0, none⟩), .int .i64 i, .agg #[.int .i64 x, .int .i64 y, .int .i64 z]] w fun e w' => e = .returned (.int .i64 (ecode R)) ∧ DevTo w w' b g R.1 := by
  have hu := Tryz.underlying88
  have hsl := slot_ n m s i h.ok
  rw [plc_yes hi, ← hk] at hsl
  have hin := inB_out (ok_out h.ok).1
  have hk9 : k ≤ 1000000000 := by omega
  have HS := Lib.hid hsl
  have HE := Lib.hid (encode_yes x y z hmay)
  have HV := Lib.hid h
  have HST := Lib.hid hst
  have HR := Lib.hid hR
  have HK9 := Lib.hid hk9
  have h2 := h.below (bl_alloc (Below.refl _ _) (.cells #[.int .i64 x, .int .i64 y, .int .i64 z] 88))
  obtain ⟨c0, c1, c2, c3⟩ := h2.cells
  clear h h2 hi hsl hk hmay hin hst hR hk9
  generalize sEnc x y z = t at *
  go_enter Tryz.func52, Tryz.ntmps52
  go_wp2_with (first | (go_at_call 75; refine (HS.out _).mono ?_; rintro e w1 ⟨rfl, hb⟩; (have hq := blk_bl (alloc_new w (.cells #[.int .i64 x, .int .i64 y, .int .i64 z] 88)) hb); (have m0 := cell_of hq 0); (have m1 := cell_of hq 1); (have m2 := cell_of hq 2); (have HB := Lib.hid hb); clear hb hq) |
    (go_at_call 96; refine (HE.out _).mono ?_; rintro e w2 ⟨rfl, hb⟩; (have HB2 := Lib.hid (bl_then (bl_then (bl_alloc (Below.refl _ _) _) HB.out) hb)); (have HV2 := Lib.hid (HV.out.below HB2.out)); (have n0 := HV2.out.cells.1); clear hb HB))
  have hb3 : Below w2.heap.size w2 (w2.alloc (.cells #[.int .u64 t] 60)) := bl_alloc (Below.refl _ _) _
  have hrk : Rk .u64 (w2.alloc (.cells #[.int .u64 t] 60)) (some ⟨w2.heap.size, 0, none⟩) [(t : Int)] := by
    refine blk_rk (alloc_new w2 (.cells #[.int .u64 t] 60)) fun j u hu => ?_
    match j with
    | 0 => simpa using hu
    | j + 1 => simp at hu
  have hput := put_all (HV2.out.below hb3).dev hrk (fun p hp hm => by
    cases hp
    exact Nat.lt_irrefl _ (HV2.out.dev.lt _ hm)) k 1 HK9.out (by simp) HST.out R HR.out
  refine hput.mono ?_
  rintro e w4 ⟨rfl, hto⟩
  have HTO := Lib.hid hto
  clear hput hto
  go_wp2_with fail
  go_ret
  exact ⟨rfl, by
    obtain ⟨g2, q1, q2, q3⟩ := HTO.out
    have hbb := bl_then HB2.out hb3
    refine ⟨g2, q1, fun u hu => ?_, (Upd.of_below (F := g.foot b) hbb).trans q3 (fun u hu => .inl hu)⟩
    rcases q2 u hu with r | r
    · exact .inl r
    · exact .inr (Nat.le_trans hbb.size r)⟩

end Go.Proofs.YtichcdoijieddaaGreat.Vo
end

/- volume.Slot. -/
section
set_option linter.unusedVariables false
set_option linter.unusedSimpArgs false
set_option maxHeartbeats 2000000
set_option maxRecDepth 100000
namespace Go.Proofs.YtichcdoijieddaaGreat.Vo
open Go Go.RowKit
open Go.Proofs.YtichcdoijieddaaGreat.Ob Go.Proofs.YtichcdoijieddaaGreat.Ba Go.Proofs.YtichcdoijieddaaGreat.Oc Go.Proofs.YtichcdoijieddaaGreat.Pk Go.Proofs.YtichcdoijieddaaGreat.Dv Go.Proofs.YtichcdoijieddaaGreat.Su Go.Proofs.YtichcdoijieddaaGreat.Mp Go.Proofs.YtichcdoijieddaaGreat.Ge Go.Proofs.YtichcdoijieddaaGreat.Lo Go.Proofs.YtichcdoijieddaaGreat.Ko

theorem slot_get {w : World} {v b n m s : Nat} {d : Dev} {g : Lay} (h : VolIs w v b n m s d g) (i : Int) (hi : 0 ≤ i ∧ i < (n : Int)) (k : Nat) (hk : (k : Int) = 16 + 8 * (m : Int) + i) (x : Nat) (hx : x < 18446744073709551616) (hl : d.load k = (x : Int)) (S : Int × Int × Int × Int)
    (hS : ∀ e, SDec x (pa x) (pb x) (pc x) e → e = .returned (.tuple #[.agg #[.int .i64 S.1, .int .i64 S.2.1, .int .i64 S.2.2.1], .int .i64 S.2.2.2])) :
    Calls Tryz.prog 37 #[.pointer (some ⟨v, 0, none⟩), .int .i64 i] w fun e w' => e = .returned (.tuple #[.agg #[.int .i64 S.1, .int .i64 S.2.1, .int .i64 S.2.2.1], .int .i64 S.2.2.2]) ∧ Below w.heap.size w w' := by
  have hu := Tryz.underlying88
  have hsl := slot_ n m s i h.ok
  rw [plc_yes hi, ← hk] at hsl
  have HS := Lib.hid hsl
  have HV := Lib.hid h
  have HDC : Hid (∀ w, Calls Tryz.prog 76 #[.int .u64 x] w fun e w' => e = .returned (.tuple #[.agg #[.int .i64 S.1, .int .i64 S.2.1, .int .i64 S.2.2.1], .int .i64 S.2.2.2]) ∧ Below w.heap.size w w') :=
    fun w => (decode_ x hx _ _ _ rfl rfl rfl w).mono fun e w' he => ⟨hS e he.1, he.2⟩
  have HLD : Hid (∀ W, DevIs W b d g → Calls Tryz.prog 77 #[.pointer (some ⟨b, 0, none⟩), .int .i64 k] W fun e w' => e = .returned (.int .u64 x) ∧ ∃ n, w' = W.drewN n) := by
    intro W hW
    have h9 := Go.Proofs.YtichcdoijieddaaGreat.Pm.load_any hW (k : Int)
    rw [hl] at h9
    exact h9
  have h2 := h.below (bl_alloc (Below.refl _ _) (.cells #[.int .i64 0, .int .i64 0, .int .i64 0] 88))
  obtain ⟨c0, c1, c2, c3⟩ := h2.cells
  clear h h2 hi hsl hk hS hl
  obtain ⟨s1, s2, s3, s4⟩ := S
  go_enter Tryz.func37, Tryz.ntmps37
  go_wp2_with (first | (go_at_call 75; refine (HS.out _).mono ?_; rintro e w1 ⟨rfl, hb⟩; (have hq := blk_bl (alloc_new w (.cells #[.int .i64 0, .int .i64 0, .int .i64 0] 88)) hb); (have HQ := Lib.hid hq); (have HB := Lib.hid (bl_then (bl_alloc (Below.refl _ _) _) hb)); (have HV2 := Lib.hid (HV.out.below HB.out)); (have n0 := HV2.out.cells.1); clear hb hq) |
    (go_at_call 77; refine (HLD.out _ HV2.out.dev).mono ?_; rintro e w2 ⟨rfl, q, hw2⟩; (have HW2 : Hid (Below w1.heap.size w1 w2) := by rw [hw2]; exact bl_drewN (Below.refl _ _) q); clear hw2) |
    (go_at_call 76; refine (HDC.out _).mono ?_; rintro e w3 ⟨rfl, hb⟩; (have HB3 := Lib.hid (bl_then HW2.out hb)); (have hq3 := blk_bl HQ.out HB3.out); (have l0 := cell_of hq3 0); (have l1 := cell_of hq3 1); (have l2 := cell_of hq3 2); (have f0 := free_of hq3 0); (have f1 := free_of hq3 1); (have f2 := free_of hq3 2); (have HQ3 := Lib.hid hq3); clear hb hq3))
  exact bodyPost_ret (res_ct (u := 5) rfl _ _ w.heap.size 88 #[.int .i64 s1, .int .i64 s2, .int .i64 s3] (0, 0) _ rfl (put3 HQ3.out _ _ _) hu rfl (by kernel_rfl)) rfl ⟨rfl, bl_put3 (bl_then HB.out HB3.out) (Nat.le_refl _) _ _ _⟩

theorem slot_out {w : World} {v b n m s : Nat} {d : Dev} {g : Lay} (h : VolIs w v b n m s d g) (i : Int) (hi : i < 0 ∨ (n : Int) ≤ i) :
    Calls Tryz.prog 37 #[.pointer (some ⟨v, 0, none⟩), .int .i64 i] w fun e w' => e = .returned (.tuple #[.agg #[.int .i64 0, .int .i64 0, .int .i64 0], .int .i64 9]) ∧ Below w.heap.size w w' := by
  have hu := Tryz.underlying88
  have hsl := slot_ n m s i h.ok
  rw [plc_no hi] at hsl
  have HS := Lib.hid hsl
  have h2 := h.below (bl_alloc (Below.refl _ _) (.cells #[.int .i64 0, .int .i64 0, .int .i64 0] 88))
  obtain ⟨c0, c1, c2, c3⟩ := h2.cells
  clear h h2 hi hsl
  go_enter Tryz.func37, Tryz.ntmps37
  go_wp2_with (first | (go_at_call 75; refine (HS.out _).mono ?_; rintro e w1 ⟨rfl, hb⟩; (have hq := blk_bl (alloc_new w (.cells #[.int .i64 0, .int .i64 0, .int .i64 0] 88)) hb); (have l0 := cell_of hq 0); (have l1 := cell_of hq 1); (have l2 := cell_of hq 2); (have f0 := free_of hq 0); (have f1 := free_of hq 1); (have f2 := free_of hq 2); (have HQ3 := Lib.hid hq); (have HB := Lib.hid (bl_then (bl_alloc (Below.refl _ _) _) hb)); clear hb hq))
  exact bodyPost_ret (res_ct (u := 5) rfl _ _ w.heap.size 88 #[.int .i64 0, .int .i64 0, .int .i64 0] (0, 0) _ rfl (put3 HQ3.out _ _ _) hu rfl (by kernel_rfl)) rfl ⟨rfl, bl_put3 HB.out (Nat.le_refl _) _ _ _⟩

end Go.Proofs.YtichcdoijieddaaGreat.Vo
end

/- The laws' raw images opened (cantlelaw15.open). -/
section
set_option linter.unusedVariables false
set_option linter.unusedSimpArgs false
set_option maxHeartbeats 2000000
set_option maxRecDepth 100000
namespace Go.Proofs.YtichcdoijieddaaGreat.Ra
open Go Go.RowKit
open Go.Proofs.YtichcdoijieddaaGreat.Ob Go.Proofs.YtichcdoijieddaaGreat.Ba Go.Proofs.YtichcdoijieddaaGreat.Ko Go.Proofs.YtichcdoijieddaaGreat.Ge Go.Proofs.YtichcdoijieddaaGreat.Oc Go.Proofs.YtichcdoijieddaaGreat.Pk Go.Proofs.YtichcdoijieddaaGreat.Su Go.Proofs.YtichcdoijieddaaGreat.Rf Go.Proofs.YtichcdoijieddaaGreat.Dv Go.Proofs.YtichcdoijieddaaGreat.Vo

theorem devOf_load {L : List Int} {i : Nat} {x : Int} (h : L[i]? = some x) : (Pm.devOf L).load (i : Int) = x := by
  have hi := (List.getElem?_eq_some_iff.1 h).1
  unfold Dev.load Dev.lasting Dev.inn Dev.find Pm.devOf
  simp [hi, h]
  exact (List.getElem?_eq_some_iff.1 h).2

theorem _root_.Go.Proofs.YtichcdoijieddaaGreat.Vo.VolIs.keep {w w' : World} {v b n m s : Nat} {d : Dev} {g : Lay} (h : VolIs w v b n m s d g) (hv : w'.heap[v]? = w.heap[v]?) (hk : ∀ k ∈ g.foot b, w'.heap[k]? = w.heap[k]?) : VolIs w' v b n m s d g :=
  ⟨hv.trans h.blk, h.dev.keep hk, h.ok, h.len⟩

theorem drew_heap (W : World) (k : Nat) : W.drew.heap[k]? = W.heap[k]? := rfl

/-- an image opened: the volume, the device, the words beside it -/
structure Opn (w W : World) (v b n m s T : Nat) (L : List Int) (g : Lay) (vw : Value) : Prop where
  vol : VolIs W v b n m s (Pm.devOf L) g
  foot : ∀ k ∈ g.foot b, w.heap.size ≤ k
  row : W.ownsRow w.heap.size 60 1 vw T (ivs .u64 L)
  apart : ∀ k, vw.ownBlock = some k → k ∉ g.foot b
  vlo : w.heap.size ≤ v
  below : Below w.heap.size w W

theorem open_ (r0 r1 r2 : Nat) (h0 : r0 < 256) (h1 : r1 < 256) (h2 : r2 < 256) {A : Option Addr} {l : List Int} (c : Nat) {w : World} (h : Rk .u64 w A l) (hl9 : l.length ≤ 9223372036854775807) (n m s T : Nat) (hn : n = gB r0) (hm : m = gB r1) (hs : s = gS r2) (hT : (T : Int) = tot n m s) :
    Calls Tryz.prog 7 #[.agg #[.int .u8 r0, .int .u8 r1, .int .u8 r2, .slice A l.length c]] w fun e w' => ∃ v b g vw, e = .returned (.tuple #[.pointer (some ⟨v, 0, none⟩), .agg (vcells n m s vw)]) ∧ Opn w w' v b n m s T (dws (ints (enc n m s)) l T) g vw := by
  have hu := Tryz.underlying33
  have hok : geoOk n m s = true := by rw [hn, hm, hs]; exact g_ok r0 r1 r2
  have htt := g_tot r0 r1 r2
  rw [← hn, ← hm, ← hs, ← hT] at htt
  have hn9 : n < 65536 := by have := gB_in r0; omega
  have hm9 : m < 65536 := by have := gB_in r1; omega
  have hs9 : s < 65536 := by have := gS_or r2; omega
  have hlen : (dws (ints (enc n m s)) l T).length = T := dws_length _ _ _ rfl (by omega)
  have htk : (dws (ints (enc n m s)) l T).take 8 = ints (enc n m s) := dws_take8 _ _ _ rfl
  have HDV : Hid (∀ {W : World}, Rk .u64 W A l → _) := fun {W} hW => device_ r0 r1 r2 h0 h1 h2 c (w := W) hW hl9 n m s T hn hm hs hT
  have HOP : Hid (∀ {W : World} {b : Nat} {g : Lay}, DevIs W b (Pm.devOf (dws (ints (enc n m s)) l T)) g → _) := fun {W} {b} {g} hD => open_ok hD n m s hok hn9 hm9 hs9 (by show ((dws (ints (enc n m s)) l T).length : Int) = _; rw [hlen, hT]) (by show 8 ≤ (dws (ints (enc n m s)) l T).length; rw [hlen]; omega) (fun i x hx => by
    refine devOf_load ?_
    have hi := (List.getElem?_eq_some_iff.1 hx).1
    have h8 : i < 8 := hi
    have h9 : ((dws (ints (enc n m s)) l T).take 8)[i]? = some (x : Int) := by rw [htk]; exact ints_get hx
    rw [List.getElem?_take, if_pos h8] at h9
    exact h9)
  have HV : Hid (∀ v, vcells n m s v = #[.int .i64 n, .int .i64 m, .int .i64 s, .int .i64 16, .int .i64 (16 + 8 * m), .int .i64 (bmAt n m), .int .i64 (bkAt n m), .int .i64 (tot n m s), v]) := fun _ => rfl
  have H := Lib.hid h
  generalize dws (ints (enc n m s)) l T = L at *
  generalize vcells n m s = vc at *
  obtain ⟨len, hle⟩ : ∃ len, len = l.length := ⟨_, rfl⟩
  rw [← hle] at HDV
  rw [← hle]
  clear h hl9 hn hm hs hT hok htt h0 h1 h2 hlen htk hle hn9 hm9 hs9
  generalize (16 + 8 * m : Int) = p2 at *
  generalize bmAt n m = p3 at *
  generalize bkAt n m = p4 at *
  generalize tot n m s = p5 at *
  go_enter Tryz.func7, Tryz.ntmps7
  go_wp2_with fail
  refine (HDV.out (H.out.below (bl_alloc (bl_alloc (Below.refl _ _) (.cells #[.int .u8 r0, .int .u8 r1, .int .u8 r2, .slice A len c] 24)) (.cells #[.int .i64 0, .int .i64 0, .int .i64 0, .int .i64 0, .int .i64 0, .int .i64 0, .int .i64 0, .int .i64 0, .slice none 0 0] 33)))).mono ?_
  rintro e w1 ⟨b, g, vw, rfl, hd1, hf1, ho1, ha1, hb1⟩
  obtain ⟨A8, c8, e8⟩ := own_slice ho1
  subst e8
  rw [HV.out]
  have hqz := alloc_new (w.alloc (.cells #[.int .u8 r0, .int .u8 r1, .int .u8 r2, .slice A len c] 24)) (.cells #[.int .i64 0, .int .i64 0, .int .i64 0, .int .i64 0, .int .i64 0, .int .i64 0, .int .i64 0, .int .i64 0, .slice none 0 0] 33)
  rw [World.size_alloc] at hqz
  have HZ1 := Lib.hid (blk_bl hqz hb1)
  have hsz := hb1.size
  simp only [World.size_alloc] at hsz hf1 ho1
  have HS1 : Hid (w.heap.size + 2 ≤ w1.heap.size) := hsz
  have HB1 := Lib.hid (bl_then (bl_alloc (bl_alloc (Below.refl _ _) _) _) hb1)
  have hbv : Below w1.heap.size w1 (w1.alloc (.cells #[.int .i64 n, .int .i64 m, .int .i64 s, .int .i64 16, .int .i64 p2, .int .i64 p3, .int .i64 p4, .int .i64 p5, .slice A8 T c8] 33)) := bl_alloc (Below.refl _ _) _
  have HOPN := Lib.hid (HOP.out (hd1.below hbv))
  have HALL := Lib.hid (And.intro hf1 (And.intro ho1 ha1))
  clear hqz hb1 hsz hf1 ho1 ha1 hbv hd1
  go_wp2_with (go_at_call 51; refine HOPN.out.mono ?_; rintro e w2 ⟨v, rfl, hv, hvol, hb2⟩; (have HVB := Lib.hid (blk_bl (alloc_new w1 (.cells #[.int .i64 n, .int .i64 m, .int .i64 s, .int .i64 16, .int .i64 p2, .int .i64 p3, .int .i64 p4, .int .i64 p5, .slice A8 T c8] 33)) hb2)); (have hb3 := bl_then (bl_alloc (Below.refl _ _) _) hb2); (have HZ2 := Lib.hid (blk_bl HZ1.out hb3)); (have HV2 := Lib.hid (And.intro hv hvol)); (have HB3 := Lib.hid hb3); clear hv hvol hb2 hb3)
  have hxv := HVB.out
  have hxz := HZ2.out
  have m0 := cell_of hxv 0
  have m1 := cell_of hxv 1
  have m2 := cell_of hxv 2
  have m3 := cell_of hxv 3
  have m4 := cell_of hxv 4
  have m5 := cell_of hxv 5
  have m6 := cell_of hxv 6
  have m7 := cell_of hxv 7
  have m8 := cell_of hxv 8
  have z0 := cell_of hxz 0
  have z1 := cell_of hxz 1
  have z2 := cell_of hxz 2
  have z3 := cell_of hxz 3
  have z4 := cell_of hxz 4
  have z5 := cell_of hxz 5
  have z6 := cell_of hxz 6
  have z7 := cell_of hxz 7
  have z8 := cell_of hxz 8
  have f0 := free_of hxz 0
  have f1 := free_of hxz 1
  have f2 := free_of hxz 2
  have f3 := free_of hxz 3
  have f4 := free_of hxz 4
  have f5 := free_of hxz 5
  have f6 := free_of hxz 6
  have f7 := free_of hxz 7
  have f8 := free_of hxz 8
  have hz2 : Hid (w.heap.size + 2 ≤ w2.heap.size) := Nat.le_trans HS1.out HB3.out.size
  clear hxv hxz
  go_region
  go_wp2
  have hp9 := put9 HZ2.out (.int .i64 n) (.int .i64 m) (.int .i64 s) (.int .i64 16) (.int .i64 p2) (.int .i64 p3) (.int .i64 p4) (.int .i64 p5) (.slice A8 T c8)
  have hb0 := bl_then HB1.out HB3.out
  have hb9 := bl_put9 hb0 (Nat.le_succ _) (.int .i64 n) (.int .i64 m) (.int .i64 s) (.int .i64 16) (.int .i64 p2) (.int .i64 p3) (.int .i64 p4) (.int .i64 p5) (.slice A8 T c8)
  have hsa := HS1.out
  have ho2 := own_bl HALL.out.2.1 HB3.out
  have ho9 := own_low9 ho2 (q := w.heap.size + 1) (by omega) (.int .i64 n) (.int .i64 m) (.int .i64 s) (.int .i64 16) (.int .i64 p2) (.int .i64 p3) (.int .i64 p4) (.int .i64 p5) (.slice A8 T c8)
  have hvlo : w1.heap.size + 1 ≤ v := by have := HV2.out.1; simpa using this
  refine bodyPost_ret (res_tc (u := 2) rfl _ _ (w.heap.size + 1) 33 _ (0, 0) _ rfl ((drew_heap _ _).trans hp9) hu rfl ?_) rfl ⟨v, b, g, .slice A8 T c8, by rw [HV.out]; rfl, ⟨?_, ?_, own_base (own_kp ho9 (fun _ _ _ => drew_heap _ _)) (by omega), HALL.out.2.2, by omega, bl_drew hb9⟩⟩
  · kernel_rfl
  · exact VolIs.keep HV2.out.2 ((drew_heap _ _).trans (put9_other (by omega))) (fun k hk => (drew_heap _ _).trans (put9_other (by have := HALL.out.1 k hk; omega)))
  · intro k hk
    have := HALL.out.1 k hk
    omega

end Go.Proofs.YtichcdoijieddaaGreat.Ra
end

/- Words compared by the law (cantlelaw03.Same). -/
section
set_option linter.unusedVariables false
set_option linter.unusedSimpArgs false
set_option maxHeartbeats 1000000
namespace Go.Proofs.YtichcdoijieddaaGreat.Pm
open Go Go.RowKit
open Go.ChangeMaps (setBlock)
open Go.Proofs.YtichcdoijieddaaGreat.Ob Go.Proofs.YtichcdoijieddaaGreat.Mp Go.Proofs.YtichcdoijieddaaGreat.Dv Go.Proofs.YtichcdoijieddaaGreat.Wl

set_option maxRecDepth 100000 in
theorem same_words {w : World} {A B : Option Addr} {l m : List Int} (h : Rd w A l) (k : Rd w B m) (c1 c2 : Nat) (hl : l.length ≤ 9223372036854775807) (hm : m.length ≤ 9223372036854775807) :
    Calls Tryz.prog 23 #[.slice A l.length c1, .slice B m.length c2] w fun e w' => e = .returned (.bool (decide (l = m))) ∧ ∃ n, w' = w.drewN n := by
  have H := Lib.hid h
  have K := Lib.hid k
  clear h k
  by_cases he : l.length = m.length
  · obtain ⟨n, hn⟩ : ∃ n, n = l.length := ⟨_, rfl⟩
    rw [← he, ← hn]
    rw [← hn] at hl
    have HN : Hid (n = l.length ∧ n = m.length) := ⟨hn, by rw [hn, he]⟩
    clear hn he hm
    go_enter Tryz.func23, Tryz.ntmps23
    go_wp2_with fail
    go_loopw [13] (fun c13 wr => ∃ i : Nat, i ≤ n ∧ c13 = .int .i64 i ∧ ∃ q, Hid (wr = w.drewN q ∧ l.take i = m.take i)) (fun c13 _ => n - (intOf c13).toNat)
    case atStart => exact ⟨0, Nat.zero_le _, rfl, 0, rfl, rfl⟩
    case round =>
      obtain ⟨i, hi, rfl, q, HR⟩ := hrel
      by_cases hlt : i < n
      · obtain ⟨x, hx⟩ : ∃ x, l[i]? = some x := ⟨_, List.getElem?_eq_getElem (by rw [← HN.out.1]; exact hlt)⟩
        obtain ⟨y, hy⟩ : ∃ y, m[i]? = some y := ⟨_, List.getElem?_eq_getElem (by rw [← HN.out.2]; exact hlt)⟩
        have hl2 : Rd wr A l := by rw [HR.out.1]; exact H.out.drewN q
        have hm2 : Rd wr B m := by rw [HR.out.1]; exact K.out.drewN q
        obtain ⟨a, rfl, -, ha⟩ := hl2 i x hx
        obtain ⟨b, rfl, -, hb⟩ := hm2 i y hy
        have HX := Lib.hid (And.intro hx hy)
        clear hx hy hl2 hm2
        by_cases hxy : x = y
        · have e1 : (x != y) = false := by simp [hxy]
          have EX := Lib.hid hxy
          clear hxy
          go_wp2
          go_quiet (fail)
          go_wp2
          go_roundw
          case rel => exact ⟨i + 1, by omega, by go_num, q + nq, by show _ ∧ _; rw [HR.out.1]; exact ⟨drewN_two _ _ _, eq_step HX.out.1 HX.out.2 HR.out.2 EX.out⟩⟩
          case measure => simp [intOf]; omega
        · have e1 : (x != y) = true := bne_iff_ne.2 hxy
          have EX := Lib.hid hxy
          clear hxy
          go_wp2
          go_quiet (fail)
          go_wp2
          go_ret
          have hd : decide (l = m) = false := by
            apply decide_eq_false
            rintro rfl
            have := HX.out.1.symm.trans HX.out.2
            simp at this
            exact EX.out this
          rw [hd]
          exact ⟨rfl, _, by rw [HR.out.1]; exact drewN_two _ _ _⟩
      · obtain rfl : i = n := by omega
        go_wp2
        go_ret
        have hd : decide (l = m) = true := by
          apply decide_eq_true
          have h1 := HR.out.2
          rw [List.take_of_length_le (by rw [← HN.out.1]; omega), List.take_of_length_le (by rw [← HN.out.2]; omega)] at h1
          exact h1
        rw [hd]
        exact ⟨rfl, q, HR.out.1⟩
  · have hd : decide (l = m) = false := by
      apply decide_eq_false
      intro e
      exact he (by rw [e])
    rw [hd]
    have e1 : ((l.length : Int) != (m.length : Int)) = true := by rw [bne_iff_ne]; omega
    clear hd he
    generalize l.length = x at *
    generalize m.length = y at *
    go_enter Tryz.func23, Tryz.ntmps23
    go_wp2
    go_ret
    exact ⟨rfl, 0, rfl⟩

end Go.Proofs.YtichcdoijieddaaGreat.Pm
end

/- The laws' looks at a volume: still, wrote. -/
section
set_option linter.unusedVariables false
set_option linter.unusedSimpArgs false
set_option maxHeartbeats 2000000
set_option maxRecDepth 100000
namespace Go.Proofs.YtichcdoijieddaaGreat.Ra
open Go Go.RowKit
open Go.Proofs.YtichcdoijieddaaGreat.Ob Go.Proofs.YtichcdoijieddaaGreat.Ba Go.Proofs.YtichcdoijieddaaGreat.Ko Go.Proofs.YtichcdoijieddaaGreat.Ge Go.Proofs.YtichcdoijieddaaGreat.Oc Go.Proofs.YtichcdoijieddaaGreat.Pk Go.Proofs.YtichcdoijieddaaGreat.Su Go.Proofs.YtichcdoijieddaaGreat.Rf Go.Proofs.YtichcdoijieddaaGreat.Dv Go.Proofs.YtichcdoijieddaaGreat.Vo

/-- a world that grew behind one -/
structure Gr (w W : World) : Prop where
  below : Below w.heap.size w W
  size : w.heap.size < W.heap.size
theorem gr_keep {w W W' : World} {c8 : Value} (h : W.cell? ⟨w.heap.size, 8, none⟩ = some c8 ∧ Gr w W) (hb : Below W.heap.size W W') : W'.cell? ⟨w.heap.size, 8, none⟩ = some c8 ∧ Gr w W' := by
  obtain ⟨h1, h2, h3⟩ := h
  exact ⟨(hb.cell (p := ⟨_, 8, none⟩) h3).trans h1, bl_then h2 hb, Nat.lt_of_lt_of_le h3 hb.size⟩
theorem gr_of {w W : World} {c8 : Value} (h : W.cell? ⟨w.heap.size, 8, none⟩ = some c8 ∧ Gr w W) : Gr w W := h.2
theorem gr_start {w W : World} {y0 y1 y2 y3 y4 y5 y6 y7 c8 : Value} {T : TypeId} (h : W = (w.alloc (.cells #[y0, y1, y2, y3, y4, y5, y6, y7, c8] T)).drew) : W.cell? ⟨w.heap.size, 8, none⟩ = some c8 ∧ Gr w W := by
  subst h
  exact ⟨cell_of (alloc_new w _) 8, bl_drew (bl_alloc (Below.refl _ _) _), by show _ < _; simp⟩

theorem still_yes {w : World} {v b n m s : Nat} {d : Dev} {g : Lay} (h : VolIs w v b n m s d g) (hA : g.A = none → g.c = 0) (h0 : d.steps = 0) {A : Option Addr} {c : Nat} (hr : Rk .u64 w A (Pm.wordsOf d)) (y0 y1 y2 y3 y4 y5 y6 y7 : Int) :
    Calls Tryz.prog 11 #[.pointer (some ⟨v, 0, none⟩), .agg #[.int .i64 y0, .int .i64 y1, .int .i64 y2, .int .i64 y3, .int .i64 y4, .int .i64 y5, .int .i64 y6, .int .i64 y7, .slice A d.las.length c]] w fun e w' => e = .returned (.bool true) ∧ Below w.heap.size w w' := by
  have hu := Tryz.underlying33
  have hl9 := h.dev.wf.len
  have HDV : Hid (∀ {W}, Below w.heap.size w W → _) := fun {W} hb => Vo.device_ (h.below hb)
  have HWD : Hid (∀ {W}, Below w.heap.size w W → _) := fun {W} hb => Pm.words_any (h.dev.below hb) hA
  have HST : Hid (∀ {W}, Below w.heap.size w W → _) := fun {W} hb => Pm.steps_any (h.dev.below hb)
  have HSM : Hid (∀ {W : World} {A2 : Option Addr} {c2 : Nat}, Below w.heap.size w W → Rk .u64 W A2 (Pm.wordsOf d) → Calls Tryz.prog 23 #[.slice A2 d.las.length c2, .slice A d.las.length c] W fun e w' => e = .returned (.bool true) ∧ ∃ n, w' = W.drewN n) := by
    intro W A2 c2 hb hr2
    have h9 := Pm.same_words (rk_rd hr2) (rk_rd (hr.below hb)) c2 c (by rw [Pm.wordsOf_length]; omega) (by rw [Pm.wordsOf_length]; omega)
    rw [Pm.wordsOf_length, decide_eq_true rfl] at h9
    exact h9
  rw [h0] at HST
  obtain ⟨len, hle⟩ : ∃ len, len = d.las.length := ⟨_, rfl⟩
  rw [← hle] at HSM HWD
  rw [← hle]
  clear h hA h0 hr hl9 hle
  go_enter Tryz.func11, Tryz.ntmps11
  go_wp2_with fail
  go_region_held3 (fun w' => w'.cell? ⟨w.heap.size, 8, none⟩ = some (.slice A len c) ∧ Gr w w')
    (first | assumption | exact gr_start rfl | exact gr_keep ‹_› ‹_›)
    (first | (go_at_call 24; refine (HDV.out (gr_of ‹_›).below).mono ?_; rintro e w2 ⟨rfl, rfl⟩) |
      (go_at_call 25; refine (HWD.out (gr_of ‹_›).below).mono ?_; rintro e w3 ⟨v3, rfl, hown, hb⟩; (obtain ⟨A3, c3, rfl⟩ := own_slice hown); (have HOW3 := Lib.hid (own_rk (k := .u64) hown).1); clear hown) |
      (go_at_call 23; refine (HSM.out (gr_of ‹_›).below HOW3.out).mono ?_; rintro e w4 ⟨rfl, q4, hw4⟩; (have hb4 : Below w3.heap.size w3 w4 := by rw [hw4]; exact bl_drewN (Below.refl _ _) _); clear hw4) |
      (go_at_call 27; refine (HST.out (gr_of ‹_›).below).mono ?_; rintro e w5 ⟨rfl, rfl⟩))
  all_goals
    go_wp2
    go_ret
    exact ⟨rfl, (gr_of ‹_›).below⟩

end Go.Proofs.YtichcdoijieddaaGreat.Ra
end

/- The laws' look at a volume that was written: wrote. -/
section
set_option linter.unusedVariables false
set_option linter.unusedSimpArgs false
set_option maxHeartbeats 2000000
set_option maxRecDepth 100000
namespace Go.Proofs.YtichcdoijieddaaGreat.Ra
open Go Go.RowKit
open Go.Proofs.YtichcdoijieddaaGreat.Ob Go.Proofs.YtichcdoijieddaaGreat.Ba Go.Proofs.YtichcdoijieddaaGreat.Ko Go.Proofs.YtichcdoijieddaaGreat.Ge Go.Proofs.YtichcdoijieddaaGreat.Oc Go.Proofs.YtichcdoijieddaaGreat.Pk Go.Proofs.YtichcdoijieddaaGreat.Su Go.Proofs.YtichcdoijieddaaGreat.Rf Go.Proofs.YtichcdoijieddaaGreat.Dv Go.Proofs.YtichcdoijieddaaGreat.Vo

theorem stores_any {w : World} {b : Nat} {d : Dev} {g : Lay} (h : DevIs w b d g) :
    Calls Tryz.prog 26 #[.pointer (some ⟨b, 0, none⟩)] w fun e w' => e = .returned (.int .i64 d.stores) ∧ w = w' := by
  obtain ⟨c0, c1, c2, c3, c4, c5⟩ := Pm.dev_cells h
  go_enter Tryz.func26, Tryz.ntmps26
  go_wp2
  go_ret
  exact ⟨rfl, rfl⟩

theorem wrote_yes {w : World} {v b n m s : Nat} {d : Dev} {g : Lay} (h : VolIs w v b n m s d g) (hA : g.A = none → g.c = 0) {A B : Option Addr} {l xs : List Int} {c c2 : Nat} (hr : Rk .u64 w A l) (hx : Rk .u64 w B xs) (a : Nat) (hl : 1 ≤ l.length) (ha : a + xs.length ≤ l.length)
    (hw : Pm.wordsOf d = wput l a xs) (h0 : d.stores = xs.length) (h1 : d.steps = xs.length + nline a xs.length) (y0 y1 y2 y3 y4 y5 y6 y7 : Int) :
    Calls Tryz.prog 13 #[.pointer (some ⟨v, 0, none⟩), .agg #[.int .i64 y0, .int .i64 y1, .int .i64 y2, .int .i64 y3, .int .i64 y4, .int .i64 y5, .int .i64 y6, .int .i64 y7, .slice A l.length c], .int .i64 a, .slice B xs.length c2] w fun e w' => e = .returned (.bool true) ∧ Below w.heap.size w w' := by
  have hu := Tryz.underlying33
  have hl9 := h.dev.wf.len
  have hll : d.las.length = l.length := by
    have := congrArg List.length hw
    rw [Pm.wordsOf_length, wput_length] at this
    exact this
  rw [hll] at hl9
  have HDV : Hid (∀ {W}, Below w.heap.size w W → _) := fun {W} hb => Vo.device_ (h.below hb)
  have HWD : Hid (∀ {W}, Below w.heap.size w W → _) := fun {W} hb => Pm.words_any (h.dev.below hb) hA
  have HST : Hid (∀ {W}, Below w.heap.size w W → _) := fun {W} hb => Pm.steps_any (h.dev.below hb)
  have HSO : Hid (∀ {W}, Below w.heap.size w W → _) := fun {W} hb => stores_any (h.dev.below hb)
  have HPUT : Hid (∀ {W}, Below w.heap.size w W → _) := fun {W} hb => put15_ (hr.below hb) (hx.below hb) y0 y1 y2 y3 y4 y5 y6 y7 a c c2 hl hl9 ha
  have HSM : Hid (∀ {W : World} {A2 A8 : Option Addr} {c2 c8 : Nat}, Rk .u64 W A8 (wput l a xs) → Rk .u64 W A2 (Pm.wordsOf d) → Calls Tryz.prog 23 #[.slice A2 l.length c2, .slice A8 l.length c8] W fun e w' => e = .returned (.bool true) ∧ ∃ n, w' = W.drewN n) := by
    intro W A2 A8 c2 c8 hb hr2
    have h9 := Pm.same_words (rk_rd hr2) (rk_rd hb) c2 c8 (by rw [hw, wput_length]; omega) (by rw [wput_length]; omega)
    rw [hw, wput_length, decide_eq_true rfl] at h9
    exact h9
  have hnl := nline_le a xs.length
  rw [h0] at HSO
  rw [h1] at HST
  rw [hll] at HWD
  generalize nline a xs.length = q at *
  generalize xs.length = k at *
  generalize l.length = len at *
  have e5 : ((k + q : Nat) : Int) = (k : Int) + q := by omega
  rw [e5] at HST
  clear h hA h0 h1 hr hx hl hw hll e5
  go_enter Tryz.func13, Tryz.ntmps13
  go_wp2_with fail
  refine (HPUT.out (bl_alloc (Below.refl _ _) _)).mono ?_
  rintro e w1 ⟨v8, rfl, ho, hb1⟩
  obtain ⟨A8, c8, e8⟩ := own_slice ho
  subst e8
  have HR8 := Lib.hid (own_rk ho).1
  have HB1 := Lib.hid (bl_then (bl_alloc (Below.refl _ _) _) hb1)
  clear ho hb1 HPUT
  go_wp2_with (go_at_call 24; refine (HDV.out (bl_alloc HB1.out _)).mono ?_; rintro e w2 ⟨rfl, rfl⟩)
  have hwr : IntKind.i64.wrap ((k : Int) + q) = (k : Int) + q := IntWalk.i64_in _ (by omega)
  go_region_held3 (fun w' => w'.cell? ⟨w1.heap.size, 8, none⟩ = some (.slice A8 len c8) ∧ Gr w1 w')
    (first | assumption | exact gr_start rfl | exact gr_keep ‹_› ‹_›)
    (first | (go_at_call 25; refine (HWD.out (bl_then HB1.out (gr_of ‹_›).below)).mono ?_; rintro e w3 ⟨v3, rfl, hown, hb⟩; (obtain ⟨A3, c3, rfl⟩ := own_slice hown); (have HOW3 := Lib.hid (own_rk (k := .u64) hown).1); clear hown) |
      (go_at_call 23; refine (HSM.out (HR8.out.below (gr_of ‹_›).below) HOW3.out).mono ?_; rintro e w4 ⟨rfl, q4, hw4⟩; (have hb4 : Below w3.heap.size w3 w4 := by rw [hw4]; exact bl_drewN (Below.refl _ _) _); clear hw4) |
      (go_at_call 26; refine (HSO.out (bl_then HB1.out (gr_of ‹_›).below)).mono ?_; rintro e w5 ⟨rfl, rfl⟩) |
      (go_at_call 27; refine (HST.out (bl_then HB1.out (gr_of ‹_›).below)).mono ?_; rintro e w6 ⟨rfl, rfl⟩))
  all_goals
    go_wp2
    go_ret
    exact ⟨rfl, bl_then HB1.out (gr_of ‹_›).below⟩

end Go.Proofs.YtichcdoijieddaaGreat.Ra
end

/- One word put into a device that was made of words. -/
section
set_option linter.unusedVariables false
set_option linter.unusedSimpArgs false
namespace Go.Proofs.YtichcdoijieddaaGreat.Ra
open Go Go.RowKit
open Go.Proofs.YtichcdoijieddaaGreat.Ob Go.Proofs.YtichcdoijieddaaGreat.Ba Go.Proofs.YtichcdoijieddaaGreat.Oc Go.Proofs.YtichcdoijieddaaGreat.Pk Go.Proofs.YtichcdoijieddaaGreat.Rf Go.Proofs.YtichcdoijieddaaGreat.Dv Go.Proofs.YtichcdoijieddaaGreat.Vo

/-- the device behind one word stored and its line flushed -/
def one (L : List Int) (k : Nat) (x : Int) : Dev := ⟨2, 1, L, [((k : Int), ⟨[x], 1⟩)], none⟩
theorem put_one (L : List Int) (k : Nat) (x : Int) (hk : k < L.length) : putGo true [x] k ⟨Pm.devOf L, 0, []⟩ = (one L k x, some 1) := by
  have h1 : (Pm.devOf L).storeOk k = true := by simp [Dev.storeOk, Dev.inn, Dev.down, Pm.devOf, hk]
  have h2 : (Pm.devOf L).stored k x = ⟨1, 1, L, [((k : Int), ⟨[x], 0⟩)], none⟩ := by
    unfold Dev.stored
    rw [h1]
    simp [Dev.stepped, Pm.devOf, Dev.find]
  rw [putGo_store rfl h1, h2]
  have h3 : (⟨1, 1, L, [((k : Int), ⟨[x], 0⟩)], none⟩ : Dev).flushOk ((k / 8 : Nat) : Int) = true := by
    simp [Dev.flushOk, Dev.down]
    omega
  show flushGo (addLn [] (k / 8)) _ _ = _
  show (if Dev.flushOk _ ((k / 8 : Nat) : Int) then flushGo [] (Dev.flushed _ ((k / 8 : Nat) : Int)) _ else _) = _
  rw [if_pos h3]
  show ((Dev.flushed _ ((k / 8 : Nat) : Int)), some 1) = _
  unfold Dev.flushed
  rw [h3]
  simp [Dev.stepped, flushPen, one]
theorem one_load (L : List Int) (k : Nat) (x : Int) : (one L k x).load k = x := by
  simp [Dev.load, Dev.find, one]
theorem one_words (L : List Int) (k : Nat) (x : Int) (hk : k < L.length) : Pm.wordsOf (one L k x) = wput L k [x] := by
  rw [Pm.wordsOf_eq]
  show (List.range L.length).map _ = L.set k x
  apply List.ext_getElem?
  intro i
  by_cases hi : i < L.length
  · rw [List.getElem?_map, List.getElem?_range hi, List.getElem?_set]
    show some ((one L k x).load (i : Int)) = _
    by_cases e : k = i
    · subst e
      rw [one_load, if_pos rfl, if_pos hk]
    · rw [if_neg e]
      have hne : ¬ ((k : Int) = (i : Int)) := by omega
      simp [Dev.load, Dev.find, one, hne, Dev.lasting, Dev.inn, hi]
  · rw [List.getElem?_eq_none (by simp; omega), List.getElem?_eq_none (by simp; omega)]

end Go.Proofs.YtichcdoijieddaaGreat.Ra
end
