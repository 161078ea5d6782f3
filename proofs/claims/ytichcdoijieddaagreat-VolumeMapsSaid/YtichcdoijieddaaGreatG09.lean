/- Parts of the proof, one behind the other: Sw, Ry, Vl, Vp. -/
import Derived.Test.YtichcdoijieddaaGreatG08
import Derived.BigRegion
import Derived.RegionTactic
import Derived.ChangeAlike
import Derived.Test.YtichcdoijieddaaGreatG07
import Derived.Deep.RegionWith

/- super.Decode. -/
section
set_option linter.unusedVariables false
set_option linter.unusedSimpArgs false
set_option maxHeartbeats 2000000
set_option maxRecDepth 100000
namespace Go.Proofs.YtichcdoijieddaaGreat.Su
open Go Go.RowKit
open Go.Proofs.YtichcdoijieddaaGreat.Ob Go.Proofs.YtichcdoijieddaaGreat.Ba Go.Proofs.YtichcdoijieddaaGreat.Ko Go.Proofs.YtichcdoijieddaaGreat.Ge Go.Proofs.YtichcdoijieddaaGreat.Cr Go.Proofs.YtichcdoijieddaaGreat.Cc Go.Proofs.YtichcdoijieddaaGreat.Oc Go.Proofs.YtichcdoijieddaaGreat.Pk

def pa (x : Nat) : Nat := x % 65536
def pb (x : Nat) : Nat := x / 65536 % 65536
def pc (x : Nat) : Nat := x / 4294967296 % 65536
def Good (l : List Nat) : Prop := l.length = 8 ∧ l.getD 1 0 < 281474976710656 ∧ geoOk (pa (l.getD 1 0)) (pb (l.getD 1 0)) (pc (l.getD 1 0)) = true ∧ enc (pa (l.getD 1 0)) (pb (l.getD 1 0)) (pc (l.getD 1 0)) = l

theorem rk_rd {w : World} {A : Option Addr} {l : List Int} (h : Rk .u64 w A l) : Go.Proofs.YtichcdoijieddaaGreat.Pm.Rd w A l := h

theorem spl3 (x : Nat) : spl x [16, 16, 16] = [pa x, pb x, pc x] := by
  simp only [spl, pa, pb, pc]
  simp
  omega

theorem dec_len {w : World} {A : Option Addr} {l : List Nat} (h : Rk .u64 w A (ints l)) (c : Nat) (hl : l.length ≠ 8) (hn : l.length ≤ 9223372036854775807) :
    Calls Tryz.prog 126 #[.slice A l.length c] w fun e w' => e = .returned (.tuple #[.agg #[.int .i64 0, .int .i64 0, .int .i64 0], .int .i64 2]) ∧ Below w.heap.size w w' := by
  have hu := Tryz.underlying83
  have e1 : ((l.length : Int) != 8) = true := by rw [bne_iff_ne]; omega
  clear h hl
  generalize l.length = n at *
  go_enter Tryz.func126, Tryz.ntmps126
  go_wp2
  exact bodyPost_ret (res_ct rfl _ _ w.heap.size 83 #[.int .i64 0, .int .i64 0, .int .i64 0] (0, 0) _ rfl (alloc_new w _) hu rfl (by kernel_rfl)) rfl ⟨rfl, bl_alloc (Below.refl _ _) _⟩

theorem dec_split {w : World} {A : Option Addr} {l : List Nat} (h : Rk .u64 w A (ints l)) (c : Nat) (hl : l.length = 8) (hlt : ∀ x ∈ l, x < 18446744073709551616) (hx : ¬ l.getD 1 0 < 281474976710656) :
    Calls Tryz.prog 126 #[.slice A l.length c] w fun e w' => e = .returned (.tuple #[.agg #[.int .i64 0, .int .i64 0, .int .i64 0], .int .i64 2]) ∧ Below w.heap.size w w' := by
  have hu := Tryz.underlying83
  obtain ⟨x, hx1⟩ := some_at (l := l) (i := 1) (by omega)
  have hxe : l.getD 1 0 = x := by rw [List.getD_eq_getElem?_getD, hx1]; rfl
  rw [hxe] at hx
  obtain ⟨a, rfl, ha0, ha⟩ := h 1 x (ints_get hx1)
  have ha : w.cell? ⟨a.block, a.off + 1, none⟩ = some (.int .u64 x) := ha
  have hx64 := hlt x (List.mem_of_getElem? hx1)
  rw [hl]
  clear h hl hlt hx1 hxe
  have hrk : Rk .i64 ((w.alloc (.cells #[.int .i64 0, .int .i64 0, .int .i64 0] 83)).alloc (.cells #[.int .i64 16, .int .i64 16, .int .i64 16] 3)) (some ⟨w.heap.size + 1, 0, none⟩) (ints [16, 16, 16]) := by
    have := alloc_new (w.alloc (.cells #[.int .i64 0, .int .i64 0, .int .i64 0] 83)) (.cells #[.int .i64 16, .int .i64 16, .int .i64 16] 3)
    rw [World.size_alloc] at this
    refine blk_rk this fun i x hx => ?_
    match i with
    | 0 => simpa [ints] using hx
    | 1 => simpa [ints] using hx
    | 2 => simpa [ints] using hx
    | i + 3 => simp [ints] at hx
  have hsp := split_ hrk x hx64 3 (by simp) (by decide) (by decide)
  have hne : ¬ x / 2 ^ [16, 16, 16].sum = 0 := by
    simp
    omega
  rw [decide_eq_false hne] at hsp
  have HS := Lib.hid hsp
  clear hrk hsp hne hx
  go_enter Tryz.func126, Tryz.ntmps126
  go_wp2_with (go_at_call 105; refine HS.out.mono ?_; rintro e w1 ⟨v, rfl, -, hb⟩; (obtain ⟨hc, hf⟩ := bcell hb); (have hz := hb.size); simp only [World.size_alloc] at hz; (have hz1 : w.heap.size < w1.heap.size := by omega); (have HB := Lib.hid hb); clear hb hz)
  refine bodyPost_ret (res_ct rfl _ _ w.heap.size 83 #[.int .i64 0, .int .i64 0, .int .i64 0] (0, 0) _ rfl ?_ hu rfl (by kernel_rfl)) rfl ⟨rfl, ?_⟩
  · exact put3 (blk_bl (alloc_old (alloc_new w _) _) HB.out) _ _ _
  · exact bl_put3 (bl_then (bl_alloc (bl_alloc (Below.refl _ _) _) _) HB.out) (Nat.le_refl _) _ _ _

def DecIs (l : List Nat) (a b d : Nat) (e : Ending) : Prop := if geoOk a b d = true ∧ enc a b d = l then e = .returned (.tuple #[.agg #[.int .i64 a, .int .i64 b, .int .i64 d], .int .i64 0]) else e = .returned (.tuple #[.agg #[.int .i64 0, .int .i64 0, .int .i64 0], .int .i64 2])
theorem dec_yes {l : List Nat} {a b d : Nat} (h : geoOk a b d = true ∧ enc a b d = l) : DecIs l a b d (.returned (.tuple #[.agg #[.int .i64 a, .int .i64 b, .int .i64 d], .int .i64 0])) := by unfold DecIs; rw [if_pos h]
theorem dec_no {l : List Nat} {a b d : Nat} (h : ¬ (geoOk a b d = true ∧ enc a b d = l)) : DecIs l a b d (.returned (.tuple #[.agg #[.int .i64 0, .int .i64 0, .int .i64 0], .int .i64 2])) := by unfold DecIs; rw [if_neg h]

theorem dec_rest {w : World} {A : Option Addr} {l : List Nat} (h : Rk .u64 w A (ints l)) (c : Nat) (hl : l.length = 8) (hlt : ∀ x ∈ l, x < 18446744073709551616) (x : Nat) (hxx : l.getD 1 0 = x) (hx : x < 281474976710656) (a b d : Nat) (h1 : a = pa x) (h2 : b = pb x) (h3 : d = pc x) :
    Calls Tryz.prog 126 #[.slice A l.length c] w fun e w' => DecIs l a b d e ∧ Below w.heap.size w w' := by
  have hu := Tryz.underlying83
  obtain ⟨x', hx1⟩ := some_at (l := l) (i := 1) (by omega)
  have hxe : x' = x := by rw [← hxx, List.getD_eq_getElem?_getD, hx1]; rfl
  subst hxe
  have H := Lib.hid h
  obtain ⟨ad, rfl, ha0, ha⟩ := h 1 x' (ints_get hx1)
  have ha : w.cell? ⟨ad.block, ad.off + 1, none⟩ = some (.int .u64 x') := ha
  have HL := Lib.hid hl
  rw [hl]
  have ha1 : a < 65536 := by rw [h1]; exact Nat.mod_lt _ (by decide)
  have hb1 : b < 65536 := by rw [h2]; exact Nat.mod_lt _ (by decide)
  have hd1 : d < 65536 := by rw [h3]; exact Nat.mod_lt _ (by decide)
  have hrk : Rk .i64 ((w.alloc (.cells #[.int .i64 0, .int .i64 0, .int .i64 0] 83)).alloc (.cells #[.int .i64 16, .int .i64 16, .int .i64 16] 3)) (some ⟨w.heap.size + 1, 0, none⟩) (ints [16, 16, 16]) := by
    have := alloc_new (w.alloc (.cells #[.int .i64 0, .int .i64 0, .int .i64 0] 83)) (.cells #[.int .i64 16, .int .i64 16, .int .i64 16] 3)
    rw [World.size_alloc] at this
    refine blk_rk this fun i x hx => ?_
    match i with
    | 0 => simpa [ints] using hx
    | 1 => simpa [ints] using hx
    | 2 => simpa [ints] using hx
    | i + 3 => simp [ints] at hx
  have hsp := split_ hrk x' (by omega) 3 (by simp) (by decide) (by decide)
  have hne : x' / 2 ^ [16, 16, 16].sum = 0 := by
    simp
    omega
  rw [decide_eq_true hne, spl3, ← h1, ← h2, ← h3, show ([16, 16, 16] : List Nat).length = 3 from rfl] at hsp
  have HS := Lib.hid (And.intro hsp hne)
  clear hrk hsp hne hx h hl hx1 hxx h1 h2 h3 hlt
  go_enter Tryz.func126, Tryz.ntmps126
  go_wp2_with fail
  refine HS.out.1.mono ?_
  rintro e w1 ⟨v, rfl, hown, hb⟩
  have hown := hown HS.out.2
  obtain ⟨A1, c1, rfl⟩ := own_slice hown
  obtain ⟨g1, rfl, hc0, hf0⟩ := own_at (i := 0) (x := (a : Nat)) hown rfl
  obtain ⟨g2, e2, hc1, hf1⟩ := own_at (i := 1) (x := (b : Nat)) hown rfl
  cases e2
  obtain ⟨g3, e3, hc2, hf2⟩ := own_at (i := 2) (x := (d : Nat)) hown rfl
  cases e3
  have hz := hb.size
  simp only [World.size_alloc] at hz
  have hz1 : w.heap.size < w1.heap.size := by omega
  have HB := Lib.hid hb
  have hq1 : Hid (w1.heap[w.heap.size]? = some (.cells #[.int .i64 0, .int .i64 0, .int .i64 0] 83 (0, 0))) := blk_bl (alloc_old (alloc_new w _) _) hb
  have HQ1 : Hid (Below w.heap.size w w1) := bl_then (bl_alloc (bl_alloc (Below.refl _ _) _) _) hb
  have hg : g1 < w1.heap.size := by
    have := hc0
    unfold World.cell? at this
    cases hq : w1.heap[g1]? with
    | none => simp [hq] at this
    | some o => exact lt_of hq
  clear hown hb hf0 hf1 hf2 ha hz
  go_wp2_with fail
  go_region
  by_cases hgeo : geoOk a b d = true
  · have HG := Lib.hid hgeo
    go_wp2_with fail
    refine (encode_yes a b d hgeo ha1 hb1 hd1 _).mono ?_
    rintro e w2 ⟨v2, rfl, hown2, hb2⟩
    have hb2' : Below w1.heap.size w1 w2 := bl_then (bl_drew (bl_alloc (Below.refl _ _) _)) hb2
    obtain ⟨A2, c2, rfl⟩ := own_slice hown2
    have hrk2 := (own_rk hown2).1
    have hlr : Rk .u64 w2 (some ad) (ints l) := H.out.below (bl_then HQ1.out hb2')
    have heq := Go.Proofs.YtichcdoijieddaaGreat.Pm.equal_any (rk_rd hrk2) (rk_rd hlr) c2 c (by rw [ints_length, show (enc a b d).length = 8 from rfl]; decide) (by rw [ints_length, HL.out]; decide)
    rw [ints_length, ints_length, show (enc a b d).length = 8 from rfl, HL.out] at heq
    have HE := Lib.hid heq
    have hgb := blk_bl (W := (w1.alloc (.cells #[.int .i64 a, .int .i64 b, .int .i64 d] 83)).drew) (alloc_new w1 (.cells #[.int .i64 a, .int .i64 b, .int .i64 d] 83)) hb2
    have m0 := cell_of hgb 0
    have m1 := cell_of hgb 1
    have m2 := cell_of hgb 2
    have hq2 := Lib.hid (blk_bl hq1.out hb2')
    have l0 := cell_of hq2.out 0
    have l1 := cell_of hq2.out 1
    have l2 := cell_of hq2.out 2
    have f0 := free_of hq2.out 0
    have f1 := free_of hq2.out 1
    have f2 := free_of hq2.out 2
    have HQ2 := Lib.hid (bl_then HQ1.out hb2')
    clear hgeo hown2 hb2 hb2' hrk2 hlr heq
    go_wp2_with fail
    refine HE.out.mono ?_
    rintro e w3 ⟨rfl, n3, rfl⟩
    by_cases hle : ints (enc a b d) = ints l
    · have hle' : enc a b d = l := ints_inj.1 hle
      rw [decide_eq_true hle]
      have HLE := Lib.hid (And.intro HG.out hle')
      clear hle hle'
      go_wp2_with fail
      exact bodyPost_ret (res_ct (u := 3) rfl _ _ w.heap.size 83 #[.int .i64 a, .int .i64 b, .int .i64 d] (0, 0) _ rfl (put3 hq2.out _ _ _) hu rfl (by kernel_rfl)) rfl ⟨dec_yes HLE.out, bl_put3 (bl_drewN HQ2.out _) (Nat.le_refl _) _ _ _⟩
    · rw [decide_eq_false hle]
      have HLE : Hid (¬ (geoOk a b d = true ∧ enc a b d = l)) := fun h => hle (by rw [h.2])
      clear hle
      go_wp2_with fail
      exact bodyPost_ret (res_ct (u := 3) rfl _ _ w.heap.size 83 #[.int .i64 0, .int .i64 0, .int .i64 0] (0, 0) _ rfl (put3 hq2.out _ _ _) hu rfl (by kernel_rfl)) rfl ⟨dec_no HLE.out, bl_put3 (bl_drewN HQ2.out _) (Nat.le_refl _) _ _ _⟩
  · have HG : Hid (¬ (geoOk a b d = true ∧ enc a b d = l)) := fun h => hgeo h.1
    have hgeo' : geoOk a b d = false := by simpa using hgeo
    clear hgeo
    go_wp2_with fail
    refine (encode_no a b d hgeo' _).mono ?_
    rintro e w2 ⟨rfl, hb2⟩
    have hb2' : Below w1.heap.size w1 w2 := bl_then (bl_drew (bl_alloc (Below.refl _ _) _)) hb2
    have hq2 := Lib.hid (blk_bl hq1.out hb2')
    have l0 := cell_of hq2.out 0
    have l1 := cell_of hq2.out 1
    have l2 := cell_of hq2.out 2
    have f0 := free_of hq2.out 0
    have f1 := free_of hq2.out 1
    have f2 := free_of hq2.out 2
    have HQ2 := Lib.hid (bl_then HQ1.out hb2')
    clear hb2 hb2' hgeo'
    go_wp2_with fail
    exact bodyPost_ret (res_ct (u := 3) rfl _ _ w.heap.size 83 #[.int .i64 0, .int .i64 0, .int .i64 0] (0, 0) _ rfl (put3 hq2.out _ _ _) hu rfl (by kernel_rfl)) rfl ⟨dec_no HG.out, bl_put3 HQ2.out (Nat.le_refl _) _ _ _⟩

end Go.Proofs.YtichcdoijieddaaGreat.Su
end

/- super.Read of a device that is one. -/
section
set_option linter.unusedVariables false
set_option linter.unusedSimpArgs false
set_option maxHeartbeats 2000000
set_option maxRecDepth 100000
namespace Go.Proofs.YtichcdoijieddaaGreat.Su
open Go Go.RowKit
open Go.Proofs.YtichcdoijieddaaGreat.Ob Go.Proofs.YtichcdoijieddaaGreat.Ba Go.Proofs.YtichcdoijieddaaGreat.Ko Go.Proofs.YtichcdoijieddaaGreat.Ge Go.Proofs.YtichcdoijieddaaGreat.Cr Go.Proofs.YtichcdoijieddaaGreat.Cc Go.Proofs.YtichcdoijieddaaGreat.Oc Go.Proofs.YtichcdoijieddaaGreat.Pk Go.Proofs.YtichcdoijieddaaGreat.Dv

theorem enc_len (n m s : Nat) : (enc n m s).length = 8 := rfl
theorem enc_at1 (n m s : Nat) : (enc n m s).getD 1 0 = word1 n m s := rfl
theorem enc_lt {n m s : Nat} (hn : n < 65536) (hm : m < 65536) (hs : s < 65536) : ∀ x ∈ enc n m s, x < 18446744073709551616 := by
  intro x hx
  have h1 : word1 n m s < 18446744073709551616 := by unfold word1; omega
  have h2 : sum7 magic (word1 n m s) < 18446744073709551616 := Nat.lt_trans (sum7_lt _ _) (by decide)
  have h3 : magic < 18446744073709551616 := by decide
  unfold enc line at hx
  simp only [List.cons_append, List.nil_append, List.mem_cons, List.not_mem_nil, or_false] at hx
  rcases hx with rfl | rfl | rfl | rfl | rfl | rfl | rfl | rfl
  · exact h3
  · exact h1
  all_goals first | exact h2 | decide

theorem dec_enc {w : World} {A : Option Addr} {n m s : Nat} (h : Rk .u64 w A (ints (enc n m s))) (c : Nat) (hok : geoOk n m s = true) (hn : n < 65536) (hm : m < 65536) (hs : s < 65536) :
    Calls Tryz.prog 126 #[.slice A 8 c] w fun e w' => e = .returned (.tuple #[.agg #[.int .i64 n, .int .i64 m, .int .i64 s], .int .i64 0]) ∧ Below w.heap.size w w' := by
  have hp : pa (word1 n m s) = n ∧ pb (word1 n m s) = m ∧ pc (word1 n m s) = s ∧ word1 n m s < 281474976710656 := by unfold pa pb pc word1; omega
  have := dec_rest h c (enc_len n m s) (enc_lt hn hm hs) (word1 n m s) (enc_at1 n m s) hp.2.2.2 n m s hp.1.symm hp.2.1.symm hp.2.2.1.symm
  rw [enc_len] at this
  refine this.mono ?_
  rintro e w' ⟨hd, hb⟩
  unfold DecIs at hd
  rw [if_pos ⟨hok, rfl⟩] at hd
  exact ⟨hd, hb⟩

theorem own_drewN {W : World} {B T s n : Nat} {v : Value} {xs : List Value} (h : W.ownsRow B T s v n xs) (q : Nat) : (W.drewN q).ownsRow B T s v n xs := own_kp h (fun _ _ _ => rfl)

theorem read_ok {w : World} {b : Nat} {d : Dev} {g : Lay} (h : DevIs w b d g) (n m s : Nat) (hok : geoOk n m s = true) (hn : n < 65536) (hm : m < 65536) (hs : s < 65536) (hlen : (d.las.length : Int) = tot n m s) (h8 : 8 ≤ d.las.length)
    (hl : ∀ (i : Nat) x, (enc n m s)[i]? = some x → d.load i = (x : Int)) :
    Calls Tryz.prog 98 #[.pointer (some ⟨b, 0, none⟩)] w fun e w' => e = .returned (.tuple #[.agg #[.int .i64 n, .int .i64 m, .int .i64 s], .int .i64 0]) ∧ Below w.heap.size w w' := by
  have hu := Tryz.underlying83
  have HD := Lib.hid h
  have HL : Hid (∀ W, DevIs W b d g → Calls Tryz.prog 125 #[.pointer (some ⟨b, 0, none⟩)] W fun e w' => e = .returned (.int .i64 (tot n m s)) ∧ W = w') := by
    intro W hW
    rw [← hlen]
    exact Go.Proofs.YtichcdoijieddaaGreat.Pm.len_any hW
  have HLD := Lib.hid hl
  have HW := Lib.hid (words_ n m s hok)
  have HDE : Hid (∀ {w : World} {A : Option Addr} (h : Rk .u64 w A (ints (enc n m s))) (c : Nat), _) := fun h c => dec_enc h c hok hn hm hs
  have ht : (8 : Int) ≤ tot n m s := by omega
  have HE8 := Lib.hid (enc_len n m s)
  have HLT := Lib.hid (enc_lt hn hm hs)
  generalize enc n m s = l at *
  generalize ht0 : tot n m s = t at *
  clear h hok hn hm hs hlen h8 hl ht0
  have hinf0 : True := trivial
  obtain ⟨i0, hinf, hz0, hz1, hz2⟩ := info_parts info_u64
  go_enter Tryz.func98, Tryz.ntmps98
  go_wp2_with fail
  refine (HL.out _ (HD.out.below (bl_alloc (Below.refl _ _) _))).mono ?_
  rintro e w1 ⟨rfl, hw1⟩
  have HB1 : Hid (Below w.heap.size w w1) := by rw [← hw1]; exact bl_alloc (Below.refl _ _) _
  have HQ1 : Hid (w1.heap[w.heap.size]? = some (.cells #[.int .i64 0, .int .i64 0, .int .i64 0] 83 (0, 0))) := by rw [← hw1]; exact alloc_new _ _
  have HD1 : Hid (DevIs w1 b d g) := HD.out.below HB1.out
  clear hw1 HD
  go_wp2_with fail
  go_loopw [4, 11] (fun c4 c11 wr => ∃ i : Nat, i ≤ 8 ∧ c11 = .int .i64 i ∧ Hid (wr.ownsRow w1.heap.size 60 1 c4 i (ivs .u64 (ints (l.take i)))) ∧ Hid (Below w1.heap.size w1 wr)) (fun _ c11 _ => 8 - (intOf c11).toNat)
  case atStart => exact ⟨0, Nat.zero_le _, rfl, by show World.ownsRow _ _ _ _ _ _ _; have := own_nil0 w1 w1.heap.size 60 1; simpa [ints, ivs] using this, Below.refl _ _⟩
  case round =>
    obtain ⟨i, hi, rfl, HR, HB⟩ := hrel
    obtain ⟨A4, c4, e4⟩ := own_slice HR.out
    subst e4
    by_cases hlt : i < 8
    · obtain ⟨x, hx⟩ := some_at (l := l) (i := i) (by rw [HE8.out]; exact hlt)
      have hld := Go.Proofs.YtichcdoijieddaaGreat.Pm.load_any (HD1.out.below HB.out) (i : Int)
      rw [HLD.out i x hx] at hld
      have HX := Lib.hid hx
      have HLO := Lib.hid hld
      clear hx hld hi
      go_wp2_with fail
      refine HLO.out.mono ?_
      rintro e w3 ⟨rfl, q, rfl⟩
      have HB3 : Hid (Below w1.heap.size w1 (wr.drewN q)) := bl_drewN HB.out q
      have hown0 := own_drewN HR.out q
      generalize wr.drewN q = w3 at *
      have HR3 := Lib.hid hown0
      have HOW := Lib.hid (fun o => own_kp (W' := w3.alloc o) hown0 (fun k _ hk => Below.heap_alloc _ _ k hk))
      clear hown0 HR HB HLO
      go_wp2_with (at_builtin; refine wpList_append_own _ rfl (.tmp 14) (.tmp 18) 22 rfl w1.heap.size 60 i0 (.int .u64 0) 1 8 Tryz.underlying22 hinf hz0 hz1 hz2 rfl (by decide) _ i _ rfl (HOW.out _) ⟨w3.heap.size, 0, none⟩ 1 1 [.int .u64 x] rfl rfl (one_at _ _ _) (by intro u hu; simp at hu; subst hu; rfl) (by unfold maxLen; omega) (by omega) (by have h1 := HB3.out.size; simp; omega) ?_; intro v' w7 hown' hgrow _; (obtain ⟨A7, c7, rfl⟩ := own_slice hown'); (have HO := Lib.hid hown'); (have HG := Lib.hid hgrow); clear hown' hgrow)
      go_roundw
      case rel => exact ⟨i + 1, hlt, by go_num, by show World.ownsRow _ _ _ _ _ _ _; rw [take_next HX.out, ints_append, ivs_append]; exact HO.out, bl_grown (bl_alloc HB3.out _) HG.out (own_lo HR3.out)⟩
      case measure => simp [intOf]; omega
    · obtain rfl : i = 8 := by omega
      have hown := HR.out
      rw [List.take_of_length_le (by rw [HE8.out]; omega)] at hown
      have HDC := Lib.hid (HDE.out (own_rk hown).1 c4)
      clear hown HR hlt hi
      go_wp2_with fail
      refine HDC.out.mono ?_
      rintro e w5 ⟨rfl, hb5⟩
      have HB5 := Lib.hid (bl_then HB.out hb5)
      have HD5 : Hid (DevIs w5 b d g) := HD1.out.below HB5.out
      have HQ5 : Hid (w5.heap[w.heap.size]? = some (.cells #[.int .i64 0, .int .i64 0, .int .i64 0] 83 (0, 0))) := blk_bl HQ1.out HB5.out
      have HA5 : Hid (Below w.heap.size w w5) := bl_then HB1.out HB5.out
      clear hb5 HDC HB HB5 HDE HLT HE8 HLD
      go_wp2_with fail
      go_region_held3 (fun w' => w'.cell? ⟨w5.heap.size, 0, none⟩ = some (.int .i64 n) ∧ w'.cell? ⟨w5.heap.size, 1, none⟩ = some (.int .i64 m) ∧ w'.cell? ⟨w5.heap.size, 2, none⟩ = some (.int .i64 s) ∧ Ge.Bx w5 w')
        (first | assumption | exact Ge.bx_start rfl | exact Ge.bx_keep ‹_› ‹_›)
        (first | (go_at_call 125; refine (HL.out _ (HD5.out.below (Ge.bx_of ‹_›).below)).mono ?_; rintro e w6 ⟨rfl, rfl⟩) | (go_at_call 123; refine (HW.out _).mono ?_; rintro e w7 ⟨rfl, hb⟩))
      rename_i hS
      obtain ⟨m0, m1, m2, hbx⟩ := hS
      have hq7 := blk_bl HQ5.out hbx.below
      have l0 := cell_of hq7 0
      have l1 := cell_of hq7 1
      have l2 := cell_of hq7 2
      have f0 := free_of hq7 0
      have f1 := free_of hq7 1
      have f2 := free_of hq7 2
      have HR7 := Lib.hid hq7
      have HB7 := Lib.hid (bl_then HA5.out hbx.below)
      clear hq7 hb hbx
      go_wp2_with fail
      exact bodyPost_ret (res_ct (u := 3) rfl _ _ w.heap.size 83 #[.int .i64 n, .int .i64 m, .int .i64 s] (0, 0) _ rfl (put3 HR7.out _ _ _) hu rfl (by kernel_rfl)) rfl ⟨rfl, bl_put3 HB7.out (Nat.le_refl _) _ _ _⟩

end Go.Proofs.YtichcdoijieddaaGreat.Su
end

/- volume.line: words from one on. -/
section
set_option linter.unusedVariables false
set_option linter.unusedSimpArgs false
set_option maxHeartbeats 2000000
set_option maxRecDepth 100000
namespace Go.Proofs.YtichcdoijieddaaGreat.Vo
open Go Go.RowKit
open Go.Proofs.YtichcdoijieddaaGreat.Ob Go.Proofs.YtichcdoijieddaaGreat.Ba Go.Proofs.YtichcdoijieddaaGreat.Oc Go.Proofs.YtichcdoijieddaaGreat.Pk Go.Proofs.YtichcdoijieddaaGreat.Dv Go.Proofs.YtichcdoijieddaaGreat.Su

def lds (d : Dev) (a n : Nat) : List Int := (List.range n).map fun i : Nat => d.load ((a + i : Nat) : Int)
theorem lds_succ (d : Dev) (a n : Nat) : lds d a (n + 1) = lds d a n ++ [d.load ((a + n : Nat) : Int)] := by
  unfold lds
  rw [List.range_succ, List.map_append]
  rfl
theorem lds_length (d : Dev) (a n : Nat) : (lds d a n).length = n := by simp [lds]

theorem line_ {w : World} {b : Nat} {d : Dev} {g : Lay} (h : DevIs w b d g) (a n : Nat) (ha : a ≤ 1000000000) (hn : n ≤ 1000000) :
    Calls Tryz.prog 61 #[.agg #[.pointer (some ⟨b, 0, none⟩)], .int .i64 a, .int .i64 n] w fun e w' => ∃ v, e = .returned v ∧ w'.ownsRow w.heap.size 60 1 v n (ivs .u64 (lds d a n)) ∧ Below w.heap.size w w' := by
  have hu := Tryz.underlying114
  have HD := Lib.hid h
  clear h
  obtain ⟨z, hz⟩ : ∃ z : Nat, z = a + n := ⟨_, rfl⟩
  have HZ := Lib.hid hz
  have hz9 : z ≤ 2000000000 := by omega
  clear hz
  obtain ⟨i0, hinf, hz0, hz1, hz2⟩ := info_parts info_u64
  go_enter Tryz.func61, Tryz.ntmps61
  go_wp2_with fail
  generalize hw1 : w.alloc (.cells #[.pointer (some ⟨b, 0, none⟩)] 114) = w1
  have HB1 : Hid (Below w.heap.size w w1) := by rw [← hw1]; exact bl_alloc (Below.refl _ _) _
  have HQ1 : Hid (w1.heap[w.heap.size]? = some (.cells #[.pointer (some ⟨b, 0, none⟩)] 114 (0, 0))) := by rw [← hw1]; exact alloc_new _ _
  have HD1 : Hid (DevIs w1 b d g) := HD.out.below HB1.out
  clear hw1 HD
  go_loopw [7, 8] (fun c7 c8 wr => ∃ i : Nat, i ≤ n ∧ c8 = .int .i64 (a + i : Nat) ∧ Hid (wr.ownsRow w1.heap.size 60 1 c7 i (ivs .u64 (lds d a i))) ∧ Hid (Below w1.heap.size w1 wr)) (fun _ c8 _ => z - (intOf c8).toNat)
  case atStart => exact ⟨0, Nat.zero_le _, rfl, by show World.ownsRow _ _ _ _ _ _ _; have := own_nil0 w1 w1.heap.size 60 1; simpa [lds, ivs] using this, Below.refl _ _⟩
  case round =>
    obtain ⟨i, hi, rfl, HR, HB⟩ := hrel
    obtain ⟨A7, c7, e7⟩ := own_slice HR.out
    subst e7
    by_cases hlt : i < n
    · obtain ⟨k, hk⟩ : ∃ k, k = a + i := ⟨_, rfl⟩
      rw [← hk]
      have hkz : (k : Int) < (a : Int) + n := by omega
      have hld := Go.Proofs.YtichcdoijieddaaGreat.Pm.load_any (HD1.out.below HB.out) (k : Int)
      obtain ⟨y, hy⟩ : ∃ y, y = d.load (k : Int) := ⟨_, rfl⟩
      rw [← hy] at hld
      have HY := Lib.hid hy
      have HLO := Lib.hid hld
      have hbq := blk_bl HQ1.out HB.out
      have hbc : wr.cell? ⟨w.heap.size, 0, none⟩ = some (.pointer (some ⟨b, 0, none⟩)) := cell_of hbq 0
      have HK := Lib.hid hk
      clear hy hld hi hbq hk
      go_wp2_with fail
      refine HLO.out.mono ?_
      rintro e w3 ⟨rfl, q, rfl⟩
      have HB3 : Hid (Below w1.heap.size w1 (wr.drewN q)) := bl_drewN HB.out q
      have hown0 := own_drewN HR.out q
      generalize wr.drewN q = w3 at *
      have HR3 := Lib.hid hown0
      have HOW := Lib.hid (fun o => own_kp (W' := w3.alloc o) hown0 (fun k _ hk => Below.heap_alloc _ _ k hk))
      clear hown0 HR HB HLO
      go_wp2_with (at_builtin; refine wpList_append_own _ rfl (.tmp 17) (.tmp 22) 22 rfl w1.heap.size 60 i0 (.int .u64 0) 1 8 Tryz.underlying22 hinf hz0 hz1 hz2 rfl (by decide) _ i _ rfl (HOW.out _) ⟨w3.heap.size, 0, none⟩ 1 1 [.int .u64 y] rfl rfl (one_at _ _ _) (by intro u hu; simp at hu; subst hu; rfl) (by unfold maxLen; omega) (by omega) (by have h1 := HB3.out.size; simp; omega) ?_; intro v' w7 hown' hgrow _; (obtain ⟨A9, c9, rfl⟩ := own_slice hown'); (have HO := Lib.hid hown'); (have HG := Lib.hid hgrow); clear hown' hgrow)
      go_roundw
      case rel => exact ⟨i + 1, hlt, by have := HK.out; go_num, by show World.ownsRow _ _ _ _ _ _ _; rw [lds_succ, ivs_append, ← HK.out, ← HY.out]; exact HO.out, bl_grown (bl_alloc HB3.out _) HG.out (own_lo HR3.out)⟩
      case measure => have := HZ.out; simp [intOf]; omega
    · obtain rfl : i = n := by omega
      rw [← HZ.out]
      have hkz : (a : Int) + i ≤ (z : Int) := by have := HZ.out; omega
      go_wp2_with fail
      go_ret
      exact ⟨_, rfl, own_base HR.out HB1.out.size, bl_then HB1.out HB.out⟩

end Go.Proofs.YtichcdoijieddaaGreat.Vo
end

/- volume.put, plain: what it comes to; and what its loops keep. -/
section
set_option linter.unusedVariables false
set_option linter.unusedSimpArgs false
namespace Go.Proofs.YtichcdoijieddaaGreat.Vo
open Go Go.RowKit
open Go.Proofs.YtichcdoijieddaaGreat.Ob Go.Proofs.YtichcdoijieddaaGreat.Ba Go.Proofs.YtichcdoijieddaaGreat.Oc Go.Proofs.YtichcdoijieddaaGreat.Pk Go.Proofs.YtichcdoijieddaaGreat.Dv Go.Proofs.YtichcdoijieddaaGreat.Su Go.Proofs.YtichcdoijieddaaGreat.Mp

structure Ps where
  d : Dev
  k : Nat
  ls : List Nat
def keepW (all : Bool) (d : Dev) (k : Nat) (x : Int) : Bool := !all && decide (d.load k = x)
def addLn (ls : List Nat) (k : Nat) : List Nat := if ls.getLast? = some k then ls else ls ++ [k]
def flushGo : List Nat → Dev → Nat → Dev × Option Nat
  | [], d, k => (d, some k)
  | x :: r, d, k => if d.flushOk x then flushGo r (d.flushed x) k else (d, none)
def putGo (all : Bool) : List Int → Nat → Ps → Dev × Option Nat
  | [], _, s => flushGo s.ls s.d s.k
  | x :: r, a, s => if keepW all s.d a x then putGo all r (a + 1) s else if s.d.storeOk a then putGo all r (a + 1) ⟨s.d.stored a x, s.k + 1, addLn s.ls (a / 8)⟩ else (s.d, none)

theorem stored_steps (d : Dev) (k x : Int) : (d.stored k x).steps ≤ d.steps + 1 := by unfold Dev.stored; split <;> simp [Dev.stepped]
theorem flushed_steps (d : Dev) (k : Int) : (d.flushed k).steps ≤ d.steps + 1 := by unfold Dev.flushed; split <;> simp [Dev.stepped]
theorem stored_no {d : Dev} {k x : Int} (h : d.storeOk k = false) : d.stored k x = d := by unfold Dev.stored; rw [h]; rfl
theorem flushed_no {d : Dev} {k : Int} (h : d.flushOk k = false) : d.flushed k = d := by unfold Dev.flushed; rw [h]; rfl

/-- a device's blocks hold no row of another type -/
theorem not_foot {W : World} {b : Nat} {d : Dev} {g : Lay} (h : DevIs W b d g) {q T : Nat} {cs : Array Value} {fr : Nat × Nat} (hq : W.heap[q]? = some (.cells cs T fr))
    (h1 : T ≠ 60) (h2 : T ≠ 135) (h3 : T ≠ 138) : q ∉ g.foot b := by
  intro hm
  simp only [Lay.foot, List.mem_cons, List.mem_append] at hm
  rcases hm with rfl | rfl | hm | hm
  · rw [h.blk] at hq
    simp at hq
    exact h2 hq.2.1.symm
  · rw [h.map] at hq
    simp [obj] at hq
  · obtain ⟨_, ⟨_, e⟩ | ⟨q', o', cs', _, e, hb', _⟩⟩ := h.las
    · rw [e] at hm
      simp at hm
    · rw [e] at hm
      simp at hm
      subst hm
      rw [hb'] at hq
      simp at hq
      exact h1 hq.2.1.symm
  · simp only [Lay.ents, List.mem_flatMap] at hm
    obtain ⟨x, hx, hk⟩ := hm
    obtain ⟨e1, cs', e2, _⟩ := h.ents x hx
    simp at hk
    rcases hk with rfl | rfl
    · rw [e1] at hq
      simp at hq
      exact h3 hq.2.1.symm
    · rw [e2] at hq
      simp at hq
      exact h1 hq.2.1.symm

theorem own_kq {W W' : World} {B T s n : Nat} {v : Value} {xs : List Value} (h : W.ownsRow B T s v n xs) (hk : ∀ k, v.ownBlock = some k → W'.heap[k]? = W.heap[k]?) : W'.ownsRow B T s v n xs := by
  obtain ⟨h1, h2 | ⟨g, cap, cur, hv, hg, hb, r⟩⟩ := h
  · exact ⟨h1, .inl h2⟩
  · exact ⟨h1, .inr ⟨g, cap, cur, hv, hg, (hk g (by rw [hv]; rfl)).trans hb, r⟩⟩
theorem own_blk {W : World} {B T s n k : Nat} {v : Value} {xs : List Value} (h : W.ownsRow B T s v n xs) (hk : v.ownBlock = some k) : ∃ cur, W.heap[k]? = some (.cells cur T (0, 0)) := by
  obtain ⟨h1, ⟨rfl, _⟩ | ⟨g, cap, cur, rfl, hg, hb, r⟩⟩ := h
  · simp [Value.ownBlock] at hk
  · simp [Value.ownBlock] at hk
    subst hk
    exact ⟨_, hb⟩

structure Vs (w wr : World) (b : Nat) (g : Lay) (c : Value) (s : Ps) (g' : Lay) : Prop where
  dev : DevIs wr b s.d g'
  foot : ∀ k ∈ g'.foot b, k ∈ g.foot b ∨ w.heap.size ≤ k
  upd : Upd (g.foot b) w wr
  row : wr.ownsRow w.heap.size 3 1 c s.ls.length (ivs .i64 (ints s.ls))

theorem Vs.apart {w wr : World} {b : Nat} {g g' : Lay} {c : Value} {s : Ps} (h : Vs w wr b g c s g') {k : Nat} (hk : c.ownBlock = some k) : k ∉ g'.foot b := by
  obtain ⟨cur, hc⟩ := own_blk h.row hk
  exact not_foot h.dev hc (by decide) (by decide) (by decide)

theorem Vs.below {w wr w2 : World} {b : Nat} {g g' : Lay} {c : Value} {s : Ps} (h : Vs w wr b g c s g') (hb : Below wr.heap.size wr w2) : Vs w w2 b g c s g' :=
  ⟨h.dev.below hb, h.foot, h.upd.trans (Upd.of_below (F := []) hb) (by simp), own_bl h.row hb⟩
theorem Vs.drewN {w wr : World} {b : Nat} {g g' : Lay} {c : Value} {s : Ps} (h : Vs w wr b g c s g') (n : Nat) : Vs w (wr.drewN n) b g c s g' := h.below (bl_drewN (Below.refl _ _) n)
theorem Vs.drew {w wr : World} {b : Nat} {g g' : Lay} {c : Value} {s : Ps} (h : Vs w wr b g c s g') : Vs w wr.drew b g c s g' := h.below (bl_drew (Below.refl _ _))
theorem Vs.to {w wr w2 : World} {b : Nat} {g g' : Lay} {c : Value} {s : Ps} {d2 : Dev} (h : Vs w wr b g c s g') (k : DevTo wr w2 b g' d2) : ∃ g2, Vs w w2 b g c ⟨d2, s.k, s.ls⟩ g2 := by
  obtain ⟨g2, h1, h2, h3⟩ := k
  refine ⟨g2, h1, fun x hx => ?_, h.upd.trans h3 ?_, own_kq h.row fun k hk => ?_⟩
  · rcases h2 x hx with r | r
    · exact h.foot x r
    · exact .inr (Nat.le_trans h.upd.size r)
  · exact fun k hk => h.foot k hk
  · obtain ⟨cur, hc⟩ := own_blk h.row hk
    exact h3.block k (lt_of hc) (h.apart hk)
theorem Vs.grown {w wr w2 : World} {b : Nat} {g g' : Lay} {c c' : Value} {s : Ps} {ls : List Nat} (h : Vs w wr b g c s g') (o : Obj) (hg : (wr.alloc o).grownBy w2 c.ownBlock) (hr : w2.ownsRow w.heap.size 3 1 c' ls.length (ivs .i64 (ints ls))) (k : Nat) : Vs w w2 b g c' ⟨s.d, k, ls⟩ g' := by
  have hs : wr.heap.size ≤ (wr.alloc o).heap.size := by simp
  refine ⟨h.dev.keep fun q hq => ?_, h.foot, ?_, hr⟩
  · have hq2 := h.dev.lt q hq
    rw [hg.block q (by omega) (fun e => h.apart e.symm hq)]
    exact Below.heap_alloc _ _ q hq2
  · have h2 : Upd (g.foot b) w (wr.alloc o) := h.upd.alloc o
    refine ⟨hg.os.trans h2.os, hg.tape.trans h2.tape, hg.output.trans h2.output, Nat.le_trans h2.size hg.size, fun k hk hn => ?_⟩
    rw [hg.block k (Nat.lt_of_lt_of_le hk h2.size) (fun e => by have := own_lo h.row k e.symm; omega)]
    exact h2.block k hk hn
theorem Vs.data {k : IntKind} {w wr : World} {b : Nat} {g g' : Lay} {c : Value} {s : Ps} {A : Option Addr} {l : List Int} (h : Vs w wr b g c s g') (hr : Rk k w A l) (hA : ∀ a, A = some a → a.block ∉ g.foot b) : Rk k wr A l := by
  intro i x hx
  obtain ⟨a, rfl, h1, h2⟩ := hr i x hx
  refine ⟨a, rfl, Nat.lt_of_lt_of_le h1 h.upd.size, ?_⟩
  rw [World.cell?_of_block (w := w) (a := a.add i) (by rw [add_block]; exact h.upd.block _ h1 (hA a rfl))]
  exact h2
theorem Vs.blk {w wr : World} {b : Nat} {g g' : Lay} {c : Value} {s : Ps} (h : Vs w wr b g c s g') {q T : Nat} {cs : Array Value} {fr : Nat × Nat} (hq : w.heap[q]? = some (.cells cs T fr)) (hn : q ∉ g.foot b) : wr.heap[q]? = some (.cells cs T fr) :=
  (h.upd.block q (lt_of hq) hn).trans hq

theorem putGo_keep {all : Bool} {x : Int} {r : List Int} {a : Nat} {s : Ps} (h : keepW all s.d a x = true) : putGo all (x :: r) a s = putGo all r (a + 1) s := by
  show (if keepW all s.d a x then _ else _) = _
  rw [if_pos h]
theorem putGo_store {all : Bool} {x : Int} {r : List Int} {a : Nat} {s : Ps} (h : keepW all s.d a x = false) (h2 : s.d.storeOk a = true) : putGo all (x :: r) a s = putGo all r (a + 1) ⟨s.d.stored a x, s.k + 1, addLn s.ls (a / 8)⟩ := by
  show (if keepW all s.d a x then _ else _) = _
  rw [if_neg (by rw [h]; decide), if_pos h2]
theorem putGo_fail {all : Bool} {x : Int} {r : List Int} {a : Nat} {s : Ps} (h : keepW all s.d a x = false) (h2 : s.d.storeOk a = false) : putGo all (x :: r) a s = (s.d, none) := by
  show (if keepW all s.d a x then _ else _) = _
  rw [if_neg (by rw [h]; decide), if_neg (by rw [h2]; decide)]
theorem drop_next {α : Type} {l : List α} {i : Nat} {x : α} (h : l[i]? = some x) : l.drop i = x :: l.drop (i + 1) := by
  obtain ⟨hi, hx⟩ := List.getElem?_eq_some_iff.1 h
  rw [List.drop_eq_getElem_cons hi, hx]

end Go.Proofs.YtichcdoijieddaaGreat.Vo
end
