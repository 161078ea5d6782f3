/- Parts of the proof, one behind the other: Ha, Cg, Ch, Hb, Rs. -/
import Derived.Test.YtgnagbbdnlmgeaaGreatC17
import Derived.Test.YtgnagbbdnlmgeaaGreatC15
import Derived.Deep.RegionHeld3
import Derived.Test.YtgnagbbdnlmgeaaGreatC12
import Derived.Test.YtgnagbbdnlmgeaaGreatC09
import Derived.Deep.QuietTactic
import Derived.BigQuiet
import Derived.Test.YtgnagbbdnlmgeaaGreatC06

/- chain.Write. -/
section
set_option linter.unusedVariables false
set_option linter.unusedSimpArgs false
set_option maxHeartbeats 4000000
set_option maxRecDepth 100000
namespace Go.Proofs.YtgnagbbdnlmgeaaGreat.Tr
open Go Go.RowKit
open Go.Proofs.YtgnagbbdnlmgeaaGreat.Rr Go.Proofs.YtgnagbbdnlmgeaaGreat.Ob Go.Proofs.YtgnagbbdnlmgeaaGreat.Ba Go.Proofs.YtgnagbbdnlmgeaaGreat.Oc Go.Proofs.YtgnagbbdnlmgeaaGreat.Pk Go.Proofs.YtgnagbbdnlmgeaaGreat.Ko Go.Proofs.YtgnagbbdnlmgeaaGreat.Dv Go.Proofs.YtgnagbbdnlmgeaaGreat.Vo Go.Proofs.YtgnagbbdnlmgeaaGreat.Ra Go.Proofs.YtgnagbbdnlmgeaaGreat.Su Go.Proofs.YtgnagbbdnlmgeaaGreat.Lo Go.Proofs.YtgnagbbdnlmgeaaGreat.Je Go.Proofs.YtgnagbbdnlmgeaaGreat.Rf

theorem rr_keep {w w' : World} {A : Option Addr} {l : List (Int × Int)} (h : RR w A l) (hk : ∀ a, A = some a → w'.heap[a.block]? = w.heap[a.block]?) (hs : w.heap.size ≤ w'.heap.size) : RR w' A l := by
  intro i p hi
  obtain ⟨q, off, rfl, h0, h1, h2⟩ := h i p hi
  have hb := hk ⟨q, off, none⟩ rfl
  exact ⟨q, off, rfl, Nat.lt_of_lt_of_le h0 hs, (cell_blk hb _).trans h1, (cell_blk hb _).trans h2⟩

theorem rightB_out {n : Nat} {l : List Int} {rs : List (Int × Int)} (h : rightB n l rs = true) : l.length = rs.length ∧ GoodS n (l.zip rs) ∧ ((l.zip rs).map Prod.fst).Nodup ∧ l.length ≤ n := by
  obtain ⟨h1, h2, h3, h4⟩ := of_decide_eq_true h
  refine ⟨h3, fun x hx => ?_, ?_, pigeon n l h2 h1⟩
  · have hx1 := (List.of_mem_zip hx).1
    have hx2 := (List.of_mem_zip hx).2
    have h5 := h1 x.1 hx1
    have h6 : badR n x.2 = false := by
      have := List.any_eq_false.1 h4 x.2 hx2
      simpa using this
    unfold badR at h6
    simp at h6
    omega
  · rw [List.map_fst_zip (by omega)]
    exact h2

theorem write_no {w : World} {v b n m s : Nat} {d : Dev} {g : Lay} (hv : VolIs w v b n m s d g) (hn : n ≤ 65534) {A : Option Addr} {l : List Int} (hA : Rk .i64 w A l) (cA : Nat) (hl : l.length ≤ 1000000000) {B : Option Addr} {rs : List (Int × Int)} (hB : RR w B rs) (cB : Nat) (hrl : rs.length ≤ 1000000000) (hr : rightB n l rs = false) :
    Calls Tryz.prog 36 #[.pointer (some ⟨v, 0, none⟩), .slice A l.length cA, .slice B rs.length cB] w fun e w' => e = .returned (.int .i64 1) ∧ Below w.heap.size w w' := by
  have hri := right_ hv hn hA cA hl hB cB hrl
  rw [hr] at hri
  have HRI := Lib.hid hri
  generalize l.length = ln at *
  generalize rs.length = rn at *
  clear hri hr hv hA hB
  go_enter Tryz.func36, Tryz.ntmps36
  go_wp2_with fail
  refine HRI.out.mono ?_
  rintro e w1 ⟨rfl, hb1⟩
  have HB1 := Lib.hid hb1
  clear hb1
  go_wp2_with fail
  go_ret
  exact ⟨rfl, HB1.out⟩

/-- between two rounds: what is written of the rest z -/
structure Wr (w wr : World) (v b n m s : Nat) (d : Dev) (g : Lay) (ws : List Nat) (z : List (Int × (Int × Int))) (c7 : Value) (d' : Dev) (g' : Lay) : Prop where
  next : c7 = .int .i64 (nxS z)
  vol : VolIs wr v b n m s d' g'
  words : Pm.wordsOf d' = ints (wrW m ws z)
  fuse : d'.fuse = none
  stores : d'.stores = d.stores + z.length
  steps : d'.steps = d.steps + 2 * z.length
  foot : ∀ q ∈ g'.foot b, q ∈ g.foot b ∨ w.heap.size ≤ q
  upd : Upd (g.foot b) w wr

theorem write_yes {w : World} {v b n m s : Nat} {d : Dev} {g : Lay} (hv : VolIs w v b n m s d g) (hn : n ≤ 65534) {ws : List Nat} (hwd : Pm.wordsOf d = ints ws) (hfit : 16 + 8 * m + n ≤ ws.length) (hf : d.fuse = none) (hst : d.steps ≤ 900000000)
    {A : Option Addr} {l : List Int} (hA : Rk .i64 w A l) (cA : Nat) {B : Option Addr} {rs : List (Int × Int)} (hB : RR w B rs) (cB : Nat) (hr : rightB n l rs = true) (hpA : ∀ a, A = some a → a.block ∉ g.foot b) (hpB : ∀ a, B = some a → a.block ∉ g.foot b) :
    Calls Tryz.prog 36 #[.pointer (some ⟨v, 0, none⟩), .slice A l.length cA, .slice B rs.length cB] w fun e w' => e = .returned (.int .i64 0) ∧ ∃ d' g', Wr w w' v b n m s d g ws (l.zip rs) (.int .i64 (nxS (l.zip rs))) d' g' := by
  obtain ⟨hlen, hgood, hnd, hle⟩ := rightB_out hr
  have hri := right_ hv hn hA cA (by omega) hB cB (by omega)
  rw [hr] at hri
  have HRI := Lib.hid hri
  have HV := Lib.hid hv
  have HA := Lib.hid hA
  have HB := Lib.hid hB
  have HP := Lib.hid (And.intro hpA hpB)
  have HF := Lib.hid (And.intro hwd (And.intro hfit (And.intro hf hst)))
  obtain ⟨z, hz⟩ : ∃ z, z = l.zip rs := ⟨_, rfl⟩
  rw [← hz] at hgood hnd
  rw [← hz]
  have hzl : z.length = l.length := by rw [hz, List.length_zip]; omega
  have hza : z.map Prod.fst = l := by rw [hz, List.map_fst_zip (by omega)]
  have hzb : z.map Prod.snd = rs := by rw [hz, List.map_snd_zip (by omega)]
  have HZ := Lib.hid (And.intro hgood (And.intro hnd (And.intro hza hzb)))
  have HZL := Lib.hid hzl
  obtain ⟨ln, hln⟩ : ∃ ln, ln = l.length := ⟨_, rfl⟩
  rw [← hlen] at HRI
  rw [← hlen]
  rw [← hln] at HZL hle HRI
  rw [← hln]
  clear hlen hgood hnd hri hr hv hA hB hpA hpB hwd hfit hf hst hz hza hzb hzl hln
  go_enter Tryz.func36, Tryz.ntmps36
  go_wp2_with fail
  refine HRI.out.mono ?_
  rintro e w1 ⟨rfl, hb1⟩
  have HW1 : Hid (Wr w w1 v b n m s d g ws (z.drop ln) (.int .i64 (-1)) d g) := by
    rw [List.drop_of_length_le (by rw [HZL.out]; exact Nat.le_refl _)]
    exact ⟨rfl, HV.out.below hb1, HF.out.1, HF.out.2.2.1, rfl, rfl, fun q hq => .inl hq, Upd.of_below hb1⟩
  clear hb1
  go_wp2_with fail
  go_loopw [7, 8] (fun c7 c8 wr => ∃ (j : Nat) (x : Int), j ≤ ln ∧ c8 = .int .i64 x ∧ x = (j : Int) - 1 ∧ Hid (∃ d' g', Wr w wr v b n m s d g ws (z.drop j) c7 d' g')) (fun _ c8 _ => (intOf c8 + 1).toNat)
  case atStart => exact ⟨ln, _, Nat.le_refl _, rfl, rfl, d, g, HW1.out⟩
  case round =>
    obtain ⟨j, x, hj, rfl, hx, d', g', HWR⟩ := hrel
    have HWR := Lib.hid HWR
    cases j with
    | zero =>
      have hx0 : ¬ 0 ≤ x := by omega
      clear hx
      go_wp2_with fail
      go_ret
      have h9 := HWR.out
      rw [h9.next] at h9
      exact ⟨rfl, d', g', h9⟩
    | succ i =>
      obtain rfl : x = (i : Int) := by omega
      have hu7 := HWR.out.next
      subst hu7
      obtain ⟨p, hp⟩ := some_at (l := z) (i := i) (by rw [HZL.out]; omega)
      have hdr : z.drop i = p :: z.drop (i + 1) := by
        obtain ⟨h1, h2⟩ := List.getElem?_eq_some_iff.1 hp
        rw [List.drop_eq_getElem_cons h1, h2]
      have hgd : GoodS n (p :: z.drop (i + 1)) := fun y hy => HZ.out.1 y (by rw [← hdr] at hy; exact List.mem_of_mem_drop hy)
      have hgp := hgd p (by simp)
      have hmay := hgd.may (by omega)
      have hla : l[i]? = some p.1 := by rw [← HZ.out.2.2.1, List.getElem?_map, hp]; rfl
      have hlb : rs[i]? = some p.2 := by rw [← HZ.out.2.2.2, List.getElem?_map, hp]; rfl
      have hra := HA.out.keep (fun a ha => by
        obtain ⟨a', ha', hlt, -⟩ := HA.out i _ hla
        rw [ha] at ha'
        cases ha'
        exact HWR.out.upd.block _ hlt (HP.out.1 a ha)) HWR.out.upd.size
      have hrb := rr_keep HB.out (fun a ha => by
        obtain ⟨q, off, hq, hlt, -⟩ := HB.out i _ hlb
        rw [ha] at hq
        cases hq
        exact HWR.out.upd.block _ hlt (HP.out.2 _ ha)) HWR.out.upd.size
      obtain ⟨a, rfl, -, ha⟩ := hra i _ hla
      obtain ⟨q, off, rfl, -, hb0, hb1⟩ := hrb i _ hlb
      obtain ⟨k, hk⟩ : ∃ k : Nat, k = 16 + 8 * m + p.1.toNat := ⟨_, rfl⟩
      have hfit := HF.out.2.1
      have hln9 : d'.las.length = ws.length := by
        rw [← Pm.wordsOf_length, HWR.out.words, ints_length, wrW_len]
      obtain ⟨d2, hput, hpt⟩ := Wp.put_many d' HWR.out.fuse [(sEnc p.2.1 p.2.2 (nxS (z.drop (i + 1))) : Int)] k (by rw [hln9]; simp; omega)
      have HSS := Lib.hid (setslot_yes (HWR.out.vol.below (bl_drew (Below.refl _ _))) (by have := HWR.out.steps; have := HF.out.2.2.2; have : (z.drop (i+1)).length ≤ 65534 := (by rw [List.length_drop, HZL.out]; omega); omega) p.1 p.2.1 p.2.2 (nxS (z.drop (i + 1))) ⟨hgp.1, hgp.2.1⟩ hmay k (by omega) _ hput)
      have HNX : Hid (∀ w2, DevTo wr.drew w2 b g' d2 → ∃ g2, Wr w w2 v b n m s d g ws (z.drop i) (.int .i64 p.1) d2 g2 ∧ Upd (g'.foot b) wr.drew w2) := fun w2 hto => by
        obtain ⟨g2, hv2, hf2, hu2⟩ := (HWR.out.vol.below (bl_drew (Below.refl _ _))).to hto (by rw [hpt.las])
        refine ⟨g2, ⟨by rw [hdr]; rfl, hv2, ?_, hpt.fuse, ?_, ?_, fun q hq => ?_, HWR.out.upd.drew.trans hu2 HWR.out.foot⟩, hu2⟩
        · rw [hpt.words, HWR.out.words, hdr]
          show (ints _).set k _ = ints ((wrW m ws (z.drop (i + 1))).set _ _)
          rw [hk]
          simp [ints]
        · rw [hpt.stores, HWR.out.stores, hdr]
          simp; omega
        · rw [hpt.steps, HWR.out.steps, hdr]
          simp [nline]; omega
        · rcases hf2 q hq with h1 | h1
          · exact HWR.out.foot q h1
          · exact .inr (Nat.le_trans HWR.out.upd.size h1)
      have HKP : Hid (∀ w2, Upd (g'.foot b) wr.drew w2 → w2.cell? (a.add i) = some (.int .i64 p.1) ∧ w2.cell? ⟨q, off + i * 2, none⟩ = some (.int .i64 p.2.1) ∧ w2.cell? ⟨q, off + i * 2 + 1, none⟩ = some (.int .i64 p.2.2)) := fun w2 hu2 => by
        have g1 : a.block ∉ g'.foot b := fun hm => by
          rcases HWR.out.foot _ hm with h9 | h9
          · exact HP.out.1 a rfl h9
          · obtain ⟨a', ha', hlt, -⟩ := HA.out i _ hla
            cases ha'
            omega
        have g2 : q ∉ g'.foot b := fun hm => by
          rcases HWR.out.foot _ hm with h9 | h9
          · exact HP.out.2 ⟨q, off, none⟩ rfl h9
          · obtain ⟨q', off', hq', hlt, -⟩ := HB.out i _ hlb
            cases hq'
            omega
        have k1 := hu2.block a.block (by obtain ⟨a', ha', hlt, -⟩ := hra i _ hla; cases ha'; exact hlt) g1
        have k2 := hu2.block q (by obtain ⟨q', off', hq', hlt, -⟩ := hrb i _ hlb; cases hq'; exact hlt) g2
        refine ⟨?_, (cell_blk k2 _).trans hb0, (cell_blk k2 _).trans hb1⟩
        rw [World.cell?_of_block (w := wr) (a := a.add i) (by rw [add_block]; exact k1)]
        exact ha
      have HS0 : Hid (wr.drew.cell? (a.add i) = some (.int .i64 p.1) ∧ wr.drew.cell? ⟨q, off + i * 2, none⟩ = some (.int .i64 p.2.1) ∧ wr.drew.cell? ⟨q, off + i * 2 + 1, none⟩ = some (.int .i64 p.2.2)) := ⟨ha, hb0, hb1⟩
      clear ha hb0 hb1 hput hpt hra hrb hla hlb hp hdr hgd hln9 hk hfit hx
      obtain ⟨p0, pa', pb'⟩ := p
      simp only at HS0 HSS HNX hgp hmay
      generalize nxS (z.drop (i + 1)) = nx7 at *
      have hil : (i : Int) < (ln : Int) := by omega
      have hi0 : (0 : Int) ≤ (i : Int) := by omega
      clear hmay hgp
      go_wp2_with fail
      go_region_held3 (fun w' => w'.cell? (a.add i) = some (.int .i64 p0) ∧ w'.cell? ⟨q, off + i * 2, none⟩ = some (.int .i64 pa') ∧ w'.cell? ⟨q, off + i * 2 + 1, none⟩ = some (.int .i64 pb'))
        (first | exact HS0.out | exact HS2.out)
        (first | (go_at_call 41; refine HSS.out.mono ?_; rintro e w2 ⟨rfl, hto⟩; (obtain ⟨g2, hw2, hu2⟩ := HNX.out w2 hto); (have HS2 : Hid (w2.cell? (a.add i) = some (.int .i64 p0) ∧ w2.cell? ⟨q, off + i * 2, none⟩ = some (.int .i64 pa') ∧ w2.cell? ⟨q, off + i * 2 + 1, none⟩ = some (.int .i64 pb')) := HKP.out w2 hu2); (have HW2 := Lib.hid hw2); clear hto hu2 hw2))
      go_wp2_with fail
      go_roundw
      case rel => exact ⟨i, _, by omega, rfl, rfl, d2, g2, HW2.out⟩
      case measure => simp [intOf]

end Go.Proofs.YtgnagbbdnlmgeaaGreat.Tr
end

/- A chain's blocks, in order (chain.Blocks, cantleref16.Blocks); numbers in rows (cantleref16.in, Same). -/
section
set_option linter.unusedVariables false
set_option linter.unusedSimpArgs false
set_option maxHeartbeats 2000000
set_option maxRecDepth 100000
namespace Go.Proofs.YtgnagbbdnlmgeaaGreat.Tr
open Go Go.RowKit
open Go.Proofs.YtgnagbbdnlmgeaaGreat.Ob Go.Proofs.YtgnagbbdnlmgeaaGreat.Ba Go.Proofs.YtgnagbbdnlmgeaaGreat.Oc Go.Proofs.YtgnagbbdnlmgeaaGreat.Pk Go.Proofs.YtgnagbbdnlmgeaaGreat.Rr

def run1 (a : Int) (k : Nat) : List Int := (List.range k).map fun (j : Nat) => a + (j : Int)
theorem run1_len (a : Int) (k : Nat) : (run1 a k).length = k := by simp [run1]
theorem run1_snoc (a : Int) (k : Nat) : run1 a (k + 1) = run1 a k ++ [a + k] := by simp [run1, List.range_succ]
def blocksOf (l : List Tri) : List Int := l.flatMap fun t => run1 t.1 t.2.1.toNat
theorem blocksOf_snoc (l : List Tri) (t : Tri) : blocksOf (l ++ [t]) = blocksOf l ++ run1 t.1 t.2.1.toNat := by simp [blocksOf]

theorem info_int : (Tryz.prog.info? 3).map (fun i => (i.zero, i.size, i.bytes)) = some (some (.int .i64 0), 1, 8) := by kernel_rfl

theorem blocks_ {w : World} {A B : Option Addr} {l : List Tri} (h : TR w B l) (ln ca c : Nat) (hl : l.length ≤ 65534) (hc : ∀ t ∈ l, 0 ≤ t.1 ∧ t.1 ≤ 65534 ∧ 0 ≤ t.2.1 ∧ t.2.1 ≤ 65534) :
    Calls Tryz.prog 47 #[.agg #[.slice A ln ca, .slice B l.length c]] w fun e w' => ∃ v, e = .returned v ∧ w'.ownsRow w.heap.size 3 1 v (blocksOf l).length (ivs .i64 (blocksOf l)) ∧ Below w.heap.size w w' := by
  have hu := Tryz.underlying82
  have hu2 := Tryz.underlying51
  obtain ⟨z0, hinf, hz0, hz1, hz2⟩ := info_parts info_int
  have H := Lib.hid h
  have HC := Lib.hid hc
  obtain ⟨n, hn⟩ : ∃ n, n = l.length := ⟨_, rfl⟩
  rw [← hn] at hl
  rw [← hn]
  have HN := Lib.hid hn
  clear h hn hc
  go_enter Tryz.func47, Tryz.ntmps47
  go_wp2_with fail
  go_loopw [10, 3] (fun c10 c3 wr => ∃ i d : Nat, i ≤ n ∧ d ≤ 65534 * i ∧ c10 = .int .i64 i ∧ Hid ((blocksOf (l.take i)).length = d ∧ wr.ownsRow w.heap.size 3 1 c3 d (ivs .i64 (blocksOf (l.take i))) ∧ Below w.heap.size w wr)) (fun c10 _ _ => n - (intOf c10).toNat)
  case atStart => exact ⟨0, 0, Nat.zero_le _, Nat.zero_le _, rfl, rfl, own_nil0 _ _ _ _, bl_alloc (Below.refl _ _) _⟩
  case round =>
    obtain ⟨i, d, hi, hd, rfl, HR⟩ := hrel
    by_cases hlt : i < n
    · obtain ⟨p, hp⟩ := some_at (l := l) (i := i) (by rw [← HN.out]; exact hlt)
      obtain ⟨g, off, rfl, -, g1, g2, g3⟩ := (H.out.below HR.out.2.2) i p hp
      have hpc := HC.out p (List.mem_of_getElem? hp)
      have HS : Hid (blocksOf (l.take (i + 1)) = blocksOf (l.take i) ++ run1 p.1 p.2.1.toNat) := by show _ = _; rw [take_next hp, blocksOf_snoc]
      obtain ⟨x, y, z⟩ := p
      simp only at g1 g2 g3 HS hpc
      obtain ⟨hx0, hx1, hy0, hy1⟩ := hpc
      obtain ⟨k, rfl⟩ : ∃ k : Nat, y = k := ⟨y.toNat, by omega⟩
      rw [Int.toNat_natCast] at HS
      have HA5 : Hid ((wr.alloc (.cells #[.int .i64 x, .int .i64 k, .int .i64 z] 51)).heap[wr.heap.size]? = some (.cells #[.int .i64 x, .int .i64 k, .int .i64 z] 51 (0, 0))) := alloc_new _ _
      have HW5 : Hid (Below wr.heap.size wr (wr.alloc (.cells #[.int .i64 x, .int .i64 k, .int .i64 z] 51))) := bl_alloc (Below.refl _ _) _
      clear hp
      generalize wr = wA at *
      go_wp2_with fail
      go_loopw [6, 3] (fun cb c3 wq => ∃ j : Nat, j ≤ k ∧ cb = .int .i64 (x + (j : Int)) ∧ Hid (wq.ownsRow w.heap.size 3 1 c3 (d + j) (ivs .i64 (blocksOf (l.take i) ++ run1 x j)) ∧ Below w.heap.size w wq ∧ wq.heap[wA.heap.size]? = some (.cells #[.int .i64 x, .int .i64 k, .int .i64 z] 51 (0, 0)))) (fun cb _ _ => x.toNat + k - (intOf cb).toNat)
      case atStart =>
        refine ⟨0, Nat.zero_le _, by simp, ?_, bl_then HR.out.2.2 HW5.out, HA5.out⟩
        · have := own_bl HR.out.2.1 HW5.out
          simpa [run1] using this
      case round =>
        obtain ⟨j, hj, rfl, HQ⟩ := hrel
        have hq := HQ.out.2.2
        have k0 := cell_of hq 0
        have k1 := cell_of hq 1
        clear hq
        by_cases hjk : j < k
        · have HOW := Lib.hid (fun o => own_kp (W' := wr.alloc o) HQ.out.1 (fun k _ hk => Below.heap_alloc _ _ k hk))
          have HLO := Lib.hid (own_lo HQ.out.1)
          have hsz : Hid (w.heap.size ≤ wr.heap.size + 1) := by show _ ≤ _; have := HQ.out.2.1.size; omega
          have HNE : Hid (∀ b, Value.ownBlock u3 = some b → b ≠ wA.heap.size) := by
            intro b hb e
            subst e
            obtain ⟨cur, hcur⟩ := Bm.own_blk' HQ.out.1 hb
            rw [HQ.out.2.2] at hcur
            simp at hcur
          have HAL : Hid (wA.heap.size < wr.heap.size) := lt_of HQ.out.2.2
          go_wp2_with (at_builtin; refine wpList_append_own _ rfl (.tmp 25) (.tmp 27) 79 rfl w.heap.size 3 z0 (.int .i64 0) 1 8 Tryz.underlying79 hinf hz0 hz1 hz2 rfl (by decide) _ (d + j) _ rfl (HOW.out _) ⟨wr.heap.size, 0, none⟩ 1 1 [.int .i64 (x + (j : Int))] rfl rfl (one_at _ _ _) (by intro u hu; simp at hu; subst hu; rfl) (by unfold maxLen; omega) (by omega) (by have h1 := hsz.out; simp; omega) ?_; intro v' w7 hown' hgrow _; (have HO := Lib.hid hown'); (have HG := Lib.hid hgrow); clear hown' hgrow)
          go_roundw
          case rel =>
            refine ⟨j + 1, by omega, by go_num, ?_, bl_grown (bl_alloc HQ.out.2.1 _) HG.out HLO.out, ?_⟩
            · rw [run1_snoc, ← List.append_assoc, ivs_append]
              exact HO.out
            · have hb := HG.out.block wA.heap.size (by have := HAL.out; simp; omega) (fun e => HNE.out _ e.symm rfl)
              exact hb.trans (alloc_old HQ.out.2.2 _)
          case measure => simp [intOf]; omega
        · obtain rfl : j = k := by omega
          go_wp2_with fail
          go_roundw
          case rel =>
            refine ⟨i + 1, d + j, by omega, by omega, by go_num, ?_, ?_, HQ.out.2.1⟩
            · rw [HS.out, List.length_append, run1_len, HR.out.1]
            · rw [HS.out]; exact HQ.out.1
          case measure => simp [intOf]; omega
    · obtain rfl : i = n := by omega
      go_wp2_with fail
      go_ret
      obtain ⟨h1, h2, h3⟩ := HR.out
      rw [List.take_of_length_le (by rw [← HN.out]; exact Nat.le_refl _)] at h1 h2
      rw [h1]
      exact ⟨_, rfl, h2, h3⟩

theorem rblocks_ {w : World} {A B : Option Addr} {l : List Tri} (h : TR w B l) (ln ca c : Nat) (hl : l.length ≤ 65534) (hc : ∀ t ∈ l, 0 ≤ t.1 ∧ t.1 ≤ 65534 ∧ 0 ≤ t.2.1 ∧ t.2.1 ≤ 65534) :
    Calls Tryz.prog 45 #[.agg #[.slice A ln ca, .slice B l.length c]] w fun e w' => ∃ v, e = .returned v ∧ w'.ownsRow w.heap.size 3 1 v (blocksOf l).length (ivs .i64 (blocksOf l)) ∧ Below w.heap.size w w' := by
  have hu := Tryz.underlying100
  have hu2 := Tryz.underlying54
  obtain ⟨z0, hinf, hz0, hz1, hz2⟩ := info_parts info_int
  have H := Lib.hid h
  have HC := Lib.hid hc
  obtain ⟨n, hn⟩ : ∃ n, n = l.length := ⟨_, rfl⟩
  rw [← hn] at hl
  rw [← hn]
  have HN := Lib.hid hn
  clear h hn hc
  go_enter Tryz.func45, Tryz.ntmps45
  go_wp2_with fail
  go_loopw [10, 3] (fun c10 c3 wr => ∃ i d : Nat, i ≤ n ∧ d ≤ 65534 * i ∧ c10 = .int .i64 i ∧ Hid ((blocksOf (l.take i)).length = d ∧ wr.ownsRow w.heap.size 3 1 c3 d (ivs .i64 (blocksOf (l.take i))) ∧ Below w.heap.size w wr)) (fun c10 _ _ => n - (intOf c10).toNat)
  case atStart => exact ⟨0, 0, Nat.zero_le _, Nat.zero_le _, rfl, rfl, own_nil0 _ _ _ _, bl_alloc (Below.refl _ _) _⟩
  case round =>
    obtain ⟨i, d, hi, hd, rfl, HR⟩ := hrel
    by_cases hlt : i < n
    · obtain ⟨p, hp⟩ := some_at (l := l) (i := i) (by rw [← HN.out]; exact hlt)
      obtain ⟨g, off, rfl, -, g1, g2, g3⟩ := (H.out.below HR.out.2.2) i p hp
      have hpc := HC.out p (List.mem_of_getElem? hp)
      have HS : Hid (blocksOf (l.take (i + 1)) = blocksOf (l.take i) ++ run1 p.1 p.2.1.toNat) := by show _ = _; rw [take_next hp, blocksOf_snoc]
      obtain ⟨x, y, z⟩ := p
      simp only at g1 g2 g3 HS hpc
      obtain ⟨hx0, hx1, hy0, hy1⟩ := hpc
      obtain ⟨k, rfl⟩ : ∃ k : Nat, y = k := ⟨y.toNat, by omega⟩
      rw [Int.toNat_natCast] at HS
      have HA5 : Hid ((wr.alloc (.cells #[.int .i64 x, .int .i64 k, .int .i64 z] 54)).heap[wr.heap.size]? = some (.cells #[.int .i64 x, .int .i64 k, .int .i64 z] 54 (0, 0))) := alloc_new _ _
      have HW5 : Hid (Below wr.heap.size wr (wr.alloc (.cells #[.int .i64 x, .int .i64 k, .int .i64 z] 54))) := bl_alloc (Below.refl _ _) _
      clear hp
      generalize wr = wA at *
      go_wp2_with fail
      go_loopw [16, 3] (fun cb c3 wq => ∃ j : Nat, j ≤ k ∧ cb = .int .i64 ((j : Int)) ∧ Hid (wq.ownsRow w.heap.size 3 1 c3 (d + j) (ivs .i64 (blocksOf (l.take i) ++ run1 x j)) ∧ Below w.heap.size w wq ∧ wq.heap[wA.heap.size]? = some (.cells #[.int .i64 x, .int .i64 k, .int .i64 z] 54 (0, 0)))) (fun cb _ _ => 0 + k - (intOf cb).toNat)
      case atStart =>
        refine ⟨0, Nat.zero_le _, by simp, ?_, bl_then HR.out.2.2 HW5.out, HA5.out⟩
        · have := own_bl HR.out.2.1 HW5.out
          simpa [run1] using this
      case round =>
        obtain ⟨j, hj, rfl, HQ⟩ := hrel
        have hq := HQ.out.2.2
        have k0 := cell_of hq 0
        have k1 := cell_of hq 1
        clear hq
        by_cases hjk : j < k
        · have HOW := Lib.hid (fun o => own_kp (W' := wr.alloc o) HQ.out.1 (fun k _ hk => Below.heap_alloc _ _ k hk))
          have HLO := Lib.hid (own_lo HQ.out.1)
          have hsz : Hid (w.heap.size ≤ wr.heap.size + 1) := by show _ ≤ _; have := HQ.out.2.1.size; omega
          have HNE : Hid (∀ b, Value.ownBlock u3 = some b → b ≠ wA.heap.size) := by
            intro b hb e
            subst e
            obtain ⟨cur, hcur⟩ := Bm.own_blk' HQ.out.1 hb
            rw [HQ.out.2.2] at hcur
            simp at hcur
          have HAL : Hid (wA.heap.size < wr.heap.size) := lt_of HQ.out.2.2
          go_wp2_with (at_builtin; refine wpList_append_own _ rfl (.tmp 19) (.tmp 24) 79 rfl w.heap.size 3 z0 (.int .i64 0) 1 8 Tryz.underlying79 hinf hz0 hz1 hz2 rfl (by decide) _ (d + j) _ rfl (HOW.out _) ⟨wr.heap.size, 0, none⟩ 1 1 [.int .i64 (x + (j : Int))] rfl rfl (one_at _ _ _) (by intro u hu; simp at hu; subst hu; rfl) (by unfold maxLen; omega) (by omega) (by have h1 := hsz.out; simp; omega) ?_; intro v' w7 hown' hgrow _; (have HO := Lib.hid hown'); (have HG := Lib.hid hgrow); clear hown' hgrow)
          go_roundw
          case rel =>
            refine ⟨j + 1, by omega, by go_num, ?_, bl_grown (bl_alloc HQ.out.2.1 _) HG.out HLO.out, ?_⟩
            · rw [run1_snoc, ← List.append_assoc, ivs_append]
              exact HO.out
            · have hb := HG.out.block wA.heap.size (by have := HAL.out; simp; omega) (fun e => HNE.out _ e.symm rfl)
              exact hb.trans (alloc_old HQ.out.2.2 _)
          case measure => simp [intOf]; omega
        · obtain rfl : j = k := by omega
          go_wp2_with fail
          go_roundw
          case rel =>
            refine ⟨i + 1, d + j, by omega, by omega, by go_num, ?_, ?_, HQ.out.2.1⟩
            · rw [HS.out, List.length_append, run1_len, HR.out.1]
            · rw [HS.out]; exact HQ.out.1
          case measure => simp [intOf]; omega
    · obtain rfl : i = n := by omega
      go_wp2_with fail
      go_ret
      obtain ⟨h1, h2, h3⟩ := HR.out
      rw [List.take_of_length_le (by rw [← HN.out]; exact Nat.le_refl _)] at h1 h2
      rw [h1]
      exact ⟨_, rfl, h2, h3⟩

end Go.Proofs.YtgnagbbdnlmgeaaGreat.Tr
end

/- Numbers in rows: cantleref16.in, cantleref16.Same. -/
section
set_option linter.unusedVariables false
set_option linter.unusedSimpArgs false
set_option maxHeartbeats 2000000
set_option maxRecDepth 100000
namespace Go.Proofs.YtgnagbbdnlmgeaaGreat.Tr
open Go Go.RowKit
open Go.Proofs.YtgnagbbdnlmgeaaGreat.Ob Go.Proofs.YtgnagbbdnlmgeaaGreat.Ba Go.Proofs.YtgnagbbdnlmgeaaGreat.Oc Go.Proofs.YtgnagbbdnlmgeaaGreat.Pk

theorem in_ {w : World} {A : Option Addr} {l : List Int} (h : Rk .i64 w A l) (c : Nat) (hl : l.length ≤ 1000000000) (x : Int) :
    Calls Tryz.prog 106 #[.slice A l.length c, .int .i64 x] w fun e w' => e = .returned (.bool (decide (x ∈ l))) ∧ w' = w := by
  have H := Lib.hid h
  obtain ⟨n, hn⟩ : ∃ n, n = l.length := ⟨_, rfl⟩
  rw [← hn] at hl
  rw [← hn]
  have HN := Lib.hid hn
  have fin : ∀ b : Bool, (b = true ↔ x ∈ l) → (Ending.returned (.bool b) = .returned (.bool (decide (x ∈ l)))) := fun b hb => by
    congr 2
    cases b with
    | true => exact (decide_eq_true (hb.1 rfl)).symm
    | false => exact (decide_eq_false (fun h => by cases hb.2 h)).symm
  have FIN := Lib.hid fin
  clear h hn fin
  go_enter Tryz.func106, Tryz.ntmps106
  go_wp2_with fail
  go_loop [9] (fun c9 => ∃ i : Nat, i ≤ n ∧ c9 = .int .i64 i ∧ Hid (x ∉ l.take i)) (fun c9 => n - (intOf c9).toNat)
  case atStart => exact ⟨0, Nat.zero_le _, rfl, by show _ ∉ _; simp⟩
  case round =>
    obtain ⟨i, hi, rfl, HR⟩ := hrel
    by_cases hlt : i < n
    · obtain ⟨y, hy⟩ := some_at (l := l) (i := i) (by rw [← HN.out]; exact hlt)
      obtain ⟨a, rfl, -, ha⟩ := H.out i y hy
      have HY := Lib.hid hy
      clear hy
      by_cases hxy : x = y
      · have e1 : (x == y) = true := beq_iff_eq.2 hxy
        have HM : Hid (x ∈ l) := by show _ ∈ _; rw [hxy]; exact List.mem_of_getElem? HY.out
        clear hxy
        go_wp2_with fail
        go_ret
        exact ⟨FIN.out true ⟨fun _ => HM.out, fun _ => rfl⟩, rfl⟩
      · have e1 : (x == y) = false := beq_eq_false_iff_ne.2 hxy
        have HM : Hid (x ∉ l.take (i + 1)) := by
          show _ ∉ _
          rw [take_next HY.out]
          simp only [List.mem_append, List.mem_singleton, not_or]
          exact ⟨HR.out, hxy⟩
        clear hxy
        go_wp2_with fail
        go_round
        case rel => exact ⟨i + 1, by omega, by go_num, HM⟩
        case measure => simp [intOf]; omega
    · obtain rfl : i = n := by omega
      have HM : Hid (x ∉ l) := by
        have := HR.out
        rw [List.take_of_length_le (by rw [← HN.out]; exact Nat.le_refl _)] at this
        exact this
      go_wp2_with fail
      go_ret
      exact ⟨FIN.out false ⟨fun h => (by cases h), fun h => absurd h HM.out⟩, rfl⟩

theorem rsame_ {w : World} {A B : Option Addr} {l m : List Int} (h : Rk .i64 w A l) (k : Rk .i64 w B m) (c1 c2 : Nat) (hl : l.length ≤ 9223372036854775807) (hm : m.length ≤ 9223372036854775807) :
    Calls Tryz.prog 35 #[.slice A l.length c1, .slice B m.length c2] w fun e w' => e = .returned (.bool (decide (l = m))) ∧ ∃ n, w' = w.drewN n := by
  have H := Lib.hid h
  have K := Lib.hid k
  clear h k
  by_cases he : l.length = m.length
  · obtain ⟨n, hn⟩ : ∃ n, n = l.length := ⟨_, rfl⟩
    rw [← he, ← hn]
    rw [← hn] at hl
    have HN : Hid (n = l.length ∧ n = m.length) := ⟨hn, by rw [hn, he]⟩
    clear hn he hm
    go_enter Tryz.func35, Tryz.ntmps35
    go_wp2_with fail
    go_loopw [13] (fun c13 wr => ∃ i : Nat, i ≤ n ∧ c13 = .int .i64 i ∧ ∃ q, Hid (wr = w.drewN q ∧ l.take i = m.take i)) (fun c13 _ => n - (intOf c13).toNat)
    case atStart => exact ⟨0, Nat.zero_le _, rfl, 0, rfl, rfl⟩
    case round =>
      obtain ⟨i, hi, rfl, q, HR⟩ := hrel
      by_cases hlt : i < n
      · obtain ⟨x, hx⟩ : ∃ x, l[i]? = some x := ⟨_, List.getElem?_eq_getElem (by rw [← HN.out.1]; exact hlt)⟩
        obtain ⟨y, hy⟩ : ∃ y, m[i]? = some y := ⟨_, List.getElem?_eq_getElem (by rw [← HN.out.2]; exact hlt)⟩
        have hl2 : Rk .i64 wr A l := by rw [HR.out.1]; exact Iq.rk_drewN H.out q
        have hm2 : Rk .i64 wr B m := by rw [HR.out.1]; exact Iq.rk_drewN K.out q
        obtain ⟨a, rfl, -, ha⟩ := hl2 i x hx
        obtain ⟨b, rfl, -, hb⟩ := hm2 i y hy
        have HX := Lib.hid (And.intro hx hy)
        clear hx hy hl2 hm2
        by_cases hxy : x = y
        · have e1 : (x != y) = false := by simp [hxy]
          have EX := Lib.hid hxy
          clear hxy
          go_wp2
          go_quiet (fail)
          go_wp2
          go_roundw
          case rel => exact ⟨i + 1, by omega, by go_num, q + nq, by show _ ∧ _; rw [HR.out.1]; exact ⟨Pm.drewN_two _ _ _, Pm.eq_step HX.out.1 HX.out.2 HR.out.2 EX.out⟩⟩
          case measure => simp [intOf]; omega
        · have e1 : (x != y) = true := bne_iff_ne.2 hxy
          have EX := Lib.hid hxy
          clear hxy
          go_wp2
          go_quiet (fail)
          go_wp2
          go_ret
          have hd : decide (l = m) = false := by
            apply decide_eq_false
            rintro rfl
            have := HX.out.1.symm.trans HX.out.2
            simp at this
            exact EX.out this
          rw [hd]
          exact ⟨rfl, _, by rw [HR.out.1]; exact Pm.drewN_two _ _ _⟩
      · obtain rfl : i = n := by omega
        go_wp2
        go_ret
        have hd : decide (l = m) = true := by
          apply decide_eq_true
          have h1 := HR.out.2
          rw [List.take_of_length_le (by rw [← HN.out.1]; omega), List.take_of_length_le (by rw [← HN.out.2]; omega)] at h1
          exact h1
        rw [hd]
        exact ⟨rfl, q, HR.out.1⟩
  · have hd : decide (l = m) = false := by
      apply decide_eq_false
      intro e
      exact he (by rw [e])
    rw [hd]
    have e1 : ((l.length : Int) != (m.length : Int)) = true := by rw [bne_iff_ne]; omega
    clear hd he
    generalize l.length = x at *
    generalize m.length = y at *
    go_enter Tryz.func35, Tryz.ntmps35
    go_wp2
    go_ret
    exact ⟨rfl, 0, rfl⟩

end Go.Proofs.YtgnagbbdnlmgeaaGreat.Tr
end

/- cantlelaw16.Same: two chains that are the same. -/
section
set_option linter.unusedVariables false
set_option linter.unusedSimpArgs false
set_option maxHeartbeats 2000000
set_option maxRecDepth 100000
namespace Go.Proofs.YtgnagbbdnlmgeaaGreat.Tr
open Go Go.RowKit
open Go.Proofs.YtgnagbbdnlmgeaaGreat.Ob Go.Proofs.YtgnagbbdnlmgeaaGreat.Ba Go.Proofs.YtgnagbbdnlmgeaaGreat.Oc Go.Proofs.YtgnagbbdnlmgeaaGreat.Pk

theorem same16_ {w : World} {A1 B1 A2 B2 : Option Addr} {l : List Int} {p : List Tri} (h1 : Rk .i64 w A1 l) (h2 : TR w B1 p) (h3 : Rk .i64 w A2 l) (h4 : TR w B2 p) (c1 c2 c3 c4 : Nat) (hl : l.length ≤ 65534) (hp : p.length ≤ 65534) :
    Calls Tryz.prog 44 #[.agg #[.slice A1 l.length c1, .slice B1 p.length c2], .agg #[.slice A2 l.length c3, .slice B2 p.length c4]] w fun e w' => e = .returned (.bool true) ∧ Below w.heap.size w w' := by
  have hu := Tryz.underlying82
  have hu2 := Tryz.underlying100
  have hu3 := Tryz.underlying51
  have hu4 := Tryz.underlying54
  have HSA : Hid (∀ {W : World}, Below w.heap.size w W → _) := fun {W} hb => rsame_ (h1.below hb) (h3.below hb) c1 c3 (by omega) (by omega)
  rw [decide_eq_true rfl] at HSA
  have H2 := Lib.hid h2
  have H4 := Lib.hid h4
  obtain ⟨ln, hln⟩ : ∃ ln, ln = l.length := ⟨_, rfl⟩
  obtain ⟨pn, hpn⟩ : ∃ pn, pn = p.length := ⟨_, rfl⟩
  rw [← hpn] at hp
  rw [← hln] at HSA
  rw [← hln, ← hpn]
  have HN := Lib.hid hpn
  clear h1 h2 h3 h4 hln hpn hl
  have hq2 := alloc_old (alloc_new w (.cells #[.slice A1 ln c1, .slice B1 pn c2] 82)) (.cells #[.slice A2 ln c3, .slice B2 pn c4] 100)
  have hq3 := Je.two_new w (.cells #[.slice A1 ln c1, .slice B1 pn c2] 82) (.cells #[.slice A2 ln c3, .slice B2 pn c4] 100)
  have HB0 : Hid (Below w.heap.size w ((w.alloc (.cells #[.slice A1 ln c1, .slice B1 pn c2] 82)).alloc (.cells #[.slice A2 ln c3, .slice B2 pn c4] 100))) := bl_alloc (bl_alloc (Below.refl _ _) _) _
  have HQ := Lib.hid (And.intro hq2 hq3)
  clear hq2 hq3
  go_enter Tryz.func44, Tryz.ntmps44
  go_wp2_with fail
  refine (HSA.out HB0.out).mono ?_
  rintro e w1 ⟨rfl, n1, hw1⟩
  have HW1 : Hid (w1.heap[w.heap.size]? = some (.cells #[.slice A1 ln c1, .slice B1 pn c2] 82 (0, 0)) ∧ w1.heap[w.heap.size + 1]? = some (.cells #[.slice A2 ln c3, .slice B2 pn c4] 100 (0, 0)) ∧ Below w.heap.size w w1) := by
    show _ ∧ _ ∧ _
    rw [hw1]
    exact ⟨HQ.out.1, HQ.out.2, bl_drewN HB0.out _⟩
  clear hw1
  have k0 := cell_of HW1.out.1 0
  have k1 := cell_of HW1.out.1 1
  have k2 := cell_of HW1.out.2.1 0
  have k3 := cell_of HW1.out.2.1 1
  go_wp2_with fail
  clear k0 k1 k2 k3
  go_loopw [24] (fun c24 wr => ∃ i : Nat, i ≤ pn ∧ c24 = .int .i64 i ∧ Hid (wr.heap[w.heap.size]? = some (.cells #[.slice A1 ln c1, .slice B1 pn c2] 82 (0, 0)) ∧ wr.heap[w.heap.size + 1]? = some (.cells #[.slice A2 ln c3, .slice B2 pn c4] 100 (0, 0)) ∧ Below w.heap.size w wr)) (fun c24 _ => pn - (intOf c24).toNat)
  case atStart => exact ⟨0, Nat.zero_le _, rfl, HW1.out⟩
  case round =>
    obtain ⟨i, hi, rfl, HR⟩ := hrel
    by_cases hlt : i < pn
    · obtain ⟨t, ht⟩ := some_at (l := p) (i := i) (by rw [← HN.out]; exact hlt)
      obtain ⟨q1, o1, rfl, -, a1, a2, a3⟩ := (H2.out.below HR.out.2.2) i t ht
      obtain ⟨q2, o2, rfl, -, b1, b2, b3⟩ := (H4.out.below HR.out.2.2) i t ht
      have k1 := cell_of HR.out.1 1
      have k3 := cell_of HR.out.2.1 1
      obtain ⟨x, y, z⟩ := t
      simp only at a1 a2 a3 b1 b2 b3
      clear ht
      go_wp2_with fail
      go_quiet (fail)
      go_wp2_with fail
      go_roundw
      case rel => exact ⟨i + 1, by omega, by go_num, HR.out.1, HR.out.2.1, bl_drewN HR.out.2.2 _⟩
      case measure => simp [intOf]; omega
    · obtain rfl : i = pn := by omega
      go_wp2_with fail
      go_ret
      exact ⟨rfl, HR.out.2.2⟩

end Go.Proofs.YtgnagbbdnlmgeaaGreat.Tr
end

/- run.Fit, run.pick: which free runs are taken. -/
section
set_option linter.unusedVariables false
set_option linter.unusedSimpArgs false
set_option maxHeartbeats 2000000
set_option maxRecDepth 100000
namespace Go.Proofs.YtgnagbbdnlmgeaaGreat.Rr
open Go Go.RowKit
open Go.Proofs.YtgnagbbdnlmgeaaGreat.Ob Go.Proofs.YtgnagbbdnlmgeaaGreat.Ba Go.Proofs.YtgnagbbdnlmgeaaGreat.Oc Go.Proofs.YtgnagbbdnlmgeaaGreat.Pk Go.Proofs.YtgnagbbdnlmgeaaGreat.Bm

theorem two_new (w : World) (o p : Obj) : ((w.alloc o).alloc p).heap[w.heap.size + 1]? = some p := by
  have := alloc_new (w.alloc o) p
  rw [World.size_alloc] at this
  exact this
theorem put2 {W : World} {k T : Nat} {x0 x1 : Value} (h : W.heap[k]? = some (.cells #[x0, x1] T (0, 0))) (y0 y1 : Value) :
    ((W.setCell ⟨k, 0, none⟩ y0).setCell ⟨k, 1, none⟩ y1).heap[k]? = some (.cells #[y0, y1] T (0, 0)) := by
  have h1 := set_same h 0 y0
  have h2 := set_same h1 1 y1
  exact h2

/-- the first run that is long enough -/
def fitF (rs : List (Int × Int)) (c : Int) : Option Int := (rs.find? fun r => decide (c ≤ r.2)).map Prod.fst
theorem fit_cons (p : Int × Int) (rs : List (Int × Int)) (c : Int) : fitF (p :: rs) c = if c ≤ p.2 then some p.1 else fitF rs c := by
  unfold fitF
  by_cases h : c ≤ p.2
  · simp [h]
  · simp [h]

theorem freeG_in (n : Nat) (l : List Nat) : ∀ k o, (∀ s, o = some s → s < n) → ∀ p ∈ freeG n l k o, 0 ≤ p.1 ∧ 0 ≤ p.2 ∧ p.1 + p.2 ≤ n
  | 0, _, _, p, hp => by simp [freeG] at hp
  | _ + 1, none, _, p, hp => by simp [freeG] at hp
  | k + 1, some s, hs, p, hp => by
    rw [freeG_step] at hp
    rcases List.mem_cons.1 hp with rfl | hp
    · have := hs s rfl
      cases hq : nextF n l s true with
      | none => simp; omega
      | some j =>
        have := nextF_some hq
        simp
        omega
    · exact freeG_in n l k _ (fun u hu => (nextF_some hu).2.1) p hp
theorem frees_in {n : Nat} {l : List Nat} {p : Int × Int} (h : p ∈ frees n l) : 0 ≤ p.1 ∧ 0 ≤ p.2 ∧ p.1 + p.2 ≤ n := freeG_in n l _ _ (fun u hu => (nextF_some hu).2.1) p h
theorem freeG_len (n : Nat) (l : List Nat) : ∀ k o, (freeG n l k o).length ≤ k
  | 0, _ => by simp [freeG]
  | _ + 1, none => by simp [freeG]
  | k + 1, some s => by rw [freeG_step, List.length_cons]; have := freeG_len n l k (nextF n l ((nextF n l s true).getD n) false); omega

theorem fit_ {W : World} {B b n : Nat} {l : List Nat} {A : Option Addr} {c : Nat} (h : Bm W B b n l A c) (k : Int) :
    Calls Tryz.prog 190 #[.pointer (some ⟨b, 0, none⟩), .int .i64 k] W fun e w' =>
      (∀ s, (if k < 1 then none else fitF (frees n l) k) = some s → e = .returned (.tuple #[.agg #[.int .i64 s, .int .i64 k], .bool true])) ∧ ((if k < 1 then none else fitF (frees n l) k) = none → e = .returned (.tuple #[.agg #[.int .i64 0, .int .i64 0], .bool false])) ∧ Below W.heap.size W w' := by
  have hu := Tryz.underlying93
  have hn9 := h.le
  by_cases hk : k < 1
  · rw [if_pos hk]
    clear h
    go_enter Tryz.func190, Tryz.ntmps190
    go_wp2_with fail
    exact bodyPost_ret (res_ct (u := 5) rfl _ _ W.heap.size 93 #[.int .i64 0, .int .i64 0] (0, 0) _ rfl (alloc_new _ _) hu rfl (by kernel_rfl)) rfl ⟨fun s hs => (by cases hs), fun _ => rfl, bl_alloc (Below.refl _ _) _⟩
  rw [if_neg hk]
  have HF : Hid (∀ {W' : World}, Below W.heap.size W W' → _) := fun {W'} hb => free_run (h.keep hb)
  have hlen : (frees n l).length ≤ n + 1 := freeG_len n l _ _
  have hall : ∀ p ∈ frees n l, 0 ≤ p.1 ∧ 0 ≤ p.2 ∧ p.1 + p.2 ≤ n := fun p hp => frees_in hp
  generalize frees n l = R at *
  have HALL := Lib.hid hall
  obtain ⟨m, hm⟩ : ∃ m, m = R.length := ⟨_, rfl⟩
  rw [← hm] at hlen HF
  have HM := Lib.hid hm
  have hm9 : m ≤ 65535 := by omega
  clear h hall hm hlen
  go_enter Tryz.func190, Tryz.ntmps190
  go_wp2_with fail
  refine (HF.out (bl_alloc (Below.refl _ _) _)).mono ?_
  rintro e w1 ⟨v, rfl, hown, hb1⟩
  obtain ⟨A1, c1, rfl⟩ := own_slice hown
  have HR1 := Lib.hid (own_rr hown).1
  have HB1 := Lib.hid (bl_then (bl_alloc (Below.refl _ _) _) hb1)
  have HQ1 := Lib.hid (blk_bl (alloc_new W (.cells #[.int .i64 0, .int .i64 0] 93)) hb1)
  clear hown hb1
  go_wp2_with fail
  go_loopw [14] (fun c14 wr => ∃ i : Nat, i ≤ m ∧ c14 = .int .i64 i ∧ Hid (Below w1.heap.size w1 wr ∧ fitF R k = fitF (R.drop i) k)) (fun c14 _ => m - (intOf c14).toNat)
  case atStart => exact ⟨0, Nat.zero_le _, rfl, Below.refl _ _, by rw [List.drop_zero]⟩
  case round =>
    obtain ⟨i, hi, rfl, HR⟩ := hrel
    by_cases hlt : i < m
    · obtain ⟨p, hp⟩ := some_at (l := R) (i := i) (by rw [← HM.out]; exact hlt)
      obtain ⟨q, off, rfl, hq, g1, g2⟩ := (HR1.out.below HR.out.1) i p hp
      have hdr : R.drop i = p :: R.drop (i + 1) := by
        obtain ⟨h1, h2⟩ := List.getElem?_eq_some_iff.1 hp
        rw [List.drop_eq_getElem_cons h1, h2]
      have HFI : Hid (fitF R k = if k ≤ p.2 then some p.1 else fitF (R.drop (i + 1)) k) := by
        show _ = _
        rw [HR.out.2, hdr, fit_cons]
      have HQR := Lib.hid (blk_bl HQ1.out HR.out.1)
      have hqlt := lt_of HQR.out
      have hqr := HQR.out
      have l0 := cell_of hqr 0
      have l1 := cell_of hqr 1
      have f0 := free_of hqr 0
      have f1 := free_of hqr 1
      obtain ⟨x, y⟩ := p
      clear hp hdr hqr
      by_cases hky : k ≤ y
      · rw [if_pos hky] at HFI
        go_wp2_with fail
        exact bodyPost_ret (res_ct (u := 5) rfl _ _ W.heap.size 93 #[.int .i64 x, .int .i64 k] (0, 0) _ rfl (alloc_old (put2 HQR.out _ _) _) hu rfl (by kernel_rfl)) rfl ⟨fun s hs => (by rw [HFI.out] at hs; cases hs; rfl), fun hn => (by rw [HFI.out] at hn; cases hn), bl_alloc (bl_set (bl_set (bl_then HB1.out HR.out.1) (Nat.le_refl _) _) (Nat.le_refl _) _) _⟩
      · rw [if_neg hky] at HFI
        go_wp2_with fail
        go_roundw
        case rel => exact ⟨i + 1, by omega, by go_num, bl_alloc HR.out.1 _, HFI.out⟩
        case measure => simp [intOf]; omega
    · obtain rfl : i = m := by omega
      have hnn : fitF R k = none := by rw [HR.out.2, List.drop_of_length_le (by rw [← HM.out]; exact Nat.le_refl _)]; rfl
      have HNN := Lib.hid hnn
      have HQR := Lib.hid (blk_bl HQ1.out HR.out.1)
      have hqr := HQR.out
      have l0 := cell_of hqr 0
      have l1 := cell_of hqr 1
      have f0 := free_of hqr 0
      have f1 := free_of hqr 1
      clear hnn hqr
      go_wp2_with fail
      exact bodyPost_ret (res_ct (u := 5) rfl _ _ W.heap.size 93 #[.int .i64 0, .int .i64 0] (0, 0) _ rfl (put2 HQR.out _ _) hu rfl (by kernel_rfl)) rfl ⟨fun s hs => (by rw [HNN.out] at hs; cases hs), fun _ => rfl, bl_set (bl_set (bl_then HB1.out HR.out.1) (Nat.le_refl _) _) (Nat.le_refl _) _⟩

end Go.Proofs.YtgnagbbdnlmgeaaGreat.Rr
end
