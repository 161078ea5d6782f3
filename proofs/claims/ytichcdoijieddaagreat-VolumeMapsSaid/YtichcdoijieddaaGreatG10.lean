/- Parts of the proof, one behind the other: Vq, Sl. -/
import Derived.Test.YtichcdoijieddaaGreatG09
import Derived.Test.YtichcdoijieddaaGreatG08
import Derived.Test.YtichcdoijieddaaGreatG03

/- volume.put (printed by genvq.py). -/
section
set_option linter.unusedVariables false
set_option linter.unusedSimpArgs false
set_option maxHeartbeats 2000000
set_option maxRecDepth 100000
namespace Go.Proofs.YtichcdoijieddaaGreat.Vo
open Go Go.RowKit
open Go.Proofs.YtichcdoijieddaaGreat.Ob Go.Proofs.YtichcdoijieddaaGreat.Ba Go.Proofs.YtichcdoijieddaaGreat.Oc Go.Proofs.YtichcdoijieddaaGreat.Pk Go.Proofs.YtichcdoijieddaaGreat.Dv Go.Proofs.YtichcdoijieddaaGreat.Su Go.Proofs.YtichcdoijieddaaGreat.Mp

theorem info_i64 : (Tryz.prog.info? 3).map (fun i => (i.zero, i.size, i.bytes)) = some (some (.int .i64 0), 1, 8) := by kernel_rfl

def ecode (R : Dev × Option Nat) : Int := if R.2.isSome then 0 else 14
def PutIs (w : World) (b : Nat) (g : Lay) (R : Dev × Option Nat) (e : Ending) (w' : World) : Prop :=
  e = .returned (.tuple #[.int .i64 (R.2.getD 0 : Nat), .int .i64 (ecode R)]) ∧ DevTo w w' b g R.1
theorem put_ok {w w' : World} {b k : Nat} {g : Lay} {R : Dev × Option Nat} (d : Dev) (h : R = (d, some k)) (hd : DevTo w w' b g d) : PutIs w b g R (.returned (.tuple #[.int .i64 k, .int .i64 0])) w' := by subst h; exact ⟨rfl, hd⟩
theorem put_bad {w w' : World} {b : Nat} {g : Lay} {R : Dev × Option Nat} (d : Dev) (h : R = (d, none)) (hd : DevTo w w' b g d) : PutIs w b g R (.returned (.tuple #[.int .i64 0, .int .i64 14])) w' := by subst h; exact ⟨rfl, hd⟩

/-- what the first loop keeps -/
structure Lp (w wr : World) (b : Nat) (g : Lay) (all : Bool) (a : Nat) (l : List Int) (d0 : Dev) (R : Dev × Option Nat) (i : Nat) (c : Value) (s : Ps) (g' : Lay) : Prop where
  vs : Vs w wr b g c s g'
  go : putGo all (l.drop i) (a + i) s = R
  steps : s.d.steps ≤ d0.steps + i
  kk : s.k ≤ i
  ll : s.ls.length ≤ i
  lo : ∀ x ∈ s.ls, x ≤ 2000000000

/-- behind a box -/
theorem box_to {w w' : World} {b : Nat} {g : Lay} {o : Obj} {d : Dev} {d0 : Dev} (h : DevIs w b d0 g) (k : DevTo (w.alloc o) w' b g d) : DevTo w w' b g d := by
  obtain ⟨g2, h1, h2, h3⟩ := k
  refine ⟨g2, h1, fun x hx => ?_, (Upd.of_below (F := g.foot b) (bl_alloc (Below.refl _ _) o)).trans h3 (fun x hx => .inl hx)⟩
  rcases h2 x hx with r | r
  · exact .inl r
  · right
    simp at r
    omega

theorem vs_to {w wr : World} {b : Nat} {g g' : Lay} {c : Value} {s : Ps} (h : Vs w wr b g c s g') : DevTo w wr b g s.d := ⟨g', h.dev, h.foot, h.upd⟩

theorem lp_next {w wr wr2 : World} {b : Nat} {g : Lay} {all : Bool} {a : Nat} {l : List Int} {d0 : Dev} {R : Dev × Option Nat} {i k : Nat} {c c2 : Value} {s s2 : Ps} {g' g2 : Lay} {x : Int} (h : Lp w wr b g all a l d0 R i c s g') (hx : l[i]? = some x) (hk : k = a + i)
    (hgo : putGo all (x :: l.drop (i + 1)) k s = putGo all (l.drop (i + 1)) (k + 1) s2) (hv : Vs w wr2 b g c2 s2 g2) (h1 : s2.d.steps ≤ s.d.steps + 1) (h2 : s2.k ≤ s.k + 1) (h3 : s2.ls.length ≤ s.ls.length + 1) (h4 : ∀ u ∈ s2.ls, u ≤ 2000000000) : Lp w wr2 b g all a l d0 R (i + 1) c2 s2 g2 := by
  have e1 := h.steps
  have e2 := h.kk
  have e3 := h.ll
  refine ⟨hv, ?_, by omega, by omega, by omega, h4⟩
  rw [show a + (i + 1) = k + 1 from by omega, ← hgo, hk, ← drop_next hx]
  exact h.go

theorem last_get {ls : List Nat} {y : Nat} (h : ls.getLast? = some y) : ls[ls.length - 1]? = some y := by rw [← List.getLast?_eq_getElem?]; exact h

theorem put_all {w : World} {b : Nat} {d : Dev} {g : Lay} (h : DevIs w b d g) {A : Option Addr} {l : List Int} (hr : Rk .u64 w A l) (hA : ∀ p, A = some p → p.block ∉ g.foot b) (a c : Nat) (ha : a ≤ 1000000000) (hn : l.length ≤ 1000000) (hst : d.steps ≤ 1000000000)
    (R : Dev × Option Nat) (hR : putGo true l a ⟨d, 0, []⟩ = R) :
    Calls Tryz.prog 58 #[.agg #[.pointer (some ⟨b, 0, none⟩)], .int .i64 a, .slice A l.length c, .bool true] w fun e w' => PutIs w b g R e w' := by
  have hu := Tryz.underlying114
  have HD := Lib.hid h
  have HRK := Lib.hid hr
  have HA := Lib.hid hA
  have HST := Lib.hid hst
  have HRR := Lib.hid hR
  obtain ⟨n, hnn⟩ : ∃ n, n = l.length := ⟨_, rfl⟩
  rw [← hnn]
  rw [← hnn] at hn
  have HN := Lib.hid hnn
  clear h hr hA hst hR hnn
  obtain ⟨i0, hinf, hz0, hz1, hz2⟩ := info_parts info_i64
  go_enter Tryz.func58, Tryz.ntmps58
  go_wp2_with fail
  generalize hw1 : w.alloc (.cells #[.pointer (some ⟨b, 0, none⟩)] 114) = w1
  have HW1 := Lib.hid hw1
  have HB1 : Hid (Below w.heap.size w w1) := by rw [← hw1]; exact bl_alloc (Below.refl _ _) _
  have HQ1 : Hid (w1.heap[w.heap.size]? = some (.cells #[.pointer (some ⟨b, 0, none⟩)] 114 (0, 0))) := by rw [← hw1]; exact alloc_new _ _
  have HD1 : Hid (DevIs w1 b d g) := HD.out.below HB1.out
  have HNF : Hid (w.heap.size ∉ g.foot b) := fun hm => Nat.lt_irrefl _ (HD.out.lt _ hm)
  have HRK1 : Hid (Rk .u64 w1 A l) := HRK.out.below HB1.out
  clear hw1 HRK
  go_loopw [10, 11, 20] (fun c10 c11 c20 wr => ∃ (i : Nat) (s : Ps) (g' : Lay), i ≤ n ∧ c20 = .int .i64 i ∧ c10 = .int .i64 s.k ∧ Hid (Lp w1 wr b g true a l d R i c11 s g')) (fun _ _ c20 _ => n - (intOf c20).toNat)
  case atStart =>
    refine ⟨0, ⟨d, 0, []⟩, g, Nat.zero_le _, rfl, rfl, ⟨⟨HD1.out, fun k hk => .inl hk, Upd.refl _ _, ?_⟩, by rw [List.drop_zero]; exact HRR.out, Nat.le_refl _, Nat.le_refl _, Nat.le_refl _, by simp⟩⟩
    have := own_nil0 w1 w1.heap.size 3 1
    simpa [ints, ivs] using this
  case round =>
    obtain ⟨i, s, g', hi, rfl, rfl, HL⟩ := hrel
    have HV := Lib.hid HL.out.vs
    obtain ⟨q, hq⟩ : ∃ q, q = s.ls.length := ⟨_, rfl⟩
    have hrow := HV.out.row
    rw [← hq] at hrow
    obtain ⟨A11, c11, e11⟩ := own_slice hrow
    have HLEN := Lib.hid hq
    have hlsq : q ≤ 1000000 := by have := HL.out.ll; omega
    clear hrow hq
    subst e11
    have hbc : wr.cell? ⟨w.heap.size, 0, none⟩ = some (.pointer (some ⟨b, 0, none⟩)) := cell_of (HV.out.blk HQ1.out HNF.out) 0
    by_cases hlt : i < n
    · obtain ⟨x, hx⟩ := some_at (l := l) (i := i) (by rw [← HN.out]; exact hlt)
      obtain ⟨p, rfl, hp1, hp2⟩ := HV.out.data HRK1.out HA.out i x hx
      have HX := Lib.hid hx
      obtain ⟨k, hk⟩ : ∃ k, k = a + i := ⟨_, rfl⟩
      have HK := Lib.hid hk
      clear hx hi hk
      have HKP : Hid (keepW true s.d k x = false) := rfl

      have hst := Go.Proofs.YtichcdoijieddaaGreat.Pm.store_any HV.out.dev ((a : Int) + i) x (by have := HL.out.steps; have := HST.out; omega)
      rw [show s.d.storeOk ((a : Int) + i) = s.d.storeOk (k : Int) from by rw [HK.out]; rfl, show s.d.stored ((a : Int) + i) x = s.d.stored (k : Int) x from by rw [HK.out]; rfl] at hst
      have HS := Lib.hid hst
      clear hst
      cases hok : s.d.storeOk (k : Int) with
      | false =>
        rw [hok] at HS
        have HNO := Lib.hid (putGo_fail (r := l.drop (i + 1)) HKP.out hok)
        have HSN := Lib.hid (stored_no (x := x) hok)
        clear hok
        go_wp2_with (go_at_call 103; refine HS.out.mono ?_; rintro e w3 ⟨rfl, hto⟩; (have HTO := Lib.hid hto); clear hto)
        go_ret2
        have hgo := HL.out.go
        rw [drop_next HX.out, ← HK.out, HNO.out] at hgo
        obtain ⟨g3, hv3⟩ := HV.out.to HTO.out
        rw [HSN.out] at hv3
        exact put_bad s.d hgo.symm (box_to HD.out (by rw [HW1.out]; exact vs_to hv3))
      | true =>
        rw [hok] at HS
        have HYES := Lib.hid (putGo_store (r := l.drop (i + 1)) HKP.out hok)
        have HSS := Lib.hid (stored_steps s.d (k : Int) x)
        clear hok
        obtain ⟨z, hz⟩ : ∃ z : Nat, z = k / 8 := ⟨_, rfl⟩
        have HZ := Lib.hid hz
        have hz8 : ((a : Int) + i) / 8 = (z : Int) := by have := HK.out; omega
        clear hz
        have hkq : s.k < 1000000 := by have := HL.out.kk; omega
        obtain ⟨kk, hsk⟩ : ∃ kk, kk = s.k := ⟨_, rfl⟩
        rw [← hsk]
        rw [← hsk] at hkq
        have HSK := Lib.hid hsk
        clear hsk
        rcases hls : s.ls.getLast? with _ | y
        · have hnil : s.ls = [] := List.getLast?_eq_none_iff.1 hls
          have HADD : Hid (addLn s.ls (k / 8) = s.ls ++ [z]) := by rw [← HZ.out]; unfold addLn; rw [hls]; rfl
          have hq0 : q = 0 := by rw [HLEN.out, hnil]; rfl
          have e9 : ((q : Int) == 0) = true := by rw [beq_iff_eq]; omega
          have HQ0 := Lib.hid hq0
          clear hnil hq0 hls
          go_wp2_with (first | (go_at_call 103; refine HS.out.mono ?_; rintro e w3 ⟨rfl, hto⟩; (obtain ⟨g3, hv3⟩ := HV.out.to hto); (have hrow3 : w3.ownsRow w1.heap.size 3 1 (.slice A11 q c11) s.ls.length (ivs .i64 (ints s.ls)) := hv3.row); rw [← HLEN.out] at hrow3; (have HV3 := Lib.hid hv3); (have HOW := Lib.hid (fun o => own_kp (W' := w3.alloc o) hrow3 (fun k _ hk => Below.heap_alloc _ _ k hk))); (have HSZ := Lib.hid hv3.upd.size); clear hto hv3 hrow3) |
            (at_builtin; refine wpList_append_own _ rfl (.tmp 60) (.tmp 63) 48 rfl w1.heap.size 3 i0 (.int .i64 0) 1 8 Tryz.underlying48 hinf hz0 hz1 hz2 rfl (by decide) _ q _ rfl (HOW.out _) ⟨w3.heap.size, 0, none⟩ 1 1 [.int .i64 z] rfl rfl (one_at _ _ _) (by intro u hu; simp at hu; subst hu; rfl) (by unfold maxLen; omega) (by omega) (by have := HSZ.out; simp; omega) ?_; intro v' w7 hown' hgrow _; (obtain ⟨A9, c9, rfl⟩ := own_slice hown'); (have HO := Lib.hid hown'); (have HG := Lib.hid hgrow); clear hown' hgrow))
          go_roundw
          case rel =>
            refine ⟨i + 1, ⟨s.d.stored k x, s.k + 1, s.ls ++ [z]⟩, g3, hlt, by go_num, by have := HSK.out; go_num, lp_next HL.out HX.out HK.out (by rw [← HADD.out]; exact HYES.out) (HV3.out.grown _ HG.out ?_ _) HSS.out (Nat.le_refl _) (by simp) ?_⟩
            · have h9 := HO.out
              rw [ints_append, ivs_append, List.length_append, ← HLEN.out]
              exact h9
            · intro u hu
              rcases List.mem_append.1 hu with h9 | h9
              · exact HL.out.lo u h9
              · simp at h9
                have := HZ.out
                have := HK.out
                omega
          case measure => simp [intOf]; omega
        · have hq1 : 1 ≤ q := by
            rw [HLEN.out]
            cases hc : s.ls with
            | nil => rw [hc] at hls; cases hls
            | cons u v => simp
          obtain ⟨r, hr⟩ : ∃ r, q = r + 1 := ⟨q - 1, by omega⟩
          have hyr : s.ls[r]? = some y := by
            have h1 := last_get hls
            rw [← HLEN.out, hr] at h1
            exact h1
          subst hr
          have e9 : (((r + 1 : Nat) : Int) == 0) = false := by rw [beq_eq_false_iff_ne]; omega
          have hrow2 : wr.ownsRow w1.heap.size 3 1 (.slice A11 (r + 1 : Nat) c11) (r + 1) (ivs .i64 (ints s.ls)) := by
            have h := HV.out.row
            rw [← HLEN.out] at h
            exact h
          obtain ⟨g11, rfl, -, -⟩ := own_at hrow2 (ints_get hyr)
          have HYR := Lib.hid hyr
          have HLS := Lib.hid hls
          have hlsr : r + 1 ≤ 1000000 := hlsq
          clear hq1 hyr hls hrow2 hlsq
          by_cases hyz : y = z
          · subst hyz
            have HADD : Hid (addLn s.ls (k / 8) = s.ls) := by show _ = _; rw [← HZ.out]; unfold addLn; rw [HLS.out, if_pos rfl]
            go_wp2_with (first | (go_at_call 103; refine HS.out.mono ?_; rintro e w3 ⟨rfl, hto⟩; (obtain ⟨g3, hv3⟩ := HV.out.to hto); (have hrow3 : w3.ownsRow w1.heap.size 3 1 (.slice (some ⟨g11, 0, none⟩) (r + 1 : Nat) c11) s.ls.length (ivs .i64 (ints s.ls)) := hv3.row); rw [← HLEN.out] at hrow3; (obtain ⟨gg, eg, hcl, -⟩ := own_at hrow3 (ints_get HYR.out)); cases eg; (have HV3 := Lib.hid hv3); clear hto hv3 hrow3))
            go_roundw
            case rel => exact ⟨i + 1, ⟨s.d.stored k x, s.k + 1, s.ls⟩, g3, hlt, by go_num, by have := HSK.out; go_num, lp_next HL.out HX.out HK.out (HYES.out.trans (by rw [HADD.out])) ⟨HV3.out.dev, HV3.out.foot, HV3.out.upd, HV3.out.row⟩ HSS.out (Nat.le_refl _) (Nat.le_succ _) HL.out.lo⟩
            case measure => simp [intOf]; omega
          · have HADD : Hid (addLn s.ls (k / 8) = s.ls ++ [z]) := by show _ = _; rw [← HZ.out]; unfold addLn; rw [HLS.out, if_neg (fun e => hyz (by simpa using e))]
            have e8 : ((y : Int) != (z : Int)) = true := bne_iff_ne.2 (by omega)
            have HYZ := Lib.hid hyz
            clear hyz
            go_wp2_with (first | (go_at_call 103; refine HS.out.mono ?_; rintro e w3 ⟨rfl, hto⟩; (obtain ⟨g3, hv3⟩ := HV.out.to hto); (have hrow3 : w3.ownsRow w1.heap.size 3 1 (.slice (some ⟨g11, 0, none⟩) (r + 1) c11) s.ls.length (ivs .i64 (ints s.ls)) := hv3.row); rw [← HLEN.out] at hrow3; (obtain ⟨gg, eg, hcl, -⟩ := own_at hrow3 (ints_get HYR.out)); cases eg; (have HV3 := Lib.hid hv3); (have HOW := Lib.hid (fun o => own_kp (W' := w3.alloc o) hrow3 (fun k _ hk => Below.heap_alloc _ _ k hk))); (have HSZ := Lib.hid hv3.upd.size); clear hto hv3 hrow3) |
              (at_builtin; refine wpList_append_own _ rfl (.tmp 60) (.tmp 63) 48 rfl w1.heap.size 3 i0 (.int .i64 0) 1 8 Tryz.underlying48 hinf hz0 hz1 hz2 rfl (by decide) _ (r + 1) _ rfl (HOW.out _) ⟨w3.heap.size, 0, none⟩ 1 1 [.int .i64 z] rfl rfl (one_at _ _ _) (by intro u hu; simp at hu; subst hu; rfl) (by unfold maxLen; omega) (by omega) (by have := HSZ.out; simp; omega) ?_; intro v' w7 hown' hgrow _; (obtain ⟨A9, c9, rfl⟩ := own_slice hown'); (have HO := Lib.hid hown'); (have HG := Lib.hid hgrow); clear hown' hgrow))
            go_roundw
            case rel =>
              refine ⟨i + 1, ⟨s.d.stored k x, s.k + 1, s.ls ++ [z]⟩, g3, hlt, by go_num, by have := HSK.out; go_num, lp_next HL.out HX.out HK.out (by rw [← HADD.out]; exact HYES.out) (HV3.out.grown _ HG.out ?_ _) HSS.out (Nat.le_refl _) (by simp) ?_⟩
              · have h9 := HO.out
                rw [ints_append, ivs_append, List.length_append, ← HLEN.out]
                exact h9
              · intro u hu
                rcases List.mem_append.1 hu with h9 | h9
                · exact HL.out.lo u h9
                · simp at h9
                  have := HZ.out
                  have := HK.out
                  omega
            case measure => simp [intOf]; omega
    · obtain rfl : i = n := by omega
      have hgo := HL.out.go
      rw [List.drop_of_length_le (by rw [← HN.out]; exact Nat.le_refl _)] at hgo
      have HGO : Hid (flushGo s.ls s.d s.k = R) := hgo
      have HLO := Lib.hid HL.out.lo
      have HSTP : Hid (s.d.steps ≤ 1001000000) := by
        have := HL.out.steps
        have := HST.out
        show _ ≤ _
        omega
      have HKS := Lib.hid HL.out.kk
      clear hgo hlt hi HL hbc HRR
      generalize hkk : s.k = kk at *
      have HKK := Lib.hid hkk
      clear hkk
      go_wp2_with fail
      generalize wr = wA at *
      go_loopw [68] (fun c68 wr => ∃ (j : Nat) (ds : Dev) (gs : Lay), j ≤ q ∧ c68 = .int .i64 j ∧ Hid (Vs w1 wr b g (.slice A11 q c11) ⟨ds, s.k, s.ls⟩ gs ∧ flushGo (s.ls.drop j) ds s.k = R ∧ ds.steps ≤ 1001000000 + j)) (fun c68 _ => q - (intOf c68).toNat)
      case atStart => exact ⟨0, s.d, g', Nat.zero_le _, rfl, ⟨HV.out.dev, HV.out.foot, HV.out.upd, HV.out.row⟩, by rw [HKK.out]; exact HGO.out, HSTP.out⟩
      case round =>
        obtain ⟨j, ds, gs, hj, rfl, HJ⟩ := hrel
        have hbc : wr.cell? ⟨w.heap.size, 0, none⟩ = some (.pointer (some ⟨b, 0, none⟩)) := cell_of (HJ.out.1.blk HQ1.out HNF.out) 0
        by_cases hjq : j < q
        · obtain ⟨x, hx⟩ := some_at (l := s.ls) (i := j) (by rw [← HLEN.out]; exact hjq)
          have hrow : wr.ownsRow w1.heap.size 3 1 (.slice A11 q c11) q (ivs .i64 (ints s.ls)) := by
            have h := HJ.out.1.row
            rw [← HLEN.out] at h
            exact h
          obtain ⟨p, rfl, hp1, hp2⟩ := (own_rk hrow).1 j x (ints_get hx)
          have HX := Lib.hid hx
          have hfl := Go.Proofs.YtichcdoijieddaaGreat.Pm.flush_any HJ.out.1.dev (x : Int) (by have := HJ.out.2.2; have h9 := hlsq; show ds.steps < _; omega)
          have HDR := Lib.hid (drop_next hx)
          have HFS := Lib.hid (flushed_steps ds (x : Int))
          clear hx hrow hj
          cases hok : ds.flushOk (x : Int) with
          | false =>
            rw [hok] at hfl
            have HF := Lib.hid hfl
            have HNO : Hid (flushGo (x :: s.ls.drop (j + 1)) ds s.k = (ds, none)) := by show (if ds.flushOk x then _ else _) = _; rw [hok]; rfl
            have HSN := Lib.hid (flushed_no hok)
            clear hok hfl
            go_wp2_with (go_at_call 104; refine HF.out.mono ?_; rintro e w3 ⟨rfl, hto⟩; (have HTO := Lib.hid hto); clear hto)
            go_ret2
            obtain ⟨g3, hv3⟩ := HJ.out.1.to HTO.out
            have hgo := HJ.out.2.1
            rw [HDR.out, HNO.out] at hgo
            have hd3 : DevTo w1 w3 b g ds := by
              have h9 := vs_to hv3
              rw [HSN.out] at h9
              exact h9
            exact put_bad ds hgo.symm (box_to HD.out (by rw [HW1.out]; exact hd3))
          | true =>
            rw [hok] at hfl
            have HF := Lib.hid hfl
            have HYES : Hid (flushGo (x :: s.ls.drop (j + 1)) ds s.k = flushGo (s.ls.drop (j + 1)) (ds.flushed x) s.k) := by show (if ds.flushOk x then _ else _) = _; rw [hok]; rfl
            clear hok hfl
            go_wp2_with (go_at_call 104; refine HF.out.mono ?_; rintro e w3 ⟨rfl, hto⟩; (obtain ⟨g3, hv3⟩ := HJ.out.1.to hto); (have HV3 := Lib.hid hv3); clear hto hv3)
            go_roundw
            case rel =>
              refine ⟨j + 1, ds.flushed x, g3, hjq, by go_num, HV3.out, ?_, ?_⟩
              · rw [← HYES.out, ← HDR.out]
                exact HJ.out.2.1
              · have := HFS.out
                have := HJ.out.2.2
                omega
            case measure => simp [intOf]; omega
        · obtain rfl : j = q := by omega
          go_wp2_with fail
          go_ret2
          have hgo := HJ.out.2.1
          rw [List.drop_of_length_le (by rw [← HLEN.out]; exact Nat.le_refl _)] at hgo
          rw [← HKK.out]
          exact put_ok ds hgo.symm (box_to HD.out (by rw [HW1.out]; exact vs_to HJ.out.1))

theorem put_diff {w : World} {b : Nat} {d : Dev} {g : Lay} (h : DevIs w b d g) {A : Option Addr} {l : List Int} (hr : Rk .u64 w A l) (hA : ∀ p, A = some p → p.block ∉ g.foot b) (a c : Nat) (ha : a ≤ 1000000000) (hn : l.length ≤ 1000000) (hst : d.steps ≤ 1000000000)
    (R : Dev × Option Nat) (hR : putGo false l a ⟨d, 0, []⟩ = R) :
    Calls Tryz.prog 58 #[.agg #[.pointer (some ⟨b, 0, none⟩)], .int .i64 a, .slice A l.length c, .bool false] w fun e w' => PutIs w b g R e w' := by
  have hu := Tryz.underlying114
  have HD := Lib.hid h
  have HRK := Lib.hid hr
  have HA := Lib.hid hA
  have HST := Lib.hid hst
  have HRR := Lib.hid hR
  obtain ⟨n, hnn⟩ : ∃ n, n = l.length := ⟨_, rfl⟩
  rw [← hnn]
  rw [← hnn] at hn
  have HN := Lib.hid hnn
  clear h hr hA hst hR hnn
  obtain ⟨i0, hinf, hz0, hz1, hz2⟩ := info_parts info_i64
  go_enter Tryz.func58, Tryz.ntmps58
  go_wp2_with fail
  generalize hw1 : w.alloc (.cells #[.pointer (some ⟨b, 0, none⟩)] 114) = w1
  have HW1 := Lib.hid hw1
  have HB1 : Hid (Below w.heap.size w w1) := by rw [← hw1]; exact bl_alloc (Below.refl _ _) _
  have HQ1 : Hid (w1.heap[w.heap.size]? = some (.cells #[.pointer (some ⟨b, 0, none⟩)] 114 (0, 0))) := by rw [← hw1]; exact alloc_new _ _
  have HD1 : Hid (DevIs w1 b d g) := HD.out.below HB1.out
  have HNF : Hid (w.heap.size ∉ g.foot b) := fun hm => Nat.lt_irrefl _ (HD.out.lt _ hm)
  have HRK1 : Hid (Rk .u64 w1 A l) := HRK.out.below HB1.out
  clear hw1 HRK
  go_loopw [10, 11, 20] (fun c10 c11 c20 wr => ∃ (i : Nat) (s : Ps) (g' : Lay), i ≤ n ∧ c20 = .int .i64 i ∧ c10 = .int .i64 s.k ∧ Hid (Lp w1 wr b g false a l d R i c11 s g')) (fun _ _ c20 _ => n - (intOf c20).toNat)
  case atStart =>
    refine ⟨0, ⟨d, 0, []⟩, g, Nat.zero_le _, rfl, rfl, ⟨⟨HD1.out, fun k hk => .inl hk, Upd.refl _ _, ?_⟩, by rw [List.drop_zero]; exact HRR.out, Nat.le_refl _, Nat.le_refl _, Nat.le_refl _, by simp⟩⟩
    have := own_nil0 w1 w1.heap.size 3 1
    simpa [ints, ivs] using this
  case round =>
    obtain ⟨i, s, g', hi, rfl, rfl, HL⟩ := hrel
    have HV := Lib.hid HL.out.vs
    obtain ⟨q, hq⟩ : ∃ q, q = s.ls.length := ⟨_, rfl⟩
    have hrow := HV.out.row
    rw [← hq] at hrow
    obtain ⟨A11, c11, e11⟩ := own_slice hrow
    have HLEN := Lib.hid hq
    have hlsq : q ≤ 1000000 := by have := HL.out.ll; omega
    clear hrow hq
    subst e11
    have hbc : wr.cell? ⟨w.heap.size, 0, none⟩ = some (.pointer (some ⟨b, 0, none⟩)) := cell_of (HV.out.blk HQ1.out HNF.out) 0
    by_cases hlt : i < n
    · obtain ⟨x, hx⟩ := some_at (l := l) (i := i) (by rw [← HN.out]; exact hlt)
      obtain ⟨p, rfl, hp1, hp2⟩ := HV.out.data HRK1.out HA.out i x hx
      have HX := Lib.hid hx
      obtain ⟨k, hk⟩ : ∃ k, k = a + i := ⟨_, rfl⟩
      have HK := Lib.hid hk
      clear hx hi hk
      obtain ⟨y, hy⟩ : ∃ y, y = s.d.load (k : Int) := ⟨_, rfl⟩
      have hld := Go.Proofs.YtichcdoijieddaaGreat.Pm.load_any HV.out.dev ((a : Int) + i)
      rw [show s.d.load ((a : Int) + i) = y from by rw [hy, HK.out]; rfl] at hld
      have HLD := Lib.hid hld
      have HY := Lib.hid hy
      clear hld hy
      by_cases hyx : y = x
      · subst hyx
        have HKP : Hid (keepW false s.d k y = true) := by show (_ && decide _) = true; rw [← HY.out]; simp
        go_wp2_with (go_at_call 77; refine HLD.out.mono ?_; rintro e w3 ⟨rfl, q3, rfl⟩)
        go_roundw
        case rel =>
          have h0 := HL.out
          refine ⟨i + 1, s, g', hlt, by go_num, rfl, ?_⟩
          exact lp_next h0 HX.out HK.out (putGo_keep HKP.out) (HV.out.drewN q3) (Nat.le_succ _) (Nat.le_succ _) (Nat.le_succ _) h0.lo
        case measure => simp [intOf]; omega
      · have HKP : Hid (keepW false s.d k x = false) := by show (_ && decide _) = false; rw [← HY.out]; simp [hyx]
        have e7 : (y == x) = false := beq_eq_false_iff_ne.2 hyx
        have HYX := Lib.hid hyx
        clear hyx
        have hstep : ∀ (u5 : Nat) w2, w2 = wr.drewN u5 → Hid (Vs w1 w2 b g (.slice A11 q c11) s g') ∧ Hid (Lp w1 w2 b g false a l d R i (.slice A11 q c11) s g') ∧ w2.cell? ⟨w.heap.size, 0, none⟩ = some (.pointer (some ⟨b, 0, none⟩)) := by
          rintro u5 w2 rfl
          exact ⟨HV.out.drewN u5, ⟨HV.out.drewN u5, HL.out.go, HL.out.steps, HL.out.kk, HL.out.ll, HL.out.lo⟩, hbc⟩
        have HSTEP := Lib.hid hstep
        clear hstep HV HL
        go_wp2_with (go_at_call 77; refine HLD.out.mono ?_; rintro e w2 ⟨rfl, q3, hw2⟩; (obtain ⟨HV, HL, hbc2⟩ := HSTEP.out q3 w2 hw2); clear hw2 HSTEP hp2 hp1 HLD hbc)

        have hst := Go.Proofs.YtichcdoijieddaaGreat.Pm.store_any HV.out.dev ((a : Int) + i) x (by have := HL.out.steps; have := HST.out; omega)
        rw [show s.d.storeOk ((a : Int) + i) = s.d.storeOk (k : Int) from by rw [HK.out]; rfl, show s.d.stored ((a : Int) + i) x = s.d.stored (k : Int) x from by rw [HK.out]; rfl] at hst
        have HS := Lib.hid hst
        clear hst
        cases hok : s.d.storeOk (k : Int) with
        | false =>
          rw [hok] at HS
          have HNO := Lib.hid (putGo_fail (r := l.drop (i + 1)) HKP.out hok)
          have HSN := Lib.hid (stored_no (x := x) hok)
          clear hok
          refine HS.out.mono ?_; rintro e w3 ⟨rfl, hto⟩; (have HTO := Lib.hid hto); clear hto; go_wp2_with fail
          go_ret2
          have hgo := HL.out.go
          rw [drop_next HX.out, ← HK.out, HNO.out] at hgo
          obtain ⟨g3, hv3⟩ := HV.out.to HTO.out
          rw [HSN.out] at hv3
          exact put_bad s.d hgo.symm (box_to HD.out (by rw [HW1.out]; exact vs_to hv3))
        | true =>
          rw [hok] at HS
          have HYES := Lib.hid (putGo_store (r := l.drop (i + 1)) HKP.out hok)
          have HSS := Lib.hid (stored_steps s.d (k : Int) x)
          clear hok
          obtain ⟨z, hz⟩ : ∃ z : Nat, z = k / 8 := ⟨_, rfl⟩
          have HZ := Lib.hid hz
          have hz8 : ((a : Int) + i) / 8 = (z : Int) := by have := HK.out; omega
          clear hz
          have hkq : s.k < 1000000 := by have := HL.out.kk; omega
          obtain ⟨kk, hsk⟩ : ∃ kk, kk = s.k := ⟨_, rfl⟩
          rw [← hsk]
          rw [← hsk] at hkq
          have HSK := Lib.hid hsk
          clear hsk
          rcases hls : s.ls.getLast? with _ | y
          · have hnil : s.ls = [] := List.getLast?_eq_none_iff.1 hls
            have HADD : Hid (addLn s.ls (k / 8) = s.ls ++ [z]) := by rw [← HZ.out]; unfold addLn; rw [hls]; rfl
            have hq0 : q = 0 := by rw [HLEN.out, hnil]; rfl
            have e9 : ((q : Int) == 0) = true := by rw [beq_iff_eq]; omega
            have HQ0 := Lib.hid hq0
            clear hnil hq0 hls
            refine HS.out.mono ?_; rintro e w3 ⟨rfl, hto⟩; (obtain ⟨g3, hv3⟩ := HV.out.to hto); (have hrow3 : w3.ownsRow w1.heap.size 3 1 (.slice A11 q c11) s.ls.length (ivs .i64 (ints s.ls)) := hv3.row); rw [← HLEN.out] at hrow3; (have HV3 := Lib.hid hv3); (have HOW := Lib.hid (fun o => own_kp (W' := w3.alloc o) hrow3 (fun k _ hk => Below.heap_alloc _ _ k hk))); (have HSZ := Lib.hid hv3.upd.size); clear hto hv3 hrow3; go_wp2_with (at_builtin; refine wpList_append_own _ rfl (.tmp 60) (.tmp 63) 48 rfl w1.heap.size 3 i0 (.int .i64 0) 1 8 Tryz.underlying48 hinf hz0 hz1 hz2 rfl (by decide) _ q _ rfl (HOW.out _) ⟨w3.heap.size, 0, none⟩ 1 1 [.int .i64 z] rfl rfl (one_at _ _ _) (by intro u hu; simp at hu; subst hu; rfl) (by unfold maxLen; omega) (by omega) (by have := HSZ.out; simp; omega) ?_; intro v' w7 hown' hgrow _; (obtain ⟨A9, c9, rfl⟩ := own_slice hown'); (have HO := Lib.hid hown'); (have HG := Lib.hid hgrow); clear hown' hgrow)
            go_roundw
            case rel =>
              refine ⟨i + 1, ⟨s.d.stored k x, s.k + 1, s.ls ++ [z]⟩, g3, hlt, by go_num, by have := HSK.out; go_num, lp_next HL.out HX.out HK.out (by rw [← HADD.out]; exact HYES.out) (HV3.out.grown _ HG.out ?_ _) HSS.out (Nat.le_refl _) (by simp) ?_⟩
              · have h9 := HO.out
                rw [ints_append, ivs_append, List.length_append, ← HLEN.out]
                exact h9
              · intro u hu
                rcases List.mem_append.1 hu with h9 | h9
                · exact HL.out.lo u h9
                · simp at h9
                  have := HZ.out
                  have := HK.out
                  omega
            case measure => simp [intOf]; omega
          · have hq1 : 1 ≤ q := by
              rw [HLEN.out]
              cases hc : s.ls with
              | nil => rw [hc] at hls; cases hls
              | cons u v => simp
            obtain ⟨r, hr⟩ : ∃ r, q = r + 1 := ⟨q - 1, by omega⟩
            have hyr : s.ls[r]? = some y := by
              have h1 := last_get hls
              rw [← HLEN.out, hr] at h1
              exact h1
            subst hr
            have e9 : (((r + 1 : Nat) : Int) == 0) = false := by rw [beq_eq_false_iff_ne]; omega
            have hrow2 : w2.ownsRow w1.heap.size 3 1 (.slice A11 (r + 1 : Nat) c11) (r + 1) (ivs .i64 (ints s.ls)) := by
              have h := HV.out.row
              rw [← HLEN.out] at h
              exact h
            obtain ⟨g11, rfl, -, -⟩ := own_at hrow2 (ints_get hyr)
            have HYR := Lib.hid hyr
            have HLS := Lib.hid hls
            have hlsr : r + 1 ≤ 1000000 := hlsq
            clear hq1 hyr hls hrow2 hlsq
            by_cases hyz : y = z
            · subst hyz
              have HADD : Hid (addLn s.ls (k / 8) = s.ls) := by show _ = _; rw [← HZ.out]; unfold addLn; rw [HLS.out, if_pos rfl]
              refine HS.out.mono ?_; rintro e w3 ⟨rfl, hto⟩; (obtain ⟨g3, hv3⟩ := HV.out.to hto); (have hrow3 : w3.ownsRow w1.heap.size 3 1 (.slice (some ⟨g11, 0, none⟩) (r + 1 : Nat) c11) s.ls.length (ivs .i64 (ints s.ls)) := hv3.row); rw [← HLEN.out] at hrow3; (obtain ⟨gg, eg, hcl, -⟩ := own_at hrow3 (ints_get HYR.out)); cases eg; (have HV3 := Lib.hid hv3); clear hto hv3 hrow3; go_wp2_with fail
              go_roundw
              case rel => exact ⟨i + 1, ⟨s.d.stored k x, s.k + 1, s.ls⟩, g3, hlt, by go_num, by have := HSK.out; go_num, lp_next HL.out HX.out HK.out (HYES.out.trans (by rw [HADD.out])) ⟨HV3.out.dev, HV3.out.foot, HV3.out.upd, HV3.out.row⟩ HSS.out (Nat.le_refl _) (Nat.le_succ _) HL.out.lo⟩
              case measure => simp [intOf]; omega
            · have HADD : Hid (addLn s.ls (k / 8) = s.ls ++ [z]) := by show _ = _; rw [← HZ.out]; unfold addLn; rw [HLS.out, if_neg (fun e => hyz (by simpa using e))]
              have e8 : ((y : Int) != (z : Int)) = true := bne_iff_ne.2 (by omega)
              have HYZ := Lib.hid hyz
              clear hyz
              refine HS.out.mono ?_; rintro e w3 ⟨rfl, hto⟩; (obtain ⟨g3, hv3⟩ := HV.out.to hto); (have hrow3 : w3.ownsRow w1.heap.size 3 1 (.slice (some ⟨g11, 0, none⟩) (r + 1) c11) s.ls.length (ivs .i64 (ints s.ls)) := hv3.row); rw [← HLEN.out] at hrow3; (obtain ⟨gg, eg, hcl, -⟩ := own_at hrow3 (ints_get HYR.out)); cases eg; (have HV3 := Lib.hid hv3); (have HOW := Lib.hid (fun o => own_kp (W' := w3.alloc o) hrow3 (fun k _ hk => Below.heap_alloc _ _ k hk))); (have HSZ := Lib.hid hv3.upd.size); clear hto hv3 hrow3; go_wp2_with (at_builtin; refine wpList_append_own _ rfl (.tmp 60) (.tmp 63) 48 rfl w1.heap.size 3 i0 (.int .i64 0) 1 8 Tryz.underlying48 hinf hz0 hz1 hz2 rfl (by decide) _ (r + 1) _ rfl (HOW.out _) ⟨w3.heap.size, 0, none⟩ 1 1 [.int .i64 z] rfl rfl (one_at _ _ _) (by intro u hu; simp at hu; subst hu; rfl) (by unfold maxLen; omega) (by omega) (by have := HSZ.out; simp; omega) ?_; intro v' w7 hown' hgrow _; (obtain ⟨A9, c9, rfl⟩ := own_slice hown'); (have HO := Lib.hid hown'); (have HG := Lib.hid hgrow); clear hown' hgrow)
              go_roundw
              case rel =>
                refine ⟨i + 1, ⟨s.d.stored k x, s.k + 1, s.ls ++ [z]⟩, g3, hlt, by go_num, by have := HSK.out; go_num, lp_next HL.out HX.out HK.out (by rw [← HADD.out]; exact HYES.out) (HV3.out.grown _ HG.out ?_ _) HSS.out (Nat.le_refl _) (by simp) ?_⟩
                · have h9 := HO.out
                  rw [ints_append, ivs_append, List.length_append, ← HLEN.out]
                  exact h9
                · intro u hu
                  rcases List.mem_append.1 hu with h9 | h9
                  · exact HL.out.lo u h9
                  · simp at h9
                    have := HZ.out
                    have := HK.out
                    omega
              case measure => simp [intOf]; omega
    · obtain rfl : i = n := by omega
      have hgo := HL.out.go
      rw [List.drop_of_length_le (by rw [← HN.out]; exact Nat.le_refl _)] at hgo
      have HGO : Hid (flushGo s.ls s.d s.k = R) := hgo
      have HLO := Lib.hid HL.out.lo
      have HSTP : Hid (s.d.steps ≤ 1001000000) := by
        have := HL.out.steps
        have := HST.out
        show _ ≤ _
        omega
      have HKS := Lib.hid HL.out.kk
      clear hgo hlt hi HL hbc HRR
      generalize hkk : s.k = kk at *
      have HKK := Lib.hid hkk
      clear hkk
      go_wp2_with fail
      generalize wr = wA at *
      go_loopw [68] (fun c68 wr => ∃ (j : Nat) (ds : Dev) (gs : Lay), j ≤ q ∧ c68 = .int .i64 j ∧ Hid (Vs w1 wr b g (.slice A11 q c11) ⟨ds, s.k, s.ls⟩ gs ∧ flushGo (s.ls.drop j) ds s.k = R ∧ ds.steps ≤ 1001000000 + j)) (fun c68 _ => q - (intOf c68).toNat)
      case atStart => exact ⟨0, s.d, g', Nat.zero_le _, rfl, ⟨HV.out.dev, HV.out.foot, HV.out.upd, HV.out.row⟩, by rw [HKK.out]; exact HGO.out, HSTP.out⟩
      case round =>
        obtain ⟨j, ds, gs, hj, rfl, HJ⟩ := hrel
        have hbc : wr.cell? ⟨w.heap.size, 0, none⟩ = some (.pointer (some ⟨b, 0, none⟩)) := cell_of (HJ.out.1.blk HQ1.out HNF.out) 0
        by_cases hjq : j < q
        · obtain ⟨x, hx⟩ := some_at (l := s.ls) (i := j) (by rw [← HLEN.out]; exact hjq)
          have hrow : wr.ownsRow w1.heap.size 3 1 (.slice A11 q c11) q (ivs .i64 (ints s.ls)) := by
            have h := HJ.out.1.row
            rw [← HLEN.out] at h
            exact h
          obtain ⟨p, rfl, hp1, hp2⟩ := (own_rk hrow).1 j x (ints_get hx)
          have HX := Lib.hid hx
          have hfl := Go.Proofs.YtichcdoijieddaaGreat.Pm.flush_any HJ.out.1.dev (x : Int) (by have := HJ.out.2.2; have h9 := hlsq; show ds.steps < _; omega)
          have HDR := Lib.hid (drop_next hx)
          have HFS := Lib.hid (flushed_steps ds (x : Int))
          clear hx hrow hj
          cases hok : ds.flushOk (x : Int) with
          | false =>
            rw [hok] at hfl
            have HF := Lib.hid hfl
            have HNO : Hid (flushGo (x :: s.ls.drop (j + 1)) ds s.k = (ds, none)) := by show (if ds.flushOk x then _ else _) = _; rw [hok]; rfl
            have HSN := Lib.hid (flushed_no hok)
            clear hok hfl
            go_wp2_with (go_at_call 104; refine HF.out.mono ?_; rintro e w3 ⟨rfl, hto⟩; (have HTO := Lib.hid hto); clear hto)
            go_ret2
            obtain ⟨g3, hv3⟩ := HJ.out.1.to HTO.out
            have hgo := HJ.out.2.1
            rw [HDR.out, HNO.out] at hgo
            have hd3 : DevTo w1 w3 b g ds := by
              have h9 := vs_to hv3
              rw [HSN.out] at h9
              exact h9
            exact put_bad ds hgo.symm (box_to HD.out (by rw [HW1.out]; exact hd3))
          | true =>
            rw [hok] at hfl
            have HF := Lib.hid hfl
            have HYES : Hid (flushGo (x :: s.ls.drop (j + 1)) ds s.k = flushGo (s.ls.drop (j + 1)) (ds.flushed x) s.k) := by show (if ds.flushOk x then _ else _) = _; rw [hok]; rfl
            clear hok hfl
            go_wp2_with (go_at_call 104; refine HF.out.mono ?_; rintro e w3 ⟨rfl, hto⟩; (obtain ⟨g3, hv3⟩ := HJ.out.1.to hto); (have HV3 := Lib.hid hv3); clear hto hv3)
            go_roundw
            case rel =>
              refine ⟨j + 1, ds.flushed x, g3, hjq, by go_num, HV3.out, ?_, ?_⟩
              · rw [← HYES.out, ← HDR.out]
                exact HJ.out.2.1
              · have := HFS.out
                have := HJ.out.2.2
                omega
            case measure => simp [intOf]; omega
        · obtain rfl : j = q := by omega
          go_wp2_with fail
          go_ret2
          have hgo := HJ.out.2.1
          rw [List.drop_of_length_le (by rw [← HLEN.out]; exact Nat.le_refl _)] at hgo
          rw [← HKK.out]
          exact put_ok ds hgo.symm (box_to HD.out (by rw [HW1.out]; exact vs_to HJ.out.1))

end Go.Proofs.YtichcdoijieddaaGreat.Vo
end

/- package slot: a stretch of blocks in a word. -/
section
set_option linter.unusedVariables false
set_option linter.unusedSimpArgs false
set_option maxHeartbeats 2000000
set_option maxRecDepth 100000
namespace Go.Proofs.YtichcdoijieddaaGreat.Lo
open Go Go.RowKit
open Go.Proofs.YtichcdoijieddaaGreat.Ob Go.Proofs.YtichcdoijieddaaGreat.Ba Go.Proofs.YtichcdoijieddaaGreat.Cr Go.Proofs.YtichcdoijieddaaGreat.C6 Go.Proofs.YtichcdoijieddaaGreat.Cc Go.Proofs.YtichcdoijieddaaGreat.Oc Go.Proofs.YtichcdoijieddaaGreat.Pk Go.Proofs.YtichcdoijieddaaGreat.Su

def sMay (s c n : Int) : Bool := decide (0 ≤ s ∧ s < 65534 ∧ 1 ≤ c ∧ c ≤ 65534 - s ∧ -1 ≤ n ∧ n < 65534)
def nx (n : Int) : Nat := if 0 ≤ n then n.toNat else 65535
def sSum (x : Nat) : Nat := sum6 65535 ((oct x).take 6)
def sEnc (s c n : Int) : Nat := word1 s.toNat c.toNat (nx n) + 281474976710656 * sSum (word1 s.toNat c.toNat (nx n))
theorem sSum_lt (x : Nat) : sSum x < 65536 := sum6_lt _ _ (by decide) fun y hy => oct_lt x y (List.mem_of_mem_take hy)

theorem may_ (s c n : Int) (w : World) : Calls Tryz.prog 124 #[.agg #[.int .i64 s, .int .i64 c, .int .i64 n]] w fun e w' => e = .returned (.bool (sMay s c n)) ∧ Below w.heap.size w w' := by
  have hu := Tryz.underlying88
  by_cases h : sMay s c n = true
  · rw [h]
    obtain ⟨h1, h2, h3, h4, h5, h6⟩ := of_decide_eq_true h
    clear h
    have q : wrap64 (65534 - s) = 65534 - s := w64 _ (by omega) (by omega)
    go_enter Tryz.func124, Tryz.ntmps124
    go_wp2
    go_ret
    exact ⟨rfl, bl_alloc (Below.refl _ _) _⟩
  · have hf : sMay s c n = false := by simpa using h
    rw [hf]
    rcases (by have := of_decide_eq_false hf; omega : s < 0 ∨ (0 ≤ s ∧ 65534 ≤ s) ∨ (0 ≤ s ∧ s < 65534 ∧ c < 1) ∨ (0 ≤ s ∧ s < 65534 ∧ 1 ≤ c ∧ 65534 - s < c) ∨ (0 ≤ s ∧ s < 65534 ∧ 1 ≤ c ∧ c ≤ 65534 - s ∧ n < -1) ∨ (0 ≤ s ∧ s < 65534 ∧ 1 ≤ c ∧ c ≤ 65534 - s ∧ -1 ≤ n ∧ 65534 ≤ n)) with h1 | ⟨h1, h2⟩ | ⟨h1, h2, h3⟩ | ⟨h1, h2, h3, h4⟩ | ⟨h1, h2, h3, h4, h5⟩ | ⟨h1, h2, h3, h4, h5, h6⟩
    all_goals
      clear h hf
      try have q : wrap64 (65534 - s) = 65534 - s := w64 _ (by omega) (by omega)
      try have q2 : decide (n < 65534) = false := decide_eq_false (by omega)
      go_enter Tryz.func124, Tryz.ntmps124
      go_wp2
      go_ret
      exact ⟨rfl, bl_alloc (Below.refl _ _) _⟩

/-- fields of one's own row -/
def fvs (l : List (Nat × Nat)) : List Value := l.flatMap fun p => [Value.int .i64 p.1, Value.int .u64 p.2]
theorem own_fs {W : World} {B T n c : Nat} {A : Option Addr} {l : List (Nat × Nat)} (h : W.ownsRow B T 2 (.slice A n c) n (fvs l)) (ho : ∀ p ∈ l, FOk p.1 p.2) (hl : l ≠ []) : FsAt W A l := by
  have key : ∀ (l : List (Nat × Nat)) (i : Nat) p, l[i]? = some p → (fvs l)[i * 2]? = some (.int .i64 p.1) ∧ (fvs l)[i * 2 + 1]? = some (.int .u64 p.2) := by
    intro l
    induction l with
    | nil => intro i p h; simp at h
    | cons a l ih =>
      intro i p h
      cases i with
      | zero => simp at h; subst h; simp [fvs]
      | succ i =>
        rw [List.getElem?_cons_succ] at h
        obtain ⟨h1, h2⟩ := ih i p h
        unfold fvs at h1 h2 ⊢
        rw [List.flatMap_cons]
        rw [show (i + 1) * 2 = i * 2 + 2 from by omega, show i * 2 + 2 + 1 = (i * 2 + 1) + 2 from by omega]
        simp only [List.cons_append, List.nil_append, List.getElem?_cons_succ]
        exact ⟨h1, h2⟩
  intro i p hi
  obtain ⟨k1, k2⟩ := key l i p hi
  refine ⟨ho p (List.mem_of_getElem? hi), ?_⟩
  obtain ⟨h1, ⟨h2, h3⟩ | ⟨g, cap, cur, hv, hg, hb, hn, hm, hs, ht⟩⟩ := h
  · exfalso
    subst h3
    cases l with
    | nil => exact hl rfl
    | cons a l => simp [fvs] at h1
  · simp only [Value.slice.injEq, true_and] at hv
    obtain ⟨rfl, rfl⟩ := hv
    refine ⟨g, 0, rfl, lt_of hb, ?_, ?_⟩
    · rw [cell_of hb, Nat.zero_add]
      rw [← ht, List.getElem?_take] at k1
      split at k1
      · simpa using k1
      · cases k1
    · rw [cell_of hb, Nat.zero_add]
      rw [← ht, List.getElem?_take] at k2
      split at k2
      · simpa using k2
      · cases k2

theorem encode_no (s c n : Int) (h : sMay s c n = false) (w : World) :
    Calls Tryz.prog 96 #[.agg #[.int .i64 s, .int .i64 c, .int .i64 n]] w fun e w' => e = .returned (.tuple #[.int .u64 0, .int .i64 1]) ∧ Below w.heap.size w w' := by
  have hu := Tryz.underlying88
  have hm := may_ s c n
  rw [h] at hm
  have HM := Lib.hid hm
  clear h hm
  go_enter Tryz.func96, Tryz.ntmps96
  go_wp2_with (go_at_call 124; refine (HM.out _).mono ?_; rintro e w1 ⟨rfl, hb⟩; (have HB := Lib.hid hb); clear hb)
  go_ret2
  exact ⟨rfl, bl_then (bl_alloc (Below.refl _ _) _) HB.out⟩

theorem two_at (w : World) (u v : Value) (T : TypeId) : ∀ (j : Nat) z, [u, v][j]? = some z → (w.alloc (.cells #[u, v] T)).cell? ((⟨w.heap.size, 0, none⟩ : Addr).add j) = some z := by
  intro j z hj
  rw [Addr.add_lit, cell_of (alloc_new w _), Nat.zero_add]
  simpa using hj
theorem info_f : (Tryz.prog.info? 163).map (fun i => (i.zero, i.size, i.bytes)) = some (some (.agg #[.int .i64 0, .int .u64 0]), 2, 16) := by kernel_rfl

theorem encode_nat (a b : Nat) (n : Int) (k : Nat) (hk : k = nx n) (h : sMay a b n = true) (w : World) :
    Calls Tryz.prog 96 #[.agg #[.int .i64 a, .int .i64 b, .int .i64 n]] w fun e w' => e = .returned (.tuple #[.int .u64 (word1 a b k + 281474976710656 * sSum (word1 a b k) : Nat), .int .i64 0]) ∧ Below w.heap.size w w' := by
  have hu := Tryz.underlying88
  have huf := Tryz.underlying163
  have hmay := may_ a b n
  rw [h] at hmay
  have HM := Lib.hid hmay
  obtain ⟨h1, h2, h3, h4, h5, h6⟩ := of_decide_eq_true h
  have ha : a < 65536 := by omega
  have hb : b < 65536 := by omega
  have hc : k < 65536 := by rw [hk]; unfold nx; split <;> omega
  have q1 : IntKind.u64.wrap (a : Int) = a := wu64 _ (by omega) (by omega)
  have q2 : IntKind.u64.wrap (b : Int) = b := wu64 _ (by omega) (by omega)
  have q3 : IntKind.u64.wrap (k : Int) = k := wu64 _ (by omega) (by omega)
  have HF := Lib.hid (And.intro (f16 ha) (And.intro (f16 hb) (f16 hc)))
  have hw1 : word1 a b k < 18446744073709551616 := by unfold word1; omega
  have hpv : pv [(16, a), (16, b), (16, k)] = word1 a b k := by simp [pv, word1]; omega
  generalize hx : word1 a b k = x at *
  have hs6 : sSum x < 65536 := sSum_lt x
  have hpv4 : pv [(16, a), (16, b), (16, k), (16, sSum x)] = x + 281474976710656 * sSum x := by rw [← hpv]; simp [pv]; omega
  have hsi : (sum6 65535 (allOf [⟨none, 0, (oct x).take 6⟩]) : Nat) = sSum x := by simp [allOf, sSum]
  have HPV := Lib.hid (And.intro hpv hpv4)
  have hn : (0 ≤ n ∧ n = (k : Int)) ∨ (n < 0 ∧ k = 65535) := by rw [hk]; unfold nx; split <;> omega
  have q4 : IntKind.u64.wrap (sSum x : Int) = sSum x := wu64 _ (by omega) (by omega)
  clear h hmay h1 h2 h3 h4 h5 h6 hpv hpv4 hk hsi
  generalize hss : sSum x = y at *
  rcases hn with ⟨hn, hn2⟩ | ⟨hn, hn2⟩
  · subst hn2
    have HSS := Lib.hid hss
    have HX := Lib.hid hx
    clear hss hx
    go_enter Tryz.func96, Tryz.ntmps96
    go_wp2_with (go_at_call 124; refine (HM.out _).mono ?_; rintro e w1 ⟨rfl, hb⟩; (obtain ⟨hc, hf⟩ := bcell hb); (have hz := hb.size); simp only [World.size_alloc] at hz; (have hz1 : w.heap.size < w1.heap.size := by omega); (have HB := Lib.hid hb); clear hb hf hz)
    have hfs : FsAt (w1.alloc (.cells #[.int .i64 16, .int .u64 a, .int .i64 16, .int .u64 b, .int .i64 16, .int .u64 k] 163)) (some ⟨w1.heap.size, 0, none⟩) [(16, a), (16, b), (16, k)] := by
      refine fields_at (T := 163) (fr := (0, 0)) (alloc_new _ _) ?_
      intro p hp
      simp only [List.mem_cons, List.not_mem_nil, or_false] at hp
      rcases hp with rfl | rfl | rfl
      · exact HF.out.1
      · exact HF.out.2.1
      · exact HF.out.2.2
    have hpk := pack_ hfs 3 (by simp [wid]) (by simp)
    rw [HPV.out.1] at hpk
    refine (show Calls _ _ #[.slice (some ⟨w1.heap.size, 0, none⟩) 3 3] _ _ from hpk).mono ?_
    clear hfs hpk hc
    rintro e w2 ⟨rfl, hb2⟩
    have hz2 := hb2.size
    simp only [World.size_alloc] at hz2
    have hz3 : w1.heap.size < w2.heap.size := by omega
    have hrow : w2.ownsRow w.heap.size 163 2 (.slice (some ⟨w1.heap.size, 0, none⟩) 3 3) 3 (fvs [(16, a), (16, b), (16, k)]) :=
      ⟨rfl, .inr ⟨w1.heap.size, 3, _, rfl, by omega, blk_bl (alloc_new w1 _) hb2, by omega, by unfold maxLen; omega, rfl, rfl⟩⟩
    have HROW := Lib.hid hrow
    have HB2 := Lib.hid (bl_then (bl_alloc (bl_then (bl_alloc (Below.refl _ _) _) HB.out) _) hb2)
    clear hb2 hz2 hrow
    go_wp2_with fail
    have hone : Rk .u64 (w2.alloc (.cells #[.int .u64 x] 60)) (some ⟨w2.heap.size, 0, none⟩) (ints [x]) := by
      refine blk_rk (alloc_new w2 (.cells #[.int .u64 x] 60)) fun i z hz => ?_
      match i with
      | 0 => simpa [ints] using hz
      | i + 1 => simp [ints] at hz
    refine (bytes_ hone (by intro z hz; simp at hz; subst hz; exact hw1) 1 (by simp)).mono ?_
    rintro e w3 ⟨v3, rfl, hown3, hb3⟩
    obtain ⟨A3, c3, rfl⟩ := own_slice hown3
    obtain ⟨hrk3, -, hc3⟩ := own_rk hown3
    have hb3' : Below w2.heap.size w2 w3 := bl_then (bl_alloc (Below.refl _ _) _) hb3
    obtain ⟨q3a, rfl, -, -⟩ := own_at (i := 0) (x := ((x % 256 : Nat) : Int)) hown3 (by simp [ints, octs, oct])
    have HROW3 := Lib.hid (own_bl HROW.out hb3')
    have HB3 := Lib.hid (bl_then HB2.out hb3')
    have hz4 := hb3'.size
    have hrk6 : Rk .u8 w3 (some ⟨q3a, 0, none⟩) (ints ((oct x).take 6)) := by
      have := hrk3.take 6
      rw [← ints_take, show octs [x] = oct x from by simp [octs]] at this
      exact this
    have HRK := Lib.hid hrk6
    replace hc3 : 8 ≤ c3 := hc3
    have hc4 : ¬ ((c3 : Int) < 6) := by omega
    clear hone hown3 hb3 hb3' hrk3 hrk6
    go_wp2_with fail
    have hps : PsAt (w3.alloc (.cells #[.slice (some ⟨q3a, 0, none⟩) 6 c3] 95)) (some ⟨w3.heap.size, 0, none⟩) [⟨some ⟨q3a, 0, none⟩, c3, (oct x).take 6⟩] := by
      intro i p hp
      match i with
      | 0 =>
        simp at hp
        subst hp
        exact ⟨⟨HRK.out.below (bl_alloc (Below.refl _ _) _), fun z hz => oct_lt x z (List.mem_of_mem_take hz), by simp [oct]⟩, _, rfl, one_at _ _ _ 0 _ rfl⟩
      | i + 1 => simp at hp
    have hsum := sum16_ hps 1 (by simp)
    rw [show allOf [(⟨some ⟨q3a, 0, none⟩, c3, (oct x).take 6⟩ : Part)] = (oct x).take 6 from by simp [allOf], show (sum6 65535 ((oct x).take 6)) = y from HSS.out] at hsum
    have HSM := Lib.hid hsum
    clear hps hsum
    refine HSM.out.mono ?_
    rintro e w4 ⟨rfl, hw4⟩
    have HB4 : Hid (Below w.heap.size w w4) := by rw [← hw4]; exact bl_alloc HB3.out _
    have HROW4 : Hid (w4.ownsRow w.heap.size 163 2 (.slice (some ⟨w1.heap.size, 0, none⟩) 3 3) 3 (fvs [(16, a), (16, b), (16, k)])) := by
      rw [← hw4]; exact own_bl HROW3.out (bl_alloc (Below.refl _ _) _)
    clear hw4 HSM HROW3 HROW HRK
    have HOW := Lib.hid (fun o => own_kp (W' := w4.alloc o) HROW4.out (fun k _ hk => Below.heap_alloc _ _ k hk))
    obtain ⟨i0, hinf, hz0, hz1, hz2⟩ := info_parts info_f
    go_wp2_with (at_builtin; refine wpList_append_own _ rfl (.tmp 41) (.tmp 45) 180 rfl w.heap.size 163 i0 (.agg #[.int .i64 0, .int .u64 0]) 2 16 Tryz.underlying180 hinf hz0 hz1 hz2 rfl (by decide) _ 3 _ rfl (HOW.out _) ⟨w4.heap.size, 0, none⟩ 1 1 [.int .i64 16, .int .u64 y] rfl rfl (two_at _ _ _ _) (by intro u hu; simp at hu; rcases hu with rfl | rfl <;> rfl) (by unfold maxLen; omega) (by omega) (by have h1 := HB4.out.size; simp; omega) ?_; intro v5 w5 hown5 hgrow5 _; (obtain ⟨A5, c5, rfl⟩ := own_slice hown5); (have HO := Lib.hid hown5); (have HG := Lib.hid hgrow5); clear hown5 hgrow5)
    have hfs4 : FsAt w5 A5 [(16, a), (16, b), (16, k), (16, y)] := by
      refine own_fs (l := [(16, a), (16, b), (16, k), (16, y)]) HO.out ?_ (by simp)
      intro p hp
      simp only [List.mem_cons, List.not_mem_nil, or_false] at hp
      rcases hp with rfl | rfl | rfl | rfl
      · exact HF.out.1
      · exact HF.out.2.1
      · exact HF.out.2.2
      · exact f16 hs6
    have hpk4 := pack_ hfs4 c5 (by simp [wid]) (by simp)
    rw [HPV.out.2] at hpk4
    refine (show Calls _ _ #[.slice A5 4 c5] _ _ from hpk4).mono ?_
    rintro e w6 ⟨rfl, hb6⟩
    have HB6 := Lib.hid (bl_then (bl_grown (bl_alloc HB4.out _) HG.out (own_lo HROW4.out)) hb6)
    clear hfs4 hpk4 hb6
    go_wp2_with fail
    go_ret2
    exact ⟨rfl, HB6.out⟩
  · subst hn2
    have HSS := Lib.hid hss
    have HX := Lib.hid hx
    clear hss hx
    go_enter Tryz.func96, Tryz.ntmps96
    go_wp2_with (go_at_call 124; refine (HM.out _).mono ?_; rintro e w1 ⟨rfl, hb⟩; (obtain ⟨hc, hf⟩ := bcell hb); (have hz := hb.size); simp only [World.size_alloc] at hz; (have hz1 : w.heap.size < w1.heap.size := by omega); (have HB := Lib.hid hb); clear hb hf hz)
    have hfs : FsAt (w1.alloc (.cells #[.int .i64 16, .int .u64 a, .int .i64 16, .int .u64 b, .int .i64 16, .int .u64 65535] 163)) (some ⟨w1.heap.size, 0, none⟩) [(16, a), (16, b), (16, 65535)] := by
      refine fields_at (T := 163) (fr := (0, 0)) (alloc_new _ _) ?_
      intro p hp
      simp only [List.mem_cons, List.not_mem_nil, or_false] at hp
      rcases hp with rfl | rfl | rfl
      · exact HF.out.1
      · exact HF.out.2.1
      · exact HF.out.2.2
    have hpk := pack_ hfs 3 (by simp [wid]) (by simp)
    rw [HPV.out.1] at hpk
    refine (show Calls _ _ #[.slice (some ⟨w1.heap.size, 0, none⟩) 3 3] _ _ from hpk).mono ?_
    clear hfs hpk hc
    rintro e w2 ⟨rfl, hb2⟩
    have hz2 := hb2.size
    simp only [World.size_alloc] at hz2
    have hz3 : w1.heap.size < w2.heap.size := by omega
    have hrow : w2.ownsRow w.heap.size 163 2 (.slice (some ⟨w1.heap.size, 0, none⟩) 3 3) 3 (fvs [(16, a), (16, b), (16, 65535)]) :=
      ⟨rfl, .inr ⟨w1.heap.size, 3, _, rfl, by omega, blk_bl (alloc_new w1 _) hb2, by omega, by unfold maxLen; omega, rfl, rfl⟩⟩
    have HROW := Lib.hid hrow
    have HB2 := Lib.hid (bl_then (bl_alloc (bl_then (bl_alloc (Below.refl _ _) _) HB.out) _) hb2)
    clear hb2 hz2 hrow
    go_wp2_with fail
    have hone : Rk .u64 (w2.alloc (.cells #[.int .u64 x] 60)) (some ⟨w2.heap.size, 0, none⟩) (ints [x]) := by
      refine blk_rk (alloc_new w2 (.cells #[.int .u64 x] 60)) fun i z hz => ?_
      match i with
      | 0 => simpa [ints] using hz
      | i + 1 => simp [ints] at hz
    refine (bytes_ hone (by intro z hz; simp at hz; subst hz; exact hw1) 1 (by simp)).mono ?_
    rintro e w3 ⟨v3, rfl, hown3, hb3⟩
    obtain ⟨A3, c3, rfl⟩ := own_slice hown3
    obtain ⟨hrk3, -, hc3⟩ := own_rk hown3
    have hb3' : Below w2.heap.size w2 w3 := bl_then (bl_alloc (Below.refl _ _) _) hb3
    obtain ⟨q3a, rfl, -, -⟩ := own_at (i := 0) (x := ((x % 256 : Nat) : Int)) hown3 (by simp [ints, octs, oct])
    have HROW3 := Lib.hid (own_bl HROW.out hb3')
    have HB3 := Lib.hid (bl_then HB2.out hb3')
    have hz4 := hb3'.size
    have hrk6 : Rk .u8 w3 (some ⟨q3a, 0, none⟩) (ints ((oct x).take 6)) := by
      have := hrk3.take 6
      rw [← ints_take, show octs [x] = oct x from by simp [octs]] at this
      exact this
    have HRK := Lib.hid hrk6
    replace hc3 : 8 ≤ c3 := hc3
    have hc4 : ¬ ((c3 : Int) < 6) := by omega
    clear hone hown3 hb3 hb3' hrk3 hrk6
    go_wp2_with fail
    have hps : PsAt (w3.alloc (.cells #[.slice (some ⟨q3a, 0, none⟩) 6 c3] 95)) (some ⟨w3.heap.size, 0, none⟩) [⟨some ⟨q3a, 0, none⟩, c3, (oct x).take 6⟩] := by
      intro i p hp
      match i with
      | 0 =>
        simp at hp
        subst hp
        exact ⟨⟨HRK.out.below (bl_alloc (Below.refl _ _) _), fun z hz => oct_lt x z (List.mem_of_mem_take hz), by simp [oct]⟩, _, rfl, one_at _ _ _ 0 _ rfl⟩
      | i + 1 => simp at hp
    have hsum := sum16_ hps 1 (by simp)
    rw [show allOf [(⟨some ⟨q3a, 0, none⟩, c3, (oct x).take 6⟩ : Part)] = (oct x).take 6 from by simp [allOf], show (sum6 65535 ((oct x).take 6)) = y from HSS.out] at hsum
    have HSM := Lib.hid hsum
    clear hps hsum
    refine HSM.out.mono ?_
    rintro e w4 ⟨rfl, hw4⟩
    have HB4 : Hid (Below w.heap.size w w4) := by rw [← hw4]; exact bl_alloc HB3.out _
    have HROW4 : Hid (w4.ownsRow w.heap.size 163 2 (.slice (some ⟨w1.heap.size, 0, none⟩) 3 3) 3 (fvs [(16, a), (16, b), (16, 65535)])) := by
      rw [← hw4]; exact own_bl HROW3.out (bl_alloc (Below.refl _ _) _)
    clear hw4 HSM HROW3 HROW HRK
    have HOW := Lib.hid (fun o => own_kp (W' := w4.alloc o) HROW4.out (fun k _ hk => Below.heap_alloc _ _ k hk))
    obtain ⟨i0, hinf, hz0, hz1, hz2⟩ := info_parts info_f
    go_wp2_with (at_builtin; refine wpList_append_own _ rfl (.tmp 41) (.tmp 45) 180 rfl w.heap.size 163 i0 (.agg #[.int .i64 0, .int .u64 0]) 2 16 Tryz.underlying180 hinf hz0 hz1 hz2 rfl (by decide) _ 3 _ rfl (HOW.out _) ⟨w4.heap.size, 0, none⟩ 1 1 [.int .i64 16, .int .u64 y] rfl rfl (two_at _ _ _ _) (by intro u hu; simp at hu; rcases hu with rfl | rfl <;> rfl) (by unfold maxLen; omega) (by omega) (by have h1 := HB4.out.size; simp; omega) ?_; intro v5 w5 hown5 hgrow5 _; (obtain ⟨A5, c5, rfl⟩ := own_slice hown5); (have HO := Lib.hid hown5); (have HG := Lib.hid hgrow5); clear hown5 hgrow5)
    have hfs4 : FsAt w5 A5 [(16, a), (16, b), (16, 65535), (16, y)] := by
      refine own_fs (l := [(16, a), (16, b), (16, 65535), (16, y)]) HO.out ?_ (by simp)
      intro p hp
      simp only [List.mem_cons, List.not_mem_nil, or_false] at hp
      rcases hp with rfl | rfl | rfl | rfl
      · exact HF.out.1
      · exact HF.out.2.1
      · exact HF.out.2.2
      · exact f16 hs6
    have hpk4 := pack_ hfs4 c5 (by simp [wid]) (by simp)
    rw [HPV.out.2] at hpk4
    refine (show Calls _ _ #[.slice A5 4 c5] _ _ from hpk4).mono ?_
    rintro e w6 ⟨rfl, hb6⟩
    have HB6 := Lib.hid (bl_then (bl_grown (bl_alloc HB4.out _) HG.out (own_lo HROW4.out)) hb6)
    clear hfs4 hpk4 hb6
    go_wp2_with fail
    go_ret2
    exact ⟨rfl, HB6.out⟩

theorem encode_yes (s c n : Int) (h : sMay s c n = true) (w : World) :
    Calls Tryz.prog 96 #[.agg #[.int .i64 s, .int .i64 c, .int .i64 n]] w fun e w' => e = .returned (.tuple #[.int .u64 (sEnc s c n : Nat), .int .i64 0]) ∧ Below w.heap.size w w' := by
  obtain ⟨h1, h2, h3, h4, h5, h6⟩ := of_decide_eq_true h
  obtain ⟨a, rfl⟩ := Int.eq_ofNat_of_zero_le h1
  obtain ⟨b, rfl⟩ := Int.eq_ofNat_of_zero_le (a := c) (by omega)
  exact encode_nat a b n _ rfl h w

end Go.Proofs.YtichcdoijieddaaGreat.Lo
end
