/- Parts of the proof, one behind the other: Vq, Vo, Vr, Rc, Re, Rg. -/
import Derived.Test.YtgnagbbdnlmgeaaGreatC13
import Derived.Test.YtgnagbbdnlmgeaaGreatC10
import Derived.Test.YtgnagbbdnlmgeaaGreatC06
import Derived.Test.YtgnagbbdnlmgeaaGreatC12

/- volume.put (printed by genvq.py). -/
section
set_option linter.unusedVariables false
set_option linter.unusedSimpArgs false
set_option maxHeartbeats 2000000
set_option maxRecDepth 100000
namespace Go.Proofs.YtgnagbbdnlmgeaaGreat.Vo
open Go Go.RowKit
open Go.Proofs.YtgnagbbdnlmgeaaGreat.Ob Go.Proofs.YtgnagbbdnlmgeaaGreat.Ba Go.Proofs.YtgnagbbdnlmgeaaGreat.Oc Go.Proofs.YtgnagbbdnlmgeaaGreat.Pk Go.Proofs.YtgnagbbdnlmgeaaGreat.Dv Go.Proofs.YtgnagbbdnlmgeaaGreat.Su Go.Proofs.YtgnagbbdnlmgeaaGreat.Mp

theorem info_i64 : (Tryz.prog.info? 3).map (fun i => (i.zero, i.size, i.bytes)) = some (some (.int .i64 0), 1, 8) := by kernel_rfl

def ecode (R : Dev × Option Nat) : Int := if R.2.isSome then 0 else 14
def PutIs (w : World) (b : Nat) (g : Lay) (R : Dev × Option Nat) (e : Ending) (w' : World) : Prop :=
  e = .returned (.tuple #[.int .i64 (R.2.getD 0 : Nat), .int .i64 (ecode R)]) ∧ DevTo w w' b g R.1
theorem put_ok {w w' : World} {b k : Nat} {g : Lay} {R : Dev × Option Nat} (d : Dev) (h : R = (d, some k)) (hd : DevTo w w' b g d) : PutIs w b g R (.returned (.tuple #[.int .i64 k, .int .i64 0])) w' := by subst h; exact ⟨rfl, hd⟩
theorem put_bad {w w' : World} {b : Nat} {g : Lay} {R : Dev × Option Nat} (d : Dev) (h : R = (d, none)) (hd : DevTo w w' b g d) : PutIs w b g R (.returned (.tuple #[.int .i64 0, .int .i64 14])) w' := by subst h; exact ⟨rfl, hd⟩

/-- what the first loop keeps -/
structure Lp (w wr : World) (b : Nat) (g : Lay) (all : Bool) (a : Nat) (l : List Int) (d0 : Dev) (R : Dev × Option Nat) (i : Nat) (c : Value) (s : Ps) (g' : Lay) : Prop where
  vs : Vs w wr b g c s g'
  go : putGo all (l.drop i) (a + i) s = R
  steps : s.d.steps ≤ d0.steps + i
  kk : s.k ≤ i
  ll : s.ls.length ≤ i
  lo : ∀ x ∈ s.ls, x ≤ 2000000000

/-- behind a box -/
theorem box_to {w w' : World} {b : Nat} {g : Lay} {o : Obj} {d : Dev} {d0 : Dev} (h : DevIs w b d0 g) (k : DevTo (w.alloc o) w' b g d) : DevTo w w' b g d := by
  obtain ⟨g2, h1, h2, h3⟩ := k
  refine ⟨g2, h1, fun x hx => ?_, (Upd.of_below (F := g.foot b) (bl_alloc (Below.refl _ _) o)).trans h3 (fun x hx => .inl hx)⟩
  rcases h2 x hx with r | r
  · exact .inl r
  · right
    simp at r
    omega

theorem vs_to {w wr : World} {b : Nat} {g g' : Lay} {c : Value} {s : Ps} (h : Vs w wr b g c s g') : DevTo w wr b g s.d := ⟨g', h.dev, h.foot, h.upd⟩

theorem lp_next {w wr wr2 : World} {b : Nat} {g : Lay} {all : Bool} {a : Nat} {l : List Int} {d0 : Dev} {R : Dev × Option Nat} {i k : Nat} {c c2 : Value} {s s2 : Ps} {g' g2 : Lay} {x : Int} (h : Lp w wr b g all a l d0 R i c s g') (hx : l[i]? = some x) (hk : k = a + i)
    (hgo : putGo all (x :: l.drop (i + 1)) k s = putGo all (l.drop (i + 1)) (k + 1) s2) (hv : Vs w wr2 b g c2 s2 g2) (h1 : s2.d.steps ≤ s.d.steps + 1) (h2 : s2.k ≤ s.k + 1) (h3 : s2.ls.length ≤ s.ls.length + 1) (h4 : ∀ u ∈ s2.ls, u ≤ 2000000000) : Lp w wr2 b g all a l d0 R (i + 1) c2 s2 g2 := by
  have e1 := h.steps
  have e2 := h.kk
  have e3 := h.ll
  refine ⟨hv, ?_, by omega, by omega, by omega, h4⟩
  rw [show a + (i + 1) = k + 1 from by omega, ← hgo, hk, ← drop_next hx]
  exact h.go

theorem last_get {ls : List Nat} {y : Nat} (h : ls.getLast? = some y) : ls[ls.length - 1]? = some y := by rw [← List.getLast?_eq_getElem?]; exact h

theorem put_all {w : World} {b : Nat} {d : Dev} {g : Lay} (h : DevIs w b d g) {A : Option Addr} {l : List Int} (hr : Rk .u64 w A l) (hA : ∀ p, A = some p → p.block ∉ g.foot b) (a c : Nat) (ha : a ≤ 1000000000) (hn : l.length ≤ 1000000) (hst : d.steps ≤ 1000000000)
    (R : Dev × Option Nat) (hR : putGo true l a ⟨d, 0, []⟩ = R) :
    Calls Tryz.prog 104 #[.agg #[.pointer (some ⟨b, 0, none⟩)], .int .i64 a, .slice A l.length c, .bool true] w fun e w' => PutIs w b g R e w' := by
  have hu := Tryz.underlying138
  have HD := Lib.hid h
  have HRK := Lib.hid hr
  have HA := Lib.hid hA
  have HST := Lib.hid hst
  have HRR := Lib.hid hR
  obtain ⟨n, hnn⟩ : ∃ n, n = l.length := ⟨_, rfl⟩
  rw [← hnn]
  rw [← hnn] at hn
  have HN := Lib.hid hnn
  clear h hr hA hst hR hnn
  obtain ⟨i0, hinf, hz0, hz1, hz2⟩ := info_parts info_i64
  go_enter Tryz.func104, Tryz.ntmps104
  go_wp2_with fail
  generalize hw1 : w.alloc (.cells #[.pointer (some ⟨b, 0, none⟩)] 138) = w1
  have HW1 := Lib.hid hw1
  have HB1 : Hid (Below w.heap.size w w1) := by rw [← hw1]; exact bl_alloc (Below.refl _ _) _
  have HQ1 : Hid (w1.heap[w.heap.size]? = some (.cells #[.pointer (some ⟨b, 0, none⟩)] 138 (0, 0))) := by rw [← hw1]; exact alloc_new _ _
  have HD1 : Hid (DevIs w1 b d g) := HD.out.below HB1.out
  have HNF : Hid (w.heap.size ∉ g.foot b) := fun hm => Nat.lt_irrefl _ (HD.out.lt _ hm)
  have HRK1 : Hid (Rk .u64 w1 A l) := HRK.out.below HB1.out
  clear hw1 HRK
  go_loopw [10, 11, 20] (fun c10 c11 c20 wr => ∃ (i : Nat) (s : Ps) (g' : Lay), i ≤ n ∧ c20 = .int .i64 i ∧ c10 = .int .i64 s.k ∧ Hid (Lp w1 wr b g true a l d R i c11 s g')) (fun _ _ c20 _ => n - (intOf c20).toNat)
  case atStart =>
    refine ⟨0, ⟨d, 0, []⟩, g, Nat.zero_le _, rfl, rfl, ⟨⟨HD1.out, fun k hk => .inl hk, Upd.refl _ _, ?_⟩, by rw [List.drop_zero]; exact HRR.out, Nat.le_refl _, Nat.le_refl _, Nat.le_refl _, by simp⟩⟩
    have := own_nil0 w1 w1.heap.size 3 1
    simpa [ints, ivs] using this
  case round =>
    obtain ⟨i, s, g', hi, rfl, rfl, HL⟩ := hrel
    have HV := Lib.hid HL.out.vs
    obtain ⟨q, hq⟩ : ∃ q, q = s.ls.length := ⟨_, rfl⟩
    have hrow := HV.out.row
    rw [← hq] at hrow
    obtain ⟨A11, c11, e11⟩ := own_slice hrow
    have HLEN := Lib.hid hq
    have hlsq : q ≤ 1000000 := by have := HL.out.ll; omega
    clear hrow hq
    subst e11
    have hbc : wr.cell? ⟨w.heap.size, 0, none⟩ = some (.pointer (some ⟨b, 0, none⟩)) := cell_of (HV.out.blk HQ1.out HNF.out) 0
    by_cases hlt : i < n
    · obtain ⟨x, hx⟩ := some_at (l := l) (i := i) (by rw [← HN.out]; exact hlt)
      obtain ⟨p, rfl, hp1, hp2⟩ := HV.out.data HRK1.out HA.out i x hx
      have HX := Lib.hid hx
      obtain ⟨k, hk⟩ : ∃ k, k = a + i := ⟨_, rfl⟩
      have HK := Lib.hid hk
      clear hx hi hk
      have HKP : Hid (keepW true s.d k x = false) := rfl

      have hst := Go.Proofs.YtgnagbbdnlmgeaaGreat.Pm.store_any HV.out.dev ((a : Int) + i) x (by have := HL.out.steps; have := HST.out; omega)
      rw [show s.d.storeOk ((a : Int) + i) = s.d.storeOk (k : Int) from by rw [HK.out]; rfl, show s.d.stored ((a : Int) + i) x = s.d.stored (k : Int) x from by rw [HK.out]; rfl] at hst
      have HS := Lib.hid hst
      clear hst
      cases hok : s.d.storeOk (k : Int) with
      | false =>
        rw [hok] at HS
        have HNO := Lib.hid (putGo_fail (r := l.drop (i + 1)) HKP.out hok)
        have HSN := Lib.hid (stored_no (x := x) hok)
        clear hok
        go_wp2_with (go_at_call 152; refine HS.out.mono ?_; rintro e w3 ⟨rfl, hto⟩; (have HTO := Lib.hid hto); clear hto)
        go_ret2
        have hgo := HL.out.go
        rw [drop_next HX.out, ← HK.out, HNO.out] at hgo
        obtain ⟨g3, hv3⟩ := HV.out.to HTO.out
        rw [HSN.out] at hv3
        exact put_bad s.d hgo.symm (box_to HD.out (by rw [HW1.out]; exact vs_to hv3))
      | true =>
        rw [hok] at HS
        have HYES := Lib.hid (putGo_store (r := l.drop (i + 1)) HKP.out hok)
        have HSS := Lib.hid (stored_steps s.d (k : Int) x)
        clear hok
        obtain ⟨z, hz⟩ : ∃ z : Nat, z = k / 8 := ⟨_, rfl⟩
        have HZ := Lib.hid hz
        have hz8 : ((a : Int) + i) / 8 = (z : Int) := by have := HK.out; omega
        clear hz
        have hkq : s.k < 1000000 := by have := HL.out.kk; omega
        obtain ⟨kk, hsk⟩ : ∃ kk, kk = s.k := ⟨_, rfl⟩
        rw [← hsk]
        rw [← hsk] at hkq
        have HSK := Lib.hid hsk
        clear hsk
        rcases hls : s.ls.getLast? with _ | y
        · have hnil : s.ls = [] := List.getLast?_eq_none_iff.1 hls
          have HADD : Hid (addLn s.ls (k / 8) = s.ls ++ [z]) := by rw [← HZ.out]; unfold addLn; rw [hls]; rfl
          have hq0 : q = 0 := by rw [HLEN.out, hnil]; rfl
          have e9 : ((q : Int) == 0) = true := by rw [beq_iff_eq]; omega
          have HQ0 := Lib.hid hq0
          clear hnil hq0 hls
          go_wp2_with (first | (go_at_call 152; refine HS.out.mono ?_; rintro e w3 ⟨rfl, hto⟩; (obtain ⟨g3, hv3⟩ := HV.out.to hto); (have hrow3 : w3.ownsRow w1.heap.size 3 1 (.slice A11 q c11) s.ls.length (ivs .i64 (ints s.ls)) := hv3.row); rw [← HLEN.out] at hrow3; (have HV3 := Lib.hid hv3); (have HOW := Lib.hid (fun o => own_kp (W' := w3.alloc o) hrow3 (fun k _ hk => Below.heap_alloc _ _ k hk))); (have HSZ := Lib.hid hv3.upd.size); clear hto hv3 hrow3) |
            (at_builtin; refine wpList_append_own _ rfl (.tmp 60) (.tmp 63) 79 rfl w1.heap.size 3 i0 (.int .i64 0) 1 8 Tryz.underlying79 hinf hz0 hz1 hz2 rfl (by decide) _ q _ rfl (HOW.out _) ⟨w3.heap.size, 0, none⟩ 1 1 [.int .i64 z] rfl rfl (one_at _ _ _) (by intro u hu; simp at hu; subst hu; rfl) (by unfold maxLen; omega) (by omega) (by have := HSZ.out; simp; omega) ?_; intro v' w7 hown' hgrow _; (obtain ⟨A9, c9, rfl⟩ := own_slice hown'); (have HO := Lib.hid hown'); (have HG := Lib.hid hgrow); clear hown' hgrow))
          go_roundw
          case rel =>
            refine ⟨i + 1, ⟨s.d.stored k x, s.k + 1, s.ls ++ [z]⟩, g3, hlt, by go_num, by have := HSK.out; go_num, lp_next HL.out HX.out HK.out (by rw [← HADD.out]; exact HYES.out) (HV3.out.grown _ HG.out ?_ _) HSS.out (Nat.le_refl _) (by simp) ?_⟩
            · have h9 := HO.out
              rw [ints_append, ivs_append, List.length_append, ← HLEN.out]
              exact h9
            · intro u hu
              rcases List.mem_append.1 hu with h9 | h9
              · exact HL.out.lo u h9
              · simp at h9
                have := HZ.out
                have := HK.out
                omega
          case measure => simp [intOf]; omega
        · have hq1 : 1 ≤ q := by
            rw [HLEN.out]
            cases hc : s.ls with
            | nil => rw [hc] at hls; cases hls
            | cons u v => simp
          obtain ⟨r, hr⟩ : ∃ r, q = r + 1 := ⟨q - 1, by omega⟩
          have hyr : s.ls[r]? = some y := by
            have h1 := last_get hls
            rw [← HLEN.out, hr] at h1
            exact h1
          subst hr
          have e9 : (((r + 1 : Nat) : Int) == 0) = false := by rw [beq_eq_false_iff_ne]; omega
          have hrow2 : wr.ownsRow w1.heap.size 3 1 (.slice A11 (r + 1 : Nat) c11) (r + 1) (ivs .i64 (ints s.ls)) := by
            have h := HV.out.row
            rw [← HLEN.out] at h
            exact h
          obtain ⟨g11, rfl, -, -⟩ := own_at hrow2 (ints_get hyr)
          have HYR := Lib.hid hyr
          have HLS := Lib.hid hls
          have hlsr : r + 1 ≤ 1000000 := hlsq
          clear hq1 hyr hls hrow2 hlsq
          by_cases hyz : y = z
          · subst hyz
            have HADD : Hid (addLn s.ls (k / 8) = s.ls) := by show _ = _; rw [← HZ.out]; unfold addLn; rw [HLS.out, if_pos rfl]
            go_wp2_with (first | (go_at_call 152; refine HS.out.mono ?_; rintro e w3 ⟨rfl, hto⟩; (obtain ⟨g3, hv3⟩ := HV.out.to hto); (have hrow3 : w3.ownsRow w1.heap.size 3 1 (.slice (some ⟨g11, 0, none⟩) (r + 1 : Nat) c11) s.ls.length (ivs .i64 (ints s.ls)) := hv3.row); rw [← HLEN.out] at hrow3; (obtain ⟨gg, eg, hcl, -⟩ := own_at hrow3 (ints_get HYR.out)); cases eg; (have HV3 := Lib.hid hv3); clear hto hv3 hrow3))
            go_roundw
            case rel => exact ⟨i + 1, ⟨s.d.stored k x, s.k + 1, s.ls⟩, g3, hlt, by go_num, by have := HSK.out; go_num, lp_next HL.out HX.out HK.out (HYES.out.trans (by rw [HADD.out])) ⟨HV3.out.dev, HV3.out.foot, HV3.out.upd, HV3.out.row⟩ HSS.out (Nat.le_refl _) (Nat.le_succ _) HL.out.lo⟩
            case measure => simp [intOf]; omega
          · have HADD : Hid (addLn s.ls (k / 8) = s.ls ++ [z]) := by show _ = _; rw [← HZ.out]; unfold addLn; rw [HLS.out, if_neg (fun e => hyz (by simpa using e))]
            have e8 : ((y : Int) != (z : Int)) = true := bne_iff_ne.2 (by omega)
            have HYZ := Lib.hid hyz
            clear hyz
            go_wp2_with (first | (go_at_call 152; refine HS.out.mono ?_; rintro e w3 ⟨rfl, hto⟩; (obtain ⟨g3, hv3⟩ := HV.out.to hto); (have hrow3 : w3.ownsRow w1.heap.size 3 1 (.slice (some ⟨g11, 0, none⟩) (r + 1) c11) s.ls.length (ivs .i64 (ints s.ls)) := hv3.row); rw [← HLEN.out] at hrow3; (obtain ⟨gg, eg, hcl, -⟩ := own_at hrow3 (ints_get HYR.out)); cases eg; (have HV3 := Lib.hid hv3); (have HOW := Lib.hid (fun o => own_kp (W' := w3.alloc o) hrow3 (fun k _ hk => Below.heap_alloc _ _ k hk))); (have HSZ := Lib.hid hv3.upd.size); clear hto hv3 hrow3) |
              (at_builtin; refine wpList_append_own _ rfl (.tmp 60) (.tmp 63) 79 rfl w1.heap.size 3 i0 (.int .i64 0) 1 8 Tryz.underlying79 hinf hz0 hz1 hz2 rfl (by decide) _ (r + 1) _ rfl (HOW.out _) ⟨w3.heap.size, 0, none⟩ 1 1 [.int .i64 z] rfl rfl (one_at _ _ _) (by intro u hu; simp at hu; subst hu; rfl) (by unfold maxLen; omega) (by omega) (by have := HSZ.out; simp; omega) ?_; intro v' w7 hown' hgrow _; (obtain ⟨A9, c9, rfl⟩ := own_slice hown'); (have HO := Lib.hid hown'); (have HG := Lib.hid hgrow); clear hown' hgrow))
            go_roundw
            case rel =>
              refine ⟨i + 1, ⟨s.d.stored k x, s.k + 1, s.ls ++ [z]⟩, g3, hlt, by go_num, by have := HSK.out; go_num, lp_next HL.out HX.out HK.out (by rw [← HADD.out]; exact HYES.out) (HV3.out.grown _ HG.out ?_ _) HSS.out (Nat.le_refl _) (by simp) ?_⟩
              · have h9 := HO.out
                rw [ints_append, ivs_append, List.length_append, ← HLEN.out]
                exact h9
              · intro u hu
                rcases List.mem_append.1 hu with h9 | h9
                · exact HL.out.lo u h9
                · simp at h9
                  have := HZ.out
                  have := HK.out
                  omega
            case measure => simp [intOf]; omega
    · obtain rfl : i = n := by omega
      have hgo := HL.out.go
      rw [List.drop_of_length_le (by rw [← HN.out]; exact Nat.le_refl _)] at hgo
      have HGO : Hid (flushGo s.ls s.d s.k = R) := hgo
      have HLO := Lib.hid HL.out.lo
      have HSTP : Hid (s.d.steps ≤ 1001000000) := by
        have := HL.out.steps
        have := HST.out
        show _ ≤ _
        omega
      have HKS := Lib.hid HL.out.kk
      clear hgo hlt hi HL hbc HRR
      generalize hkk : s.k = kk at *
      have HKK := Lib.hid hkk
      clear hkk
      go_wp2_with fail
      generalize wr = wA at *
      go_loopw [68] (fun c68 wr => ∃ (j : Nat) (ds : Dev) (gs : Lay), j ≤ q ∧ c68 = .int .i64 j ∧ Hid (Vs w1 wr b g (.slice A11 q c11) ⟨ds, s.k, s.ls⟩ gs ∧ flushGo (s.ls.drop j) ds s.k = R ∧ ds.steps ≤ 1001000000 + j)) (fun c68 _ => q - (intOf c68).toNat)
      case atStart => exact ⟨0, s.d, g', Nat.zero_le _, rfl, ⟨HV.out.dev, HV.out.foot, HV.out.upd, HV.out.row⟩, by rw [HKK.out]; exact HGO.out, HSTP.out⟩
      case round =>
        obtain ⟨j, ds, gs, hj, rfl, HJ⟩ := hrel
        have hbc : wr.cell? ⟨w.heap.size, 0, none⟩ = some (.pointer (some ⟨b, 0, none⟩)) := cell_of (HJ.out.1.blk HQ1.out HNF.out) 0
        by_cases hjq : j < q
        · obtain ⟨x, hx⟩ := some_at (l := s.ls) (i := j) (by rw [← HLEN.out]; exact hjq)
          have hrow : wr.ownsRow w1.heap.size 3 1 (.slice A11 q c11) q (ivs .i64 (ints s.ls)) := by
            have h := HJ.out.1.row
            rw [← HLEN.out] at h
            exact h
          obtain ⟨p, rfl, hp1, hp2⟩ := (own_rk hrow).1 j x (ints_get hx)
          have HX := Lib.hid hx
          have hfl := Go.Proofs.YtgnagbbdnlmgeaaGreat.Pm.flush_any HJ.out.1.dev (x : Int) (by have := HJ.out.2.2; have h9 := hlsq; show ds.steps < _; omega)
          have HDR := Lib.hid (drop_next hx)
          have HFS := Lib.hid (flushed_steps ds (x : Int))
          clear hx hrow hj
          cases hok : ds.flushOk (x : Int) with
          | false =>
            rw [hok] at hfl
            have HF := Lib.hid hfl
            have HNO : Hid (flushGo (x :: s.ls.drop (j + 1)) ds s.k = (ds, none)) := by show (if ds.flushOk x then _ else _) = _; rw [hok]; rfl
            have HSN := Lib.hid (flushed_no hok)
            clear hok hfl
            go_wp2_with (go_at_call 153; refine HF.out.mono ?_; rintro e w3 ⟨rfl, hto⟩; (have HTO := Lib.hid hto); clear hto)
            go_ret2
            obtain ⟨g3, hv3⟩ := HJ.out.1.to HTO.out
            have hgo := HJ.out.2.1
            rw [HDR.out, HNO.out] at hgo
            have hd3 : DevTo w1 w3 b g ds := by
              have h9 := vs_to hv3
              rw [HSN.out] at h9
              exact h9
            exact put_bad ds hgo.symm (box_to HD.out (by rw [HW1.out]; exact hd3))
          | true =>
            rw [hok] at hfl
            have HF := Lib.hid hfl
            have HYES : Hid (flushGo (x :: s.ls.drop (j + 1)) ds s.k = flushGo (s.ls.drop (j + 1)) (ds.flushed x) s.k) := by show (if ds.flushOk x then _ else _) = _; rw [hok]; rfl
            clear hok hfl
            go_wp2_with (go_at_call 153; refine HF.out.mono ?_; rintro e w3 ⟨rfl, hto⟩; (obtain ⟨g3, hv3⟩ := HJ.out.1.to hto); (have HV3 := Lib.hid hv3); clear hto hv3)
            go_roundw
            case rel =>
              refine ⟨j + 1, ds.flushed x, g3, hjq, by go_num, HV3.out, ?_, ?_⟩
              · rw [← HYES.out, ← HDR.out]
                exact HJ.out.2.1
              · have := HFS.out
                have := HJ.out.2.2
                omega
            case measure => simp [intOf]; omega
        · obtain rfl : j = q := by omega
          go_wp2_with fail
          go_ret2
          have hgo := HJ.out.2.1
          rw [List.drop_of_length_le (by rw [← HLEN.out]; exact Nat.le_refl _)] at hgo
          rw [← HKK.out]
          exact put_ok ds hgo.symm (box_to HD.out (by rw [HW1.out]; exact vs_to HJ.out.1))

theorem put_diff {w : World} {b : Nat} {d : Dev} {g : Lay} (h : DevIs w b d g) {A : Option Addr} {l : List Int} (hr : Rk .u64 w A l) (hA : ∀ p, A = some p → p.block ∉ g.foot b) (a c : Nat) (ha : a ≤ 1000000000) (hn : l.length ≤ 1000000) (hst : d.steps ≤ 1000000000)
    (R : Dev × Option Nat) (hR : putGo false l a ⟨d, 0, []⟩ = R) :
    Calls Tryz.prog 104 #[.agg #[.pointer (some ⟨b, 0, none⟩)], .int .i64 a, .slice A l.length c, .bool false] w fun e w' => PutIs w b g R e w' := by
  have hu := Tryz.underlying138
  have HD := Lib.hid h
  have HRK := Lib.hid hr
  have HA := Lib.hid hA
  have HST := Lib.hid hst
  have HRR := Lib.hid hR
  obtain ⟨n, hnn⟩ : ∃ n, n = l.length := ⟨_, rfl⟩
  rw [← hnn]
  rw [← hnn] at hn
  have HN := Lib.hid hnn
  clear h hr hA hst hR hnn
  obtain ⟨i0, hinf, hz0, hz1, hz2⟩ := info_parts info_i64
  go_enter Tryz.func104, Tryz.ntmps104
  go_wp2_with fail
  generalize hw1 : w.alloc (.cells #[.pointer (some ⟨b, 0, none⟩)] 138) = w1
  have HW1 := Lib.hid hw1
  have HB1 : Hid (Below w.heap.size w w1) := by rw [← hw1]; exact bl_alloc (Below.refl _ _) _
  have HQ1 : Hid (w1.heap[w.heap.size]? = some (.cells #[.pointer (some ⟨b, 0, none⟩)] 138 (0, 0))) := by rw [← hw1]; exact alloc_new _ _
  have HD1 : Hid (DevIs w1 b d g) := HD.out.below HB1.out
  have HNF : Hid (w.heap.size ∉ g.foot b) := fun hm => Nat.lt_irrefl _ (HD.out.lt _ hm)
  have HRK1 : Hid (Rk .u64 w1 A l) := HRK.out.below HB1.out
  clear hw1 HRK
  go_loopw [10, 11, 20] (fun c10 c11 c20 wr => ∃ (i : Nat) (s : Ps) (g' : Lay), i ≤ n ∧ c20 = .int .i64 i ∧ c10 = .int .i64 s.k ∧ Hid (Lp w1 wr b g false a l d R i c11 s g')) (fun _ _ c20 _ => n - (intOf c20).toNat)
  case atStart =>
    refine ⟨0, ⟨d, 0, []⟩, g, Nat.zero_le _, rfl, rfl, ⟨⟨HD1.out, fun k hk => .inl hk, Upd.refl _ _, ?_⟩, by rw [List.drop_zero]; exact HRR.out, Nat.le_refl _, Nat.le_refl _, Nat.le_refl _, by simp⟩⟩
    have := own_nil0 w1 w1.heap.size 3 1
    simpa [ints, ivs] using this
  case round =>
    obtain ⟨i, s, g', hi, rfl, rfl, HL⟩ := hrel
    have HV := Lib.hid HL.out.vs
    obtain ⟨q, hq⟩ : ∃ q, q = s.ls.length := ⟨_, rfl⟩
    have hrow := HV.out.row
    rw [← hq] at hrow
    obtain ⟨A11, c11, e11⟩ := own_slice hrow
    have HLEN := Lib.hid hq
    have hlsq : q ≤ 1000000 := by have := HL.out.ll; omega
    clear hrow hq
    subst e11
    have hbc : wr.cell? ⟨w.heap.size, 0, none⟩ = some (.pointer (some ⟨b, 0, none⟩)) := cell_of (HV.out.blk HQ1.out HNF.out) 0
    by_cases hlt : i < n
    · obtain ⟨x, hx⟩ := some_at (l := l) (i := i) (by rw [← HN.out]; exact hlt)
      obtain ⟨p, rfl, hp1, hp2⟩ := HV.out.data HRK1.out HA.out i x hx
      have HX := Lib.hid hx
      obtain ⟨k, hk⟩ : ∃ k, k = a + i := ⟨_, rfl⟩
      have HK := Lib.hid hk
      clear hx hi hk
      obtain ⟨y, hy⟩ : ∃ y, y = s.d.load (k : Int) := ⟨_, rfl⟩
      have hld := Go.Proofs.YtgnagbbdnlmgeaaGreat.Pm.load_any HV.out.dev ((a : Int) + i)
      rw [show s.d.load ((a : Int) + i) = y from by rw [hy, HK.out]; rfl] at hld
      have HLD := Lib.hid hld
      have HY := Lib.hid hy
      clear hld hy
      by_cases hyx : y = x
      · subst hyx
        have HKP : Hid (keepW false s.d k y = true) := by show (_ && decide _) = true; rw [← HY.out]; simp
        go_wp2_with (go_at_call 82; refine HLD.out.mono ?_; rintro e w3 ⟨rfl, q3, rfl⟩)
        go_roundw
        case rel =>
          have h0 := HL.out
          refine ⟨i + 1, s, g', hlt, by go_num, rfl, ?_⟩
          exact lp_next h0 HX.out HK.out (putGo_keep HKP.out) (HV.out.drewN q3) (Nat.le_succ _) (Nat.le_succ _) (Nat.le_succ _) h0.lo
        case measure => simp [intOf]; omega
      · have HKP : Hid (keepW false s.d k x = false) := by show (_ && decide _) = false; rw [← HY.out]; simp [hyx]
        have e7 : (y == x) = false := beq_eq_false_iff_ne.2 hyx
        have HYX := Lib.hid hyx
        clear hyx
        have hstep : ∀ (u5 : Nat) w2, w2 = wr.drewN u5 → Hid (Vs w1 w2 b g (.slice A11 q c11) s g') ∧ Hid (Lp w1 w2 b g false a l d R i (.slice A11 q c11) s g') ∧ w2.cell? ⟨w.heap.size, 0, none⟩ = some (.pointer (some ⟨b, 0, none⟩)) := by
          rintro u5 w2 rfl
          exact ⟨HV.out.drewN u5, ⟨HV.out.drewN u5, HL.out.go, HL.out.steps, HL.out.kk, HL.out.ll, HL.out.lo⟩, hbc⟩
        have HSTEP := Lib.hid hstep
        clear hstep HV HL
        go_wp2_with (go_at_call 82; refine HLD.out.mono ?_; rintro e w2 ⟨rfl, q3, hw2⟩; (obtain ⟨HV, HL, hbc2⟩ := HSTEP.out q3 w2 hw2); clear hw2 HSTEP hp2 hp1 HLD hbc)

        have hst := Go.Proofs.YtgnagbbdnlmgeaaGreat.Pm.store_any HV.out.dev ((a : Int) + i) x (by have := HL.out.steps; have := HST.out; omega)
        rw [show s.d.storeOk ((a : Int) + i) = s.d.storeOk (k : Int) from by rw [HK.out]; rfl, show s.d.stored ((a : Int) + i) x = s.d.stored (k : Int) x from by rw [HK.out]; rfl] at hst
        have HS := Lib.hid hst
        clear hst
        cases hok : s.d.storeOk (k : Int) with
        | false =>
          rw [hok] at HS
          have HNO := Lib.hid (putGo_fail (r := l.drop (i + 1)) HKP.out hok)
          have HSN := Lib.hid (stored_no (x := x) hok)
          clear hok
          refine HS.out.mono ?_; rintro e w3 ⟨rfl, hto⟩; (have HTO := Lib.hid hto); clear hto; go_wp2_with fail
          go_ret2
          have hgo := HL.out.go
          rw [drop_next HX.out, ← HK.out, HNO.out] at hgo
          obtain ⟨g3, hv3⟩ := HV.out.to HTO.out
          rw [HSN.out] at hv3
          exact put_bad s.d hgo.symm (box_to HD.out (by rw [HW1.out]; exact vs_to hv3))
        | true =>
          rw [hok] at HS
          have HYES := Lib.hid (putGo_store (r := l.drop (i + 1)) HKP.out hok)
          have HSS := Lib.hid (stored_steps s.d (k : Int) x)
          clear hok
          obtain ⟨z, hz⟩ : ∃ z : Nat, z = k / 8 := ⟨_, rfl⟩
          have HZ := Lib.hid hz
          have hz8 : ((a : Int) + i) / 8 = (z : Int) := by have := HK.out; omega
          clear hz
          have hkq : s.k < 1000000 := by have := HL.out.kk; omega
          obtain ⟨kk, hsk⟩ : ∃ kk, kk = s.k := ⟨_, rfl⟩
          rw [← hsk]
          rw [← hsk] at hkq
          have HSK := Lib.hid hsk
          clear hsk
          rcases hls : s.ls.getLast? with _ | y
          · have hnil : s.ls = [] := List.getLast?_eq_none_iff.1 hls
            have HADD : Hid (addLn s.ls (k / 8) = s.ls ++ [z]) := by rw [← HZ.out]; unfold addLn; rw [hls]; rfl
            have hq0 : q = 0 := by rw [HLEN.out, hnil]; rfl
            have e9 : ((q : Int) == 0) = true := by rw [beq_iff_eq]; omega
            have HQ0 := Lib.hid hq0
            clear hnil hq0 hls
            refine HS.out.mono ?_; rintro e w3 ⟨rfl, hto⟩; (obtain ⟨g3, hv3⟩ := HV.out.to hto); (have hrow3 : w3.ownsRow w1.heap.size 3 1 (.slice A11 q c11) s.ls.length (ivs .i64 (ints s.ls)) := hv3.row); rw [← HLEN.out] at hrow3; (have HV3 := Lib.hid hv3); (have HOW := Lib.hid (fun o => own_kp (W' := w3.alloc o) hrow3 (fun k _ hk => Below.heap_alloc _ _ k hk))); (have HSZ := Lib.hid hv3.upd.size); clear hto hv3 hrow3; go_wp2_with (at_builtin; refine wpList_append_own _ rfl (.tmp 60) (.tmp 63) 79 rfl w1.heap.size 3 i0 (.int .i64 0) 1 8 Tryz.underlying79 hinf hz0 hz1 hz2 rfl (by decide) _ q _ rfl (HOW.out _) ⟨w3.heap.size, 0, none⟩ 1 1 [.int .i64 z] rfl rfl (one_at _ _ _) (by intro u hu; simp at hu; subst hu; rfl) (by unfold maxLen; omega) (by omega) (by have := HSZ.out; simp; omega) ?_; intro v' w7 hown' hgrow _; (obtain ⟨A9, c9, rfl⟩ := own_slice hown'); (have HO := Lib.hid hown'); (have HG := Lib.hid hgrow); clear hown' hgrow)
            go_roundw
            case rel =>
              refine ⟨i + 1, ⟨s.d.stored k x, s.k + 1, s.ls ++ [z]⟩, g3, hlt, by go_num, by have := HSK.out; go_num, lp_next HL.out HX.out HK.out (by rw [← HADD.out]; exact HYES.out) (HV3.out.grown _ HG.out ?_ _) HSS.out (Nat.le_refl _) (by simp) ?_⟩
              · have h9 := HO.out
                rw [ints_append, ivs_append, List.length_append, ← HLEN.out]
                exact h9
              · intro u hu
                rcases List.mem_append.1 hu with h9 | h9
                · exact HL.out.lo u h9
                · simp at h9
                  have := HZ.out
                  have := HK.out
                  omega
            case measure => simp [intOf]; omega
          · have hq1 : 1 ≤ q := by
              rw [HLEN.out]
              cases hc : s.ls with
              | nil => rw [hc] at hls; cases hls
              | cons u v => simp
            obtain ⟨r, hr⟩ : ∃ r, q = r + 1 := ⟨q - 1, by omega⟩
            have hyr : s.ls[r]? = some y := by
              have h1 := last_get hls
              rw [← HLEN.out, hr] at h1
              exact h1
            subst hr
            have e9 : (((r + 1 : Nat) : Int) == 0) = false := by rw [beq_eq_false_iff_ne]; omega
            have hrow2 : w2.ownsRow w1.heap.size 3 1 (.slice A11 (r + 1 : Nat) c11) (r + 1) (ivs .i64 (ints s.ls)) := by
              have h := HV.out.row
              rw [← HLEN.out] at h
              exact h
            obtain ⟨g11, rfl, -, -⟩ := own_at hrow2 (ints_get hyr)
            have HYR := Lib.hid hyr
            have HLS := Lib.hid hls
            have hlsr : r + 1 ≤ 1000000 := hlsq
            clear hq1 hyr hls hrow2 hlsq
            by_cases hyz : y = z
            · subst hyz
              have HADD : Hid (addLn s.ls (k / 8) = s.ls) := by show _ = _; rw [← HZ.out]; unfold addLn; rw [HLS.out, if_pos rfl]
              refine HS.out.mono ?_; rintro e w3 ⟨rfl, hto⟩; (obtain ⟨g3, hv3⟩ := HV.out.to hto); (have hrow3 : w3.ownsRow w1.heap.size 3 1 (.slice (some ⟨g11, 0, none⟩) (r + 1 : Nat) c11) s.ls.length (ivs .i64 (ints s.ls)) := hv3.row); rw [← HLEN.out] at hrow3; (obtain ⟨gg, eg, hcl, -⟩ := own_at hrow3 (ints_get HYR.out)); cases eg; (have HV3 := Lib.hid hv3); clear hto hv3 hrow3; go_wp2_with fail
              go_roundw
              case rel => exact ⟨i + 1, ⟨s.d.stored k x, s.k + 1, s.ls⟩, g3, hlt, by go_num, by have := HSK.out; go_num, lp_next HL.out HX.out HK.out (HYES.out.trans (by rw [HADD.out])) ⟨HV3.out.dev, HV3.out.foot, HV3.out.upd, HV3.out.row⟩ HSS.out (Nat.le_refl _) (Nat.le_succ _) HL.out.lo⟩
              case measure => simp [intOf]; omega
            · have HADD : Hid (addLn s.ls (k / 8) = s.ls ++ [z]) := by show _ = _; rw [← HZ.out]; unfold addLn; rw [HLS.out, if_neg (fun e => hyz (by simpa using e))]
              have e8 : ((y : Int) != (z : Int)) = true := bne_iff_ne.2 (by omega)
              have HYZ := Lib.hid hyz
              clear hyz
              refine HS.out.mono ?_; rintro e w3 ⟨rfl, hto⟩; (obtain ⟨g3, hv3⟩ := HV.out.to hto); (have hrow3 : w3.ownsRow w1.heap.size 3 1 (.slice (some ⟨g11, 0, none⟩) (r + 1) c11) s.ls.length (ivs .i64 (ints s.ls)) := hv3.row); rw [← HLEN.out] at hrow3; (obtain ⟨gg, eg, hcl, -⟩ := own_at hrow3 (ints_get HYR.out)); cases eg; (have HV3 := Lib.hid hv3); (have HOW := Lib.hid (fun o => own_kp (W' := w3.alloc o) hrow3 (fun k _ hk => Below.heap_alloc _ _ k hk))); (have HSZ := Lib.hid hv3.upd.size); clear hto hv3 hrow3; go_wp2_with (at_builtin; refine wpList_append_own _ rfl (.tmp 60) (.tmp 63) 79 rfl w1.heap.size 3 i0 (.int .i64 0) 1 8 Tryz.underlying79 hinf hz0 hz1 hz2 rfl (by decide) _ (r + 1) _ rfl (HOW.out _) ⟨w3.heap.size, 0, none⟩ 1 1 [.int .i64 z] rfl rfl (one_at _ _ _) (by intro u hu; simp at hu; subst hu; rfl) (by unfold maxLen; omega) (by omega) (by have := HSZ.out; simp; omega) ?_; intro v' w7 hown' hgrow _; (obtain ⟨A9, c9, rfl⟩ := own_slice hown'); (have HO := Lib.hid hown'); (have HG := Lib.hid hgrow); clear hown' hgrow)
              go_roundw
              case rel =>
                refine ⟨i + 1, ⟨s.d.stored k x, s.k + 1, s.ls ++ [z]⟩, g3, hlt, by go_num, by have := HSK.out; go_num, lp_next HL.out HX.out HK.out (by rw [← HADD.out]; exact HYES.out) (HV3.out.grown _ HG.out ?_ _) HSS.out (Nat.le_refl _) (by simp) ?_⟩
                · have h9 := HO.out
                  rw [ints_append, ivs_append, List.length_append, ← HLEN.out]
                  exact h9
                · intro u hu
                  rcases List.mem_append.1 hu with h9 | h9
                  · exact HL.out.lo u h9
                  · simp at h9
                    have := HZ.out
                    have := HK.out
                    omega
              case measure => simp [intOf]; omega
    · obtain rfl : i = n := by omega
      have hgo := HL.out.go
      rw [List.drop_of_length_le (by rw [← HN.out]; exact Nat.le_refl _)] at hgo
      have HGO : Hid (flushGo s.ls s.d s.k = R) := hgo
      have HLO := Lib.hid HL.out.lo
      have HSTP : Hid (s.d.steps ≤ 1001000000) := by
        have := HL.out.steps
        have := HST.out
        show _ ≤ _
        omega
      have HKS := Lib.hid HL.out.kk
      clear hgo hlt hi HL hbc HRR
      generalize hkk : s.k = kk at *
      have HKK := Lib.hid hkk
      clear hkk
      go_wp2_with fail
      generalize wr = wA at *
      go_loopw [68] (fun c68 wr => ∃ (j : Nat) (ds : Dev) (gs : Lay), j ≤ q ∧ c68 = .int .i64 j ∧ Hid (Vs w1 wr b g (.slice A11 q c11) ⟨ds, s.k, s.ls⟩ gs ∧ flushGo (s.ls.drop j) ds s.k = R ∧ ds.steps ≤ 1001000000 + j)) (fun c68 _ => q - (intOf c68).toNat)
      case atStart => exact ⟨0, s.d, g', Nat.zero_le _, rfl, ⟨HV.out.dev, HV.out.foot, HV.out.upd, HV.out.row⟩, by rw [HKK.out]; exact HGO.out, HSTP.out⟩
      case round =>
        obtain ⟨j, ds, gs, hj, rfl, HJ⟩ := hrel
        have hbc : wr.cell? ⟨w.heap.size, 0, none⟩ = some (.pointer (some ⟨b, 0, none⟩)) := cell_of (HJ.out.1.blk HQ1.out HNF.out) 0
        by_cases hjq : j < q
        · obtain ⟨x, hx⟩ := some_at (l := s.ls) (i := j) (by rw [← HLEN.out]; exact hjq)
          have hrow : wr.ownsRow w1.heap.size 3 1 (.slice A11 q c11) q (ivs .i64 (ints s.ls)) := by
            have h := HJ.out.1.row
            rw [← HLEN.out] at h
            exact h
          obtain ⟨p, rfl, hp1, hp2⟩ := (own_rk hrow).1 j x (ints_get hx)
          have HX := Lib.hid hx
          have hfl := Go.Proofs.YtgnagbbdnlmgeaaGreat.Pm.flush_any HJ.out.1.dev (x : Int) (by have := HJ.out.2.2; have h9 := hlsq; show ds.steps < _; omega)
          have HDR := Lib.hid (drop_next hx)
          have HFS := Lib.hid (flushed_steps ds (x : Int))
          clear hx hrow hj
          cases hok : ds.flushOk (x : Int) with
          | false =>
            rw [hok] at hfl
            have HF := Lib.hid hfl
            have HNO : Hid (flushGo (x :: s.ls.drop (j + 1)) ds s.k = (ds, none)) := by show (if ds.flushOk x then _ else _) = _; rw [hok]; rfl
            have HSN := Lib.hid (flushed_no hok)
            clear hok hfl
            go_wp2_with (go_at_call 153; refine HF.out.mono ?_; rintro e w3 ⟨rfl, hto⟩; (have HTO := Lib.hid hto); clear hto)
            go_ret2
            obtain ⟨g3, hv3⟩ := HJ.out.1.to HTO.out
            have hgo := HJ.out.2.1
            rw [HDR.out, HNO.out] at hgo
            have hd3 : DevTo w1 w3 b g ds := by
              have h9 := vs_to hv3
              rw [HSN.out] at h9
              exact h9
            exact put_bad ds hgo.symm (box_to HD.out (by rw [HW1.out]; exact hd3))
          | true =>
            rw [hok] at hfl
            have HF := Lib.hid hfl
            have HYES : Hid (flushGo (x :: s.ls.drop (j + 1)) ds s.k = flushGo (s.ls.drop (j + 1)) (ds.flushed x) s.k) := by show (if ds.flushOk x then _ else _) = _; rw [hok]; rfl
            clear hok hfl
            go_wp2_with (go_at_call 153; refine HF.out.mono ?_; rintro e w3 ⟨rfl, hto⟩; (obtain ⟨g3, hv3⟩ := HJ.out.1.to hto); (have HV3 := Lib.hid hv3); clear hto hv3)
            go_roundw
            case rel =>
              refine ⟨j + 1, ds.flushed x, g3, hjq, by go_num, HV3.out, ?_, ?_⟩
              · rw [← HYES.out, ← HDR.out]
                exact HJ.out.2.1
              · have := HFS.out
                have := HJ.out.2.2
                omega
            case measure => simp [intOf]; omega
        · obtain rfl : j = q := by omega
          go_wp2_with fail
          go_ret2
          have hgo := HJ.out.2.1
          rw [List.drop_of_length_le (by rw [← HLEN.out]; exact Nat.le_refl _)] at hgo
          rw [← HKK.out]
          exact put_ok ds hgo.symm (box_to HD.out (by rw [HW1.out]; exact vs_to HJ.out.1))

end Go.Proofs.YtgnagbbdnlmgeaaGreat.Vo
end

/- volume.Open, Device, SetSlot, Slot. -/
section
set_option linter.unusedVariables false
set_option linter.unusedSimpArgs false
set_option maxHeartbeats 2000000
set_option maxRecDepth 100000
namespace Go.Proofs.YtgnagbbdnlmgeaaGreat.Vo
open Go Go.RowKit
open Go.Proofs.YtgnagbbdnlmgeaaGreat.Ob Go.Proofs.YtgnagbbdnlmgeaaGreat.Ba Go.Proofs.YtgnagbbdnlmgeaaGreat.Oc Go.Proofs.YtgnagbbdnlmgeaaGreat.Pk Go.Proofs.YtgnagbbdnlmgeaaGreat.Dv Go.Proofs.YtgnagbbdnlmgeaaGreat.Su Go.Proofs.YtgnagbbdnlmgeaaGreat.Mp Go.Proofs.YtgnagbbdnlmgeaaGreat.Ge Go.Proofs.YtgnagbbdnlmgeaaGreat.Lo Go.Proofs.YtgnagbbdnlmgeaaGreat.Ko

def volObj (b n m s : Nat) : Obj := .cells #[.pointer (some ⟨b, 0, none⟩), .int .i64 n, .int .i64 m, .int .i64 s] 140 (0, 0)

structure VolIs (w : World) (v b n m s : Nat) (d : Dev) (g : Lay) : Prop where
  blk : w.heap[v]? = some (volObj b n m s)
  dev : DevIs w b d g
  ok : geoOk n m s = true
  len : (d.las.length : Int) = tot n m s

theorem VolIs.cells {w : World} {v b n m s : Nat} {d : Dev} {g : Lay} (h : VolIs w v b n m s d g) :
    w.cell? ⟨v, 0, none⟩ = some (.pointer (some ⟨b, 0, none⟩)) ∧ w.cell? ⟨v, 1, none⟩ = some (.int .i64 n) ∧ w.cell? ⟨v, 2, none⟩ = some (.int .i64 m) ∧ w.cell? ⟨v, 3, none⟩ = some (.int .i64 s) :=
  ⟨cell_of h.blk 0, cell_of h.blk 1, cell_of h.blk 2, cell_of h.blk 3⟩
theorem VolIs.below {w w' : World} {v b n m s : Nat} {d : Dev} {g : Lay} (h : VolIs w v b n m s d g) (hb : Below w.heap.size w w') : VolIs w' v b n m s d g :=
  ⟨blk_bl h.blk hb, h.dev.below hb, h.ok, h.len⟩
theorem VolIs.apart {w : World} {v b n m s : Nat} {d : Dev} {g : Lay} (h : VolIs w v b n m s d g) : v ∉ g.foot b := not_foot h.dev h.blk (by decide) (by decide) (by decide)
theorem VolIs.to {w w' : World} {v b n m s : Nat} {d d' : Dev} {g : Lay} (h : VolIs w v b n m s d g) (k : DevTo w w' b g d') (hl : d'.las.length = d.las.length) : ∃ g', VolIs w' v b n m s d' g' ∧ (∀ q ∈ g'.foot b, q ∈ g.foot b ∨ w.heap.size ≤ q) ∧ Upd (g.foot b) w w' := by
  obtain ⟨g', h1, h2, h3⟩ := k
  exact ⟨g', ⟨h3.blk h.blk h.apart, h1, h.ok, by rw [hl]; exact h.len⟩, h2, h3⟩

theorem device_ {w : World} {v b n m s : Nat} {d : Dev} {g : Lay} (h : VolIs w v b n m s d g) :
    Calls Tryz.prog 16 #[.pointer (some ⟨v, 0, none⟩)] w fun e w' => e = .returned (.pointer (some ⟨b, 0, none⟩)) ∧ w' = w := by
  obtain ⟨c0, c1, c2, c3⟩ := h.cells
  clear h
  go_enter Tryz.func16, Tryz.ntmps16
  go_wp2
  go_ret
  exact ⟨rfl, rfl⟩

theorem open_ok {w : World} {b : Nat} {d : Dev} {g : Lay} (h : DevIs w b d g) (n m s : Nat) (hok : geoOk n m s = true) (hn : n < 65536) (hm : m < 65536) (hs : s < 65536) (hlen : (d.las.length : Int) = tot n m s) (h8 : 8 ≤ d.las.length)
    (hl : ∀ (i : Nat) x, (enc n m s)[i]? = some x → d.load i = (x : Int)) :
    Calls Tryz.prog 74 #[.pointer (some ⟨b, 0, none⟩)] w fun e w' => ∃ v, e = .returned (.tuple #[.pointer (some ⟨v, 0, none⟩), .int .i64 0]) ∧ w.heap.size ≤ v ∧ VolIs w' v b n m s d g ∧ Below w.heap.size w w' := by
  have hu := Tryz.underlying140
  have HR := Lib.hid (read_ok h n m s hok hn hm hs hlen h8 hl)
  have HD := Lib.hid h
  have HO := Lib.hid (And.intro hok hlen)
  clear h hok hn hm hs hlen h8 hl
  go_enter Tryz.func74, Tryz.ntmps74
  go_wp2_with fail
  refine HR.out.mono ?_
  rintro e w1 ⟨rfl, hb⟩
  have HB := Lib.hid hb
  clear hb HR
  go_wp2_with fail
  go_ret2
  have hb2 : Below w1.heap.size w1 (w1.alloc (.cells #[.int .i64 n, .int .i64 m, .int .i64 s] 34)) := bl_alloc (Below.refl _ _) _
  refine ⟨w1.heap.size + 1, rfl, by have := HB.out.size; omega, ⟨?_, ?_, HO.out.1, HO.out.2⟩, bl_alloc (bl_alloc HB.out _) _⟩
  · have := alloc_new (w1.alloc (.cells #[.int .i64 n, .int .i64 m, .int .i64 s] 34)) (volObj b n m s)
    rw [World.size_alloc] at this
    exact this
  · exact HD.out.below (bl_alloc (bl_alloc HB.out _) _)

theorem plc_no {a i k : Int} (h : i < 0 ∨ k ≤ i) : plc a i k = -1 := by
  unfold plc
  rw [if_neg]
  omega
theorem plc_yes {a i k : Int} (h : 0 ≤ i ∧ i < k) : plc a i k = a := by
  unfold plc
  rw [if_pos h]

theorem setslot_range {w : World} {v b n m s : Nat} {d : Dev} {g : Lay} (h : VolIs w v b n m s d g) (i x y z : Int) (hi : i < 0 ∨ (n : Int) ≤ i) :
    Calls Tryz.prog 41 #[.pointer (some ⟨v, 0, none⟩), .int .i64 i, .agg #[.int .i64 x, .int .i64 y, .int .i64 z]] w fun e w' => e = .returned (.int .i64 9) ∧ Below w.heap.size w w' := by
  have hu := Tryz.underlying51
  have hsl := slot_ n m s i h.ok
  rw [plc_no hi] at hsl
  have HS := Lib.hid hsl
  have h2 := h.below (bl_alloc (Below.refl _ _) (.cells #[.int .i64 x, .int .i64 y, .int .i64 z] 51))
  obtain ⟨c0, c1, c2, c3⟩ := h2.cells
  clear h h2 hi hsl
  go_enter Tryz.func41, Tryz.ntmps41
  go_wp2_with (go_at_call 80; refine (HS.out _).mono ?_; rintro e w1 ⟨rfl, hb⟩; (have HB := Lib.hid hb); clear hb)
  go_ret
  exact ⟨rfl, bl_then (bl_alloc (Below.refl _ _) _) HB.out⟩

theorem setslot_no {w : World} {v b n m s : Nat} {d : Dev} {g : Lay} (h : VolIs w v b n m s d g) (i x y z : Int) (hi : 0 ≤ i ∧ i < (n : Int)) (hmay : sMay x y z = false) :
    Calls Tryz.prog 41 #[.pointer (some ⟨v, 0, none⟩), .int .i64 i, .agg #[.int .i64 x, .int .i64 y, .int .i64 z]] w fun e w' => e = .returned (.int .i64 1) ∧ Below w.heap.size w w' := by
  have hu := Tryz.underlying51
  have hsl := slot_ n m s i h.ok
  rw [plc_yes hi] at hsl
  obtain ⟨k, hk⟩ : ∃ k, k = 16 + 8 * (m : Int) + i := ⟨_, rfl⟩
  rw [← hk] at hsl
  have hk0 : 0 ≤ k := by omega
  have HS := Lib.hid hsl
  have HE := Lib.hid (encode_no x y z hmay)
  have h2 := h.below (bl_alloc (Below.refl _ _) (.cells #[.int .i64 x, .int .i64 y, .int .i64 z] 51))
  obtain ⟨c0, c1, c2, c3⟩ := h2.cells
  clear h h2 hi hsl hk hmay
  go_enter Tryz.func41, Tryz.ntmps41
  go_wp2_with (first | (go_at_call 80; refine (HS.out _).mono ?_; rintro e w1 ⟨rfl, hb⟩; (have hq := blk_bl (alloc_new w (.cells #[.int .i64 x, .int .i64 y, .int .i64 z] 51)) hb); (have m0 := cell_of hq 0); (have m1 := cell_of hq 1); (have m2 := cell_of hq 2); (have HB := Lib.hid hb); clear hb hq) |
    (go_at_call 103; refine (HE.out _).mono ?_; rintro e w2 ⟨rfl, hb⟩; (have HB2 := Lib.hid hb); clear hb))
  go_ret
  exact ⟨rfl, bl_then (bl_then (bl_alloc (Below.refl _ _) _) HB.out) HB2.out⟩

theorem setslot_yes {w : World} {v b n m s : Nat} {d : Dev} {g : Lay} (h : VolIs w v b n m s d g) (hst : d.steps ≤ 1000000000) (i x y z : Int) (hi : 0 ≤ i ∧ i < (n : Int)) (hmay : sMay x y z = true) (k : Nat) (hk : (k : Int) = 16 + 8 * (m : Int) + i)
    (R : Dev × Option Nat) (hR : putGo true [(sEnc x y z : Int)] k ⟨d, 0, []⟩ = R) :
    Calls Tryz.prog 41 #[.pointer (some ⟨v, 0, none⟩), .int .i64 i, .agg #[.int .i64 x, .int .i64 y, .int .i64 z]] w fun e w' => e = .returned (.int .i64 (ecode R)) ∧ DevTo w w' b g R.1 := by
  have hu := Tryz.underlying51
  have hsl := slot_ n m s i h.ok
  rw [plc_yes hi, ← hk] at hsl
  have hin := inB_out (ok_out h.ok).1
  have hk9 : k ≤ 1000000000 := by omega
  have HS := Lib.hid hsl
  have HE := Lib.hid (encode_yes x y z hmay)
  have HV := Lib.hid h
  have HST := Lib.hid hst
  have HR := Lib.hid hR
  have HK9 := Lib.hid hk9
  have h2 := h.below (bl_alloc (Below.refl _ _) (.cells #[.int .i64 x, .int .i64 y, .int .i64 z] 51))
  obtain ⟨c0, c1, c2, c3⟩ := h2.cells
  clear h h2 hi hsl hk hmay hin hst hR hk9
  generalize sEnc x y z = t at *
  go_enter Tryz.func41, Tryz.ntmps41
  go_wp2_with (first | (go_at_call 80; refine (HS.out _).mono ?_; rintro e w1 ⟨rfl, hb⟩; (have hq := blk_bl (alloc_new w (.cells #[.int .i64 x, .int .i64 y, .int .i64 z] 51)) hb); (have m0 := cell_of hq 0); (have m1 := cell_of hq 1); (have m2 := cell_of hq 2); (have HB := Lib.hid hb); clear hb hq) |
    (go_at_call 103; refine (HE.out _).mono ?_; rintro e w2 ⟨rfl, hb⟩; (have HB2 := Lib.hid (bl_then (bl_then (bl_alloc (Below.refl _ _) _) HB.out) hb)); (have HV2 := Lib.hid (HV.out.below HB2.out)); (have n0 := HV2.out.cells.1); clear hb HB))
  have hb3 : Below w2.heap.size w2 (w2.alloc (.cells #[.int .u64 t] 94)) := bl_alloc (Below.refl _ _) _
  have hrk : Rk .u64 (w2.alloc (.cells #[.int .u64 t] 94)) (some ⟨w2.heap.size, 0, none⟩) [(t : Int)] := by
    refine blk_rk (alloc_new w2 (.cells #[.int .u64 t] 94)) fun j u hu => ?_
    match j with
    | 0 => simpa using hu
    | j + 1 => simp at hu
  have hput := put_all (HV2.out.below hb3).dev hrk (fun p hp hm => by
    cases hp
    exact Nat.lt_irrefl _ (HV2.out.dev.lt _ hm)) k 1 HK9.out (by simp) HST.out R HR.out
  refine hput.mono ?_
  rintro e w4 ⟨rfl, hto⟩
  have HTO := Lib.hid hto
  clear hput hto
  go_wp2_with fail
  go_ret
  exact ⟨rfl, by
    obtain ⟨g2, q1, q2, q3⟩ := HTO.out
    have hbb := bl_then HB2.out hb3
    refine ⟨g2, q1, fun u hu => ?_, (Upd.of_below (F := g.foot b) hbb).trans q3 (fun u hu => .inl hu)⟩
    rcases q2 u hu with r | r
    · exact .inl r
    · exact .inr (Nat.le_trans hbb.size r)⟩

end Go.Proofs.YtgnagbbdnlmgeaaGreat.Vo
end

/- volume.Slot. -/
section
set_option linter.unusedVariables false
set_option linter.unusedSimpArgs false
set_option maxHeartbeats 2000000
set_option maxRecDepth 100000
namespace Go.Proofs.YtgnagbbdnlmgeaaGreat.Vo
open Go Go.RowKit
open Go.Proofs.YtgnagbbdnlmgeaaGreat.Ob Go.Proofs.YtgnagbbdnlmgeaaGreat.Ba Go.Proofs.YtgnagbbdnlmgeaaGreat.Oc Go.Proofs.YtgnagbbdnlmgeaaGreat.Pk Go.Proofs.YtgnagbbdnlmgeaaGreat.Dv Go.Proofs.YtgnagbbdnlmgeaaGreat.Su Go.Proofs.YtgnagbbdnlmgeaaGreat.Mp Go.Proofs.YtgnagbbdnlmgeaaGreat.Ge Go.Proofs.YtgnagbbdnlmgeaaGreat.Lo Go.Proofs.YtgnagbbdnlmgeaaGreat.Ko

theorem slot_get {w : World} {v b n m s : Nat} {d : Dev} {g : Lay} (h : VolIs w v b n m s d g) (i : Int) (hi : 0 ≤ i ∧ i < (n : Int)) (k : Nat) (hk : (k : Int) = 16 + 8 * (m : Int) + i) (x : Nat) (hx : x < 18446744073709551616) (hl : d.load k = (x : Int)) (S : Int × Int × Int × Int)
    (hS : ∀ e, SDec x (pa x) (pb x) (pc x) e → e = .returned (.tuple #[.agg #[.int .i64 S.1, .int .i64 S.2.1, .int .i64 S.2.2.1], .int .i64 S.2.2.2])) :
    Calls Tryz.prog 21 #[.pointer (some ⟨v, 0, none⟩), .int .i64 i] w fun e w' => e = .returned (.tuple #[.agg #[.int .i64 S.1, .int .i64 S.2.1, .int .i64 S.2.2.1], .int .i64 S.2.2.2]) ∧ Below w.heap.size w w' := by
  have hu := Tryz.underlying51
  have hsl := slot_ n m s i h.ok
  rw [plc_yes hi, ← hk] at hsl
  have HS := Lib.hid hsl
  have HV := Lib.hid h
  have HDC : Hid (∀ w, Calls Tryz.prog 81 #[.int .u64 x] w fun e w' => e = .returned (.tuple #[.agg #[.int .i64 S.1, .int .i64 S.2.1, .int .i64 S.2.2.1], .int .i64 S.2.2.2]) ∧ Below w.heap.size w w') :=
    fun w => (decode_ x hx _ _ _ rfl rfl rfl w).mono fun e w' he => ⟨hS e he.1, he.2⟩
  have HLD : Hid (∀ W, DevIs W b d g → Calls Tryz.prog 82 #[.pointer (some ⟨b, 0, none⟩), .int .i64 k] W fun e w' => e = .returned (.int .u64 x) ∧ ∃ n, w' = W.drewN n) := by
    intro W hW
    have h9 := Go.Proofs.YtgnagbbdnlmgeaaGreat.Pm.load_any hW (k : Int)
    rw [hl] at h9
    exact h9
  have h2 := h.below (bl_alloc (Below.refl _ _) (.cells #[.int .i64 0, .int .i64 0, .int .i64 0] 51))
  obtain ⟨c0, c1, c2, c3⟩ := h2.cells
  clear h h2 hi hsl hk hS hl
  obtain ⟨s1, s2, s3, s4⟩ := S
  go_enter Tryz.func21, Tryz.ntmps21
  go_wp2_with (first | (go_at_call 80; refine (HS.out _).mono ?_; rintro e w1 ⟨rfl, hb⟩; (have hq := blk_bl (alloc_new w (.cells #[.int .i64 0, .int .i64 0, .int .i64 0] 51)) hb); (have HQ := Lib.hid hq); (have HB := Lib.hid (bl_then (bl_alloc (Below.refl _ _) _) hb)); (have HV2 := Lib.hid (HV.out.below HB.out)); (have n0 := HV2.out.cells.1); clear hb hq) |
    (go_at_call 82; refine (HLD.out _ HV2.out.dev).mono ?_; rintro e w2 ⟨rfl, q, hw2⟩; (have HW2 : Hid (Below w1.heap.size w1 w2) := by rw [hw2]; exact bl_drewN (Below.refl _ _) q); clear hw2) |
    (go_at_call 81; refine (HDC.out _).mono ?_; rintro e w3 ⟨rfl, hb⟩; (have HB3 := Lib.hid (bl_then HW2.out hb)); (have hq3 := blk_bl HQ.out HB3.out); (have l0 := cell_of hq3 0); (have l1 := cell_of hq3 1); (have l2 := cell_of hq3 2); (have f0 := free_of hq3 0); (have f1 := free_of hq3 1); (have f2 := free_of hq3 2); (have HQ3 := Lib.hid hq3); clear hb hq3))
  exact bodyPost_ret (res_ct (u := 5) rfl _ _ w.heap.size 51 #[.int .i64 s1, .int .i64 s2, .int .i64 s3] (0, 0) _ rfl (put3 HQ3.out _ _ _) hu rfl (by kernel_rfl)) rfl ⟨rfl, bl_put3 (bl_then HB.out HB3.out) (Nat.le_refl _) _ _ _⟩

theorem slot_out {w : World} {v b n m s : Nat} {d : Dev} {g : Lay} (h : VolIs w v b n m s d g) (i : Int) (hi : i < 0 ∨ (n : Int) ≤ i) :
    Calls Tryz.prog 21 #[.pointer (some ⟨v, 0, none⟩), .int .i64 i] w fun e w' => e = .returned (.tuple #[.agg #[.int .i64 0, .int .i64 0, .int .i64 0], .int .i64 9]) ∧ Below w.heap.size w w' := by
  have hu := Tryz.underlying51
  have hsl := slot_ n m s i h.ok
  rw [plc_no hi] at hsl
  have HS := Lib.hid hsl
  have h2 := h.below (bl_alloc (Below.refl _ _) (.cells #[.int .i64 0, .int .i64 0, .int .i64 0] 51))
  obtain ⟨c0, c1, c2, c3⟩ := h2.cells
  clear h h2 hi hsl
  go_enter Tryz.func21, Tryz.ntmps21
  go_wp2_with (first | (go_at_call 80; refine (HS.out _).mono ?_; rintro e w1 ⟨rfl, hb⟩; (have hq := blk_bl (alloc_new w (.cells #[.int .i64 0, .int .i64 0, .int .i64 0] 51)) hb); (have l0 := cell_of hq 0); (have l1 := cell_of hq 1); (have l2 := cell_of hq 2); (have f0 := free_of hq 0); (have f1 := free_of hq 1); (have f2 := free_of hq 2); (have HQ3 := Lib.hid hq); (have HB := Lib.hid (bl_then (bl_alloc (Below.refl _ _) _) hb)); clear hb hq))
  exact bodyPost_ret (res_ct (u := 5) rfl _ _ w.heap.size 51 #[.int .i64 0, .int .i64 0, .int .i64 0] (0, 0) _ rfl (put3 HQ3.out _ _ _) hu rfl (by kernel_rfl)) rfl ⟨rfl, bl_put3 HB.out (Nat.le_refl _) _ _ _⟩

end Go.Proofs.YtgnagbbdnlmgeaaGreat.Vo
end

/- The laws' raw images opened (cantlelaw15.open). -/
section
set_option linter.unusedVariables false
set_option linter.unusedSimpArgs false
set_option maxHeartbeats 2000000
set_option maxRecDepth 100000
namespace Go.Proofs.YtgnagbbdnlmgeaaGreat.Ra
open Go Go.RowKit
open Go.Proofs.YtgnagbbdnlmgeaaGreat.Ob Go.Proofs.YtgnagbbdnlmgeaaGreat.Ba Go.Proofs.YtgnagbbdnlmgeaaGreat.Ko Go.Proofs.YtgnagbbdnlmgeaaGreat.Ge Go.Proofs.YtgnagbbdnlmgeaaGreat.Oc Go.Proofs.YtgnagbbdnlmgeaaGreat.Pk Go.Proofs.YtgnagbbdnlmgeaaGreat.Su Go.Proofs.YtgnagbbdnlmgeaaGreat.Rf Go.Proofs.YtgnagbbdnlmgeaaGreat.Dv Go.Proofs.YtgnagbbdnlmgeaaGreat.Vo

theorem devOf_load {L : List Int} {i : Nat} {x : Int} (h : L[i]? = some x) : (Pm.devOf L).load (i : Int) = x := by
  have hi := (List.getElem?_eq_some_iff.1 h).1
  unfold Dev.load Dev.lasting Dev.inn Dev.find Pm.devOf
  simp [hi, h]
  exact (List.getElem?_eq_some_iff.1 h).2

theorem _root_.Go.Proofs.YtgnagbbdnlmgeaaGreat.Vo.VolIs.keep {w w' : World} {v b n m s : Nat} {d : Dev} {g : Lay} (h : VolIs w v b n m s d g) (hv : w'.heap[v]? = w.heap[v]?) (hk : ∀ k ∈ g.foot b, w'.heap[k]? = w.heap[k]?) : VolIs w' v b n m s d g :=
  ⟨hv.trans h.blk, h.dev.keep hk, h.ok, h.len⟩

theorem drew_heap (W : World) (k : Nat) : W.drew.heap[k]? = W.heap[k]? := rfl

/-- an image opened: the volume, the device, the words beside it -/
structure Opn (w W : World) (v b n m s T : Nat) (L : List Int) (g : Lay) (vw : Value) : Prop where
  vol : VolIs W v b n m s (Pm.devOf L) g
  foot : ∀ k ∈ g.foot b, w.heap.size ≤ k
  row : W.ownsRow w.heap.size 94 1 vw T (ivs .u64 L)
  apart : ∀ k, vw.ownBlock = some k → k ∉ g.foot b
  vlo : w.heap.size ≤ v
  below : Below w.heap.size w W

theorem open_ (r0 r1 r2 : Nat) (h0 : r0 < 256) (h1 : r1 < 256) (h2 : r2 < 256) {A : Option Addr} {l : List Int} (c : Nat) {w : World} (h : Rk .u64 w A l) (hl9 : l.length ≤ 9223372036854775807) (n m s T : Nat) (hn : n = gB r0) (hm : m = gB r1) (hs : s = gS r2) (hT : (T : Int) = tot n m s) :
    Calls Tryz.prog 13 #[.agg #[.int .u8 r0, .int .u8 r1, .int .u8 r2, .slice A l.length c]] w fun e w' => ∃ v b g vw, e = .returned (.tuple #[.pointer (some ⟨v, 0, none⟩), .agg (vcells n m s vw)]) ∧ Opn w w' v b n m s T (dws (ints (enc n m s)) l T) g vw := by
  have hu := Tryz.underlying30
  have hok : geoOk n m s = true := by rw [hn, hm, hs]; exact g_ok r0 r1 r2
  have htt := g_tot r0 r1 r2
  rw [← hn, ← hm, ← hs, ← hT] at htt
  have hn9 : n < 65536 := by have := gB_in r0; omega
  have hm9 : m < 65536 := by have := gB_in r1; omega
  have hs9 : s < 65536 := by have := gS_or r2; omega
  have hlen : (dws (ints (enc n m s)) l T).length = T := dws_length _ _ _ rfl (by omega)
  have htk : (dws (ints (enc n m s)) l T).take 8 = ints (enc n m s) := dws_take8 _ _ _ rfl
  have HDV : Hid (∀ {W : World}, Rk .u64 W A l → _) := fun {W} hW => device_ r0 r1 r2 h0 h1 h2 c (w := W) hW hl9 n m s T hn hm hs hT
  have HOP : Hid (∀ {W : World} {b : Nat} {g : Lay}, DevIs W b (Pm.devOf (dws (ints (enc n m s)) l T)) g → _) := fun {W} {b} {g} hD => open_ok hD n m s hok hn9 hm9 hs9 (by show ((dws (ints (enc n m s)) l T).length : Int) = _; rw [hlen, hT]) (by show 8 ≤ (dws (ints (enc n m s)) l T).length; rw [hlen]; omega) (fun i x hx => by
    refine devOf_load ?_
    have hi := (List.getElem?_eq_some_iff.1 hx).1
    have h8 : i < 8 := hi
    have h9 : ((dws (ints (enc n m s)) l T).take 8)[i]? = some (x : Int) := by rw [htk]; exact ints_get hx
    rw [List.getElem?_take, if_pos h8] at h9
    exact h9)
  have HV : Hid (∀ v, vcells n m s v = #[.int .i64 n, .int .i64 m, .int .i64 s, .int .i64 16, .int .i64 (16 + 8 * m), .int .i64 (bmAt n m), .int .i64 (bkAt n m), .int .i64 (tot n m s), v]) := fun _ => rfl
  have H := Lib.hid h
  generalize dws (ints (enc n m s)) l T = L at *
  generalize vcells n m s = vc at *
  obtain ⟨len, hle⟩ : ∃ len, len = l.length := ⟨_, rfl⟩
  rw [← hle] at HDV
  rw [← hle]
  clear h hl9 hn hm hs hT hok htt h0 h1 h2 hlen htk hle hn9 hm9 hs9
  generalize (16 + 8 * m : Int) = p2 at *
  generalize bmAt n m = p3 at *
  generalize bkAt n m = p4 at *
  generalize tot n m s = p5 at *
  go_enter Tryz.func13, Tryz.ntmps13
  go_wp2_with fail
  refine (HDV.out (H.out.below (bl_alloc (bl_alloc (Below.refl _ _) (.cells #[.int .u8 r0, .int .u8 r1, .int .u8 r2, .slice A len c] 24)) (.cells #[.int .i64 0, .int .i64 0, .int .i64 0, .int .i64 0, .int .i64 0, .int .i64 0, .int .i64 0, .int .i64 0, .slice none 0 0] 30)))).mono ?_
  rintro e w1 ⟨b, g, vw, rfl, hd1, hf1, ho1, ha1, hb1⟩
  obtain ⟨A8, c8, e8⟩ := own_slice ho1
  subst e8
  rw [HV.out]
  have hqz := alloc_new (w.alloc (.cells #[.int .u8 r0, .int .u8 r1, .int .u8 r2, .slice A len c] 24)) (.cells #[.int .i64 0, .int .i64 0, .int .i64 0, .int .i64 0, .int .i64 0, .int .i64 0, .int .i64 0, .int .i64 0, .slice none 0 0] 30)
  rw [World.size_alloc] at hqz
  have HZ1 := Lib.hid (blk_bl hqz hb1)
  have hsz := hb1.size
  simp only [World.size_alloc] at hsz hf1 ho1
  have HS1 : Hid (w.heap.size + 2 ≤ w1.heap.size) := hsz
  have HB1 := Lib.hid (bl_then (bl_alloc (bl_alloc (Below.refl _ _) _) _) hb1)
  have hbv : Below w1.heap.size w1 (w1.alloc (.cells #[.int .i64 n, .int .i64 m, .int .i64 s, .int .i64 16, .int .i64 p2, .int .i64 p3, .int .i64 p4, .int .i64 p5, .slice A8 T c8] 30)) := bl_alloc (Below.refl _ _) _
  have HOPN := Lib.hid (HOP.out (hd1.below hbv))
  have HALL := Lib.hid (And.intro hf1 (And.intro ho1 ha1))
  clear hqz hb1 hsz hf1 ho1 ha1 hbv hd1
  go_wp2_with (go_at_call 74; refine HOPN.out.mono ?_; rintro e w2 ⟨v, rfl, hv, hvol, hb2⟩; (have HVB := Lib.hid (blk_bl (alloc_new w1 (.cells #[.int .i64 n, .int .i64 m, .int .i64 s, .int .i64 16, .int .i64 p2, .int .i64 p3, .int .i64 p4, .int .i64 p5, .slice A8 T c8] 30)) hb2)); (have hb3 := bl_then (bl_alloc (Below.refl _ _) _) hb2); (have HZ2 := Lib.hid (blk_bl HZ1.out hb3)); (have HV2 := Lib.hid (And.intro hv hvol)); (have HB3 := Lib.hid hb3); clear hv hvol hb2 hb3)
  have hxv := HVB.out
  have hxz := HZ2.out
  have m0 := cell_of hxv 0
  have m1 := cell_of hxv 1
  have m2 := cell_of hxv 2
  have m3 := cell_of hxv 3
  have m4 := cell_of hxv 4
  have m5 := cell_of hxv 5
  have m6 := cell_of hxv 6
  have m7 := cell_of hxv 7
  have m8 := cell_of hxv 8
  have z0 := cell_of hxz 0
  have z1 := cell_of hxz 1
  have z2 := cell_of hxz 2
  have z3 := cell_of hxz 3
  have z4 := cell_of hxz 4
  have z5 := cell_of hxz 5
  have z6 := cell_of hxz 6
  have z7 := cell_of hxz 7
  have z8 := cell_of hxz 8
  have f0 := free_of hxz 0
  have f1 := free_of hxz 1
  have f2 := free_of hxz 2
  have f3 := free_of hxz 3
  have f4 := free_of hxz 4
  have f5 := free_of hxz 5
  have f6 := free_of hxz 6
  have f7 := free_of hxz 7
  have f8 := free_of hxz 8
  have hz2 : Hid (w.heap.size + 2 ≤ w2.heap.size) := Nat.le_trans HS1.out HB3.out.size
  clear hxv hxz
  go_region
  go_wp2
  have hp9 := put9 HZ2.out (.int .i64 n) (.int .i64 m) (.int .i64 s) (.int .i64 16) (.int .i64 p2) (.int .i64 p3) (.int .i64 p4) (.int .i64 p5) (.slice A8 T c8)
  have hb0 := bl_then HB1.out HB3.out
  have hb9 := bl_put9 hb0 (Nat.le_succ _) (.int .i64 n) (.int .i64 m) (.int .i64 s) (.int .i64 16) (.int .i64 p2) (.int .i64 p3) (.int .i64 p4) (.int .i64 p5) (.slice A8 T c8)
  have hsa := HS1.out
  have ho2 := own_bl HALL.out.2.1 HB3.out
  have ho9 := own_low9 ho2 (q := w.heap.size + 1) (by omega) (.int .i64 n) (.int .i64 m) (.int .i64 s) (.int .i64 16) (.int .i64 p2) (.int .i64 p3) (.int .i64 p4) (.int .i64 p5) (.slice A8 T c8)
  have hvlo : w1.heap.size + 1 ≤ v := by have := HV2.out.1; simpa using this
  refine bodyPost_ret (res_tc (u := 2) rfl _ _ (w.heap.size + 1) 30 _ (0, 0) _ rfl ((drew_heap _ _).trans hp9) hu rfl ?_) rfl ⟨v, b, g, .slice A8 T c8, by rw [HV.out]; rfl, ⟨?_, ?_, own_base (own_kp ho9 (fun _ _ _ => drew_heap _ _)) (by omega), HALL.out.2.2, by omega, bl_drew hb9⟩⟩
  · kernel_rfl
  · exact VolIs.keep HV2.out.2 ((drew_heap _ _).trans (put9_other (by omega))) (fun k hk => (drew_heap _ _).trans (put9_other (by have := HALL.out.1 k hk; omega)))
  · intro k hk
    have := HALL.out.1 k hk
    omega

end Go.Proofs.YtgnagbbdnlmgeaaGreat.Ra
end

/- The laws' looks at a volume: still, wrote. -/
section
set_option linter.unusedVariables false
set_option linter.unusedSimpArgs false
set_option maxHeartbeats 2000000
set_option maxRecDepth 100000
namespace Go.Proofs.YtgnagbbdnlmgeaaGreat.Ra
open Go Go.RowKit
open Go.Proofs.YtgnagbbdnlmgeaaGreat.Ob Go.Proofs.YtgnagbbdnlmgeaaGreat.Ba Go.Proofs.YtgnagbbdnlmgeaaGreat.Ko Go.Proofs.YtgnagbbdnlmgeaaGreat.Ge Go.Proofs.YtgnagbbdnlmgeaaGreat.Oc Go.Proofs.YtgnagbbdnlmgeaaGreat.Pk Go.Proofs.YtgnagbbdnlmgeaaGreat.Su Go.Proofs.YtgnagbbdnlmgeaaGreat.Rf Go.Proofs.YtgnagbbdnlmgeaaGreat.Dv Go.Proofs.YtgnagbbdnlmgeaaGreat.Vo

/-- a world that grew behind one -/
structure Gr (w W : World) : Prop where
  below : Below w.heap.size w W
  size : w.heap.size < W.heap.size
theorem gr_keep {w W W' : World} {c8 : Value} (h : W.cell? ⟨w.heap.size, 8, none⟩ = some c8 ∧ Gr w W) (hb : Below W.heap.size W W') : W'.cell? ⟨w.heap.size, 8, none⟩ = some c8 ∧ Gr w W' := by
  obtain ⟨h1, h2, h3⟩ := h
  exact ⟨(hb.cell (p := ⟨_, 8, none⟩) h3).trans h1, bl_then h2 hb, Nat.lt_of_lt_of_le h3 hb.size⟩
theorem gr_of {w W : World} {c8 : Value} (h : W.cell? ⟨w.heap.size, 8, none⟩ = some c8 ∧ Gr w W) : Gr w W := h.2
theorem gr_start {w W : World} {y0 y1 y2 y3 y4 y5 y6 y7 c8 : Value} {T : TypeId} (h : W = (w.alloc (.cells #[y0, y1, y2, y3, y4, y5, y6, y7, c8] T)).drew) : W.cell? ⟨w.heap.size, 8, none⟩ = some c8 ∧ Gr w W := by
  subst h
  exact ⟨cell_of (alloc_new w _) 8, bl_drew (bl_alloc (Below.refl _ _) _), by show _ < _; simp⟩

end Go.Proofs.YtgnagbbdnlmgeaaGreat.Ra
end

/- The laws' look at a volume that was written: wrote. -/
section
set_option linter.unusedVariables false
set_option linter.unusedSimpArgs false
set_option maxHeartbeats 2000000
set_option maxRecDepth 100000
namespace Go.Proofs.YtgnagbbdnlmgeaaGreat.Ra
open Go Go.RowKit
open Go.Proofs.YtgnagbbdnlmgeaaGreat.Ob Go.Proofs.YtgnagbbdnlmgeaaGreat.Ba Go.Proofs.YtgnagbbdnlmgeaaGreat.Ko Go.Proofs.YtgnagbbdnlmgeaaGreat.Ge Go.Proofs.YtgnagbbdnlmgeaaGreat.Oc Go.Proofs.YtgnagbbdnlmgeaaGreat.Pk Go.Proofs.YtgnagbbdnlmgeaaGreat.Su Go.Proofs.YtgnagbbdnlmgeaaGreat.Rf Go.Proofs.YtgnagbbdnlmgeaaGreat.Dv Go.Proofs.YtgnagbbdnlmgeaaGreat.Vo

theorem stores_any {w : World} {b : Nat} {d : Dev} {g : Lay} (h : DevIs w b d g) :
    Calls Tryz.prog 39 #[.pointer (some ⟨b, 0, none⟩)] w fun e w' => e = .returned (.int .i64 d.stores) ∧ w = w' := by
  obtain ⟨c0, c1, c2, c3, c4, c5⟩ := Pm.dev_cells h
  go_enter Tryz.func39, Tryz.ntmps39
  go_wp2
  go_ret
  exact ⟨rfl, rfl⟩

end Go.Proofs.YtgnagbbdnlmgeaaGreat.Ra
end
