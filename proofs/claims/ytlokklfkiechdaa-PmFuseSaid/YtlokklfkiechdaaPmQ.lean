/- A device's crash. -/
import Derived.Test.YtlokklfkiechdaaPmP
import Derived.Deep.RegionWith
set_option linter.unusedVariables false
set_option linter.unusedSimpArgs false
set_option maxHeartbeats 1000000
namespace Go.Proofs.Ytlokklfkiechdaa.Pm
open Go Go.RowKit
open Go.ChangeMaps (setBlock)
open Go.Proofs.Ytlokklfkiechdaa.Ob Go.Proofs.Ytlokklfkiechdaa.Mp Go.Proofs.Ytlokklfkiechdaa.Dv Go.Proofs.Ytlokklfkiechdaa.Wl Go.Proofs.Ytlokklfkiechdaa.Cp

theorem CrRel.drew {b : Nat} {d : Dev} {g : Lay} {cs : List Nat} {A : Option Addr} {c : Nat} {qs : List Nat} {w2 wr : World} {i : Nat} (h : CrRel b d g cs A c qs w2 wr i) : CrRel b d g cs A c qs w2 wr.drew i := by
  obtain ⟨⟨las, h1, r⟩, h2, h3⟩ := h
  exact ⟨⟨las, h1.keep (fun _ _ => rfl), r⟩, h2.drew, h3.keep (fun _ _ => rfl)⟩
/-- Nothing is pending, and no fuse is laid any more. -/
theorem cr_end {w W4 : World} {b : Nat} {d : Dev} {las : List Int} {g : Lay} (h : DevIs w b { d with las := las } g) (hm : Only g.M (obj (kInt .i64) [] g.clock) w W4) (hw : Dev.Wf { d with las := las, opn := [], fuse := none }) :
    DevIs ((W4.setCell ⟨b, 4, none⟩ (.bool false)).setCell ⟨b, 5, none⟩ (.int .i64 0)) b { d with las := las, opn := [], fuse := none } { g with es := [] } ∧ (∀ k ∈ ({ g with es := [] } : Lay).foot b, k ∈ g.foot b) ∧ Upd (g.foot b) w ((W4.setCell ⟨b, 4, none⟩ (.bool false)).setCell ⟨b, 5, none⟩ (.int .i64 0)) := by
  have hnd := h.nd
  simp only [Lay.foot, List.nodup_cons, List.mem_cons, List.mem_append, not_or] at hnd
  obtain ⟨⟨b1, b2, b3⟩, ⟨m1, m2⟩, l1⟩ := hnd
  have hb := set_b (set_b (hm.blk h.blk b1) 4 (.bool false) rfl) 5 (.int .i64 0) rfl
  have hf : ∀ k ∈ ({ g with es := [] } : Lay).foot b, k ∈ g.foot b := by
    intro k hk
    simp only [Lay.foot, Lay.ents, List.flatMap_nil, List.append_nil, List.mem_cons] at hk
    simp only [Lay.foot, List.mem_cons, List.mem_append]
    rcases hk with r | r | r
    · exact .inl r
    · exact .inr (.inl r)
    · exact .inr (.inr (.inl r))
  refine ⟨⟨?_, ?_, ?_, by simp, rfl, ?_, by simp, by simp, hw⟩, hf, ?_⟩
  · rw [hb]
    rfl
  · refine h.las.keep fun q hq => ?_
    have e : q ≠ b := fun e => b2 (by rw [← e]; exact hq)
    rw [Below.heap_setCell _ _ _ _ e, Below.heap_setCell _ _ _ _ e]
    exact hm.far q (fun e => m1 (e ▸ hq))
  · exact set_other (set_other hm.here (fun e => b1 e.symm) _) (fun e => b1 e.symm) _
  · simp only [Lay.foot, Lay.ents, List.flatMap_nil, List.append_nil, List.nodup_cons, List.mem_cons, not_or]
    exact ⟨⟨b1, b2⟩, m1, (List.nodup_append.1 l1).1⟩
  · exact ((hm.upd (g.foot b) (by simp [Lay.foot])).setCell (by simp [Lay.foot]) _).setCell (by simp [Lay.foot]) _

theorem getD_at {l : List Int} {f : Int → Value} {i : Nat} (h : i < l.length) : (l.map f)[i]? = some (f (l.getD i 0)) := by
  rw [List.getElem?_map, List.getElem?_eq_getElem h, List.getD_eq_getElem?_getD, List.getElem?_eq_getElem h]
  rfl
theorem may_len {d : Dev} (h : d.Wf) (k : Int) : (d.may k).length ≤ 1099511627777 := by
  unfold Dev.may
  split
  · cases hf : d.find k with
    | none => simp
    | some p =>
      have : p.l.length ≤ d.stores := by
        unfold Dev.find at hf
        simp only [Option.map_eq_some_iff] at hf
        obtain ⟨y, hy, rfl⟩ := hf
        exact h.few y (List.mem_of_find?_eq_some hy)
      have h1 := h.st
      have h2 := h.lim
      simp
      omega
  · simp

set_option maxRecDepth 100000 in
theorem crash_any {w : World} {b : Nat} {d : Dev} {g : Lay} (h : DevIs w b d g) (C : Option Addr) (cc : Nat) (cs : List Nat) (hcs : cs.length ≤ 1000000) (hcr : Bts w C cs (g.foot b)) :
    Calls Try.prog 27 #[.pointer (some ⟨b, 0, none⟩), .slice C cs.length cc] w fun e w' => e = .returned (.int .i64 d.opn.length) ∧ DevTo w w' b g (crashed d cs) := by
  obtain ⟨c0, c1, c2, c3, c4, c5⟩ := dev_cells h
  have H := Lib.hid h
  have HCR := Lib.hid hcr
  have hol := opn_len h.wf
  clear c0 c1 c4 c5 h hcr
  go_enter Try.func27, Try.ntmps27
  go_wp2_with (first | (go_at_call 55; refine (keys_call _ _).mono ?_; rintro e w1 ⟨rfl, rfl⟩) |
    (go_at_call 54; refine (sorted_call H.out).mono ?_; rintro e w2 ⟨v, ss, rfl, hp, hrow, hb⟩; (have HP := Lib.hid hp); (obtain ⟨A, c, qs, rfl, hsl, hqs⟩ := Sl.of_own hrow); (have HS := Lib.hid (And.intro hsl hqs)); (have HB := Lib.hid hb); clear hp hrow hb hsl hqs))
  obtain ⟨n, hn⟩ : ∃ n, n = ss.length := ⟨_, rfl⟩
  have hnl : n ≤ 4194304 := by
    have := HP.out.length_eq
    rw [List.length_map] at this
    omega
  rw [← hn]
  have HN : Hid (n = d.opn.length ∧ (keysOf d).length = n) := by
    have h1 := HP.out.length_eq
    rw [List.length_map] at h1
    have h2 := (keys_perm d).length_eq
    rw [List.length_map] at h2
    exact ⟨by omega, by omega⟩
  have HB2 : Hid (Upd (g.foot b) w w2 ∧ w.heap.size + 1 ≤ w2.heap.size) := by
    have hb := HB.out
    have := hb.size
    simp only [World.size_alloc] at this
    exact ⟨((Upd.refl _ _).alloc _).trans (Upd.of_below (F := []) (by rw [World.size_alloc]; exact hb)) (by simp), this⟩
  have HD : Hid (DevIs w2 b d g) := by
    refine H.out.keep fun k hk => ?_
    have hlt := H.out.lt k hk
    rw [HB.out.block k (by omega)]
    exact Below.heap_alloc _ _ _ hlt
  have HR0 : Hid (CrRel b d g cs A c qs w2 w2 0) := by
    refine cr_start HD.out ?_
    have := HS.out.1
    rw [keys_of_perm HP.out] at this
    exact this
  have HQ : Hid (∀ q ∈ qs, q ∉ g.foot b) := by
    intro q hq hf
    have h1 := HS.out.2 q hq
    have h2 := H.out.lt q hf
    omega
  have HCR2 : Hid (Bts w2 C cs (g.foot b)) := HCR.out.upd (G := []) (((Upd.refl _ _).alloc _).trans (Upd.of_below (F := []) (by rw [World.size_alloc]; exact HB.out)) (by simp)) (by simp)
  clear hn HP HS HB
  go_loopw [18] (fun c18 wr => ∃ i : Nat, i ≤ n ∧ c18 = .int .i64 i ∧ Hid (CrRel b d g cs A c qs w2 wr i)) (fun c18 _ => n - (intOf c18).toNat)
  case atStart => exact ⟨0, Nat.zero_le _, rfl, HR0⟩
  case round =>
    obtain ⟨i, hi, rfl, HR⟩ := hrel
    by_cases hlt : i < n
    · obtain ⟨k, hk⟩ : ∃ k, (keysOf d)[i]? = some k := ⟨_, List.getElem?_eq_getElem (by rw [HN.out.2]; exact hlt)⟩
      obtain ⟨k0, k1, k2, k3⟩ := key_facts H.out.wf hk
      obtain ⟨kn, hkn⟩ : ∃ kn : Nat, k = kn := ⟨k.toNat, by omega⟩
      subst hkn
      obtain ⟨q, off, csz, rfl, -, -, -, hcell, -⟩ := HR.out.sl.at_ (i := i) (v := .int .i64 kn) (by rw [List.getElem?_map, hk]; rfl)
      obtain ⟨las, h1, h2, h3, h4⟩ := HR.out.dev
      have hm := may_any h1 (kn : Int)
      have hml := may_las h2 (h3 (kn : Int) (by
        obtain ⟨hi', hk'⟩ := List.getElem?_eq_some_iff.1 hk
        rw [List.drop_eq_getElem_cons hi', hk']
        exact List.mem_cons_self))
      rw [hml] at hm
      have HM := Lib.hid hm
      have H1 := Lib.hid (And.intro h1 h2)
      have hpos : 0 < (d.may (kn : Int)).length := by simp [Dev.may, k2]
      have hmle : (d.may (kn : Int)).length ≤ 1099511627777 := may_len H.out.wf _
      clear k0 k2 k3 hm h1 h2 h3 h4 hml c2 c3
      have hgo : ∀ (w3 : World) (v : Value) (x : Nat), x = cs.getD i 0 → w3.ownsRow wr.heap.size 26 1 v (d.may (kn : Int)).length (u64s (d.may (kn : Int))) → Below wr.heap.size wr w3 → ∃ m A3 c3 q3 o3 qL offL cL y old,
          v = .slice (some ⟨q3, o3, none⟩) m c3 ∧ 0 < m ∧ m ≤ 1099511627777 ∧ w3.cell? ⟨b, 2, none⟩ = some (.slice (some ⟨qL, offL, none⟩) d.las.length cL) ∧ w3.cell? ⟨q3, o3 + x % m, none⟩ = some (.int .u64 y) ∧ w3.cell? ⟨qL, offL + kn, none⟩ = some old ∧ w3.frozen? ⟨qL, offL + kn, none⟩ = false ∧
          Hid (CrRel b d g cs (some ⟨q, off, none⟩) c qs w2 (w3.setCell ⟨qL, offL + kn, none⟩ (.int .u64 y)) (i + 1)) ∧ A3 = 0 := by
        rintro w3 v x rfl ho hb
        obtain ⟨A3, c3, q3', rfl, hsl, -⟩ := Sl.of_own ho
        have hlt3 := Nat.mod_lt (cs.getD i 0) hpos
        obtain ⟨q3, o3, cz, rfl, -, -, -, hcv, -⟩ := hsl.at_ (i := cs.getD i 0 % (d.may (kn : Int)).length) (v := .int .u64 ((d.may (kn : Int)).getD (cs.getD i 0 % (d.may (kn : Int)).length) 0)) (getD_at hlt3)
        have h3 := H1.out.1.below hb
        obtain ⟨d0, d1, d2, d3, d4, d5⟩ := dev_cells h3
        obtain ⟨qL, offL, csL, hA, hLs, hbL, hcL, hcellL, hfrL⟩ := h3.las.at_ (i := kn) (v := .int .u64 (las.getD kn 0)) (by simp [u64s]; have := H1.out.2; rw [List.getElem?_eq_getElem (by omega)]; rfl)
        simp only at d2
        rw [hA, H1.out.2] at d2
        refine ⟨_, 0, c3, q3, o3, qL, offL, g.c, _, _, rfl, hpos, hmle, d2, hcv, hcellL, hfrL, ?_, rfl⟩
        exact cr_turn HR.out H.out.wf hk HQ.out hb hA hLs
      have HGO := Lib.hid hgo
      have HK := Lib.hid hk
      clear hgo hk hpos hmle
      by_cases hic : i < cs.length
      · obtain ⟨x, hx⟩ : ∃ x, cs[i]? = some x := ⟨_, List.getElem?_eq_getElem hic⟩
        obtain ⟨qc, oc, rfl, -, -, hcc, hx9⟩ := (HCR2.out.upd HR.out.upd (by intro z hz; simp [Lay.foot, hz])) i x hx
        have HX : Hid (x = cs.getD i 0) := by show x = _; rw [List.getD_eq_getElem?_getD, hx]; rfl
        clear hx
        go_wp2_with (go_at_call 26; refine HM.out.mono ?_; rintro e w3 ⟨v, rfl, ho, hb⟩; (obtain ⟨m, A3, c3, q3, o3, qL, offL, cL, y, old, rfl, m0, m1, d2, hcv, hcl, hfl, hrel, rfl⟩ := HGO.out w3 v x HX.out ho hb); (have HREL := Lib.hid hrel); clear ho hb hrel)
        have hmod : (x : Int).tmod m = ((x % m : Nat) : Int) := by rw [Int.tmod_eq_emod_of_nonneg (by omega)]; rfl
        have hml : x % m < m := Nat.mod_lt _ m0
        generalize x % m = xm at *
        go_region
        go_wp2
        go_roundw
        case rel => exact ⟨i + 1, by omega, by go_num, HREL.out.drew⟩
        case measure => simp [intOf]; omega
      · have HX : Hid (0 = cs.getD i 0) := by show 0 = _; rw [List.getD_eq_getElem?_getD, List.getElem?_eq_none (by omega)]; rfl
        go_wp2_with (go_at_call 26; refine HM.out.mono ?_; rintro e w3 ⟨v, rfl, ho, hb⟩; (obtain ⟨m, A3, c3, q3, o3, qL, offL, cL, y, old, rfl, m0, m1, d2, hcv, hcl, hfl, hrel, rfl⟩ := HGO.out w3 v 0 HX.out ho hb); (have HREL := Lib.hid hrel); clear ho hb hrel)
        have hmod : (0 : Int).tmod m = 0 := Int.zero_tmod _
        simp only [Nat.zero_mod, Nat.add_zero] at hcv
        go_region
        go_wp2
        go_roundw
        case rel => exact ⟨i + 1, by omega, by go_num, HREL.out.drew⟩
        case measure => simp [intOf]; omega
    · obtain rfl : i = n := by omega
      clear hlt hi
      obtain ⟨las, h1, h2, h3, h4⟩ := HR.out.dev
      rw [List.drop_eq_nil_of_le (Nat.le_of_eq HN.out.2), crashLas] at h4
      subst h4
      have HU := Lib.hid HR.out.upd
      obtain ⟨d0, d1, d2, d3, d4, d5⟩ := dev_cells h1
      have HM := Lib.hid h1.map
      have H1 := Lib.hid h1
      have HNE : Hid (b ≠ g.M) := by
        have := h1.nd
        simp only [Lay.foot, List.nodup_cons, List.mem_cons, not_or] at this
        exact this.1.1
      clear d0 d1 d2 d4 d5 h1 h2 h3 c2 c3
      go_wp2_with ((with_reducible refine gate_builtin (b := .clear) (xs := #[.tmp 52]) rfl ?_); refine wpl_clear (kInt .i64) (g.es.map Ent.en) rfl _ _ rfl Try.underlying71 rfl HM.out ?_; intro W4 hW4; (have e4 := cell_of (hW4.blk H1.out.blk HNE.out) 4); (have e5 := cell_of (hW4.blk H1.out.blk HNE.out) 5); (have f4 := free_of (hW4.blk H1.out.blk HNE.out) 4); (have f5 := free_of (hW4.blk H1.out.blk HNE.out) 5); simp only [cellsOf, List.getElem?_toArray, List.getElem?_cons_zero, List.getElem?_cons_succ] at e4 e5; (have HW4 := Lib.hid hW4); clear hW4)
      go_ret
      obtain ⟨r1, r2, r3⟩ := cr_end H1.out HW4.out (crashed_wf d H.out.wf cs)
      refine ⟨by rw [HN.out.1]; rfl, { g with es := [] }, r1, fun k hk => .inl (r2 k hk), HB2.out.1.trans ((HU.out.mono (F1 := g.foot b) (fun x hx => .inl (by simp [Lay.foot, hx]))).trans r3 (fun x hx => .inl hx)) (fun x hx => .inl hx)⟩

end Go.Proofs.Ytlokklfkiechdaa.Pm
