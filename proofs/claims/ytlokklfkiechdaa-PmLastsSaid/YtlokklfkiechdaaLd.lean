/- PmLasts: the law's walk. -/
import Derived.Test.YtlokklfkiechdaaLc
set_option linter.unusedVariables false
set_option linter.unusedSimpArgs false
set_option maxHeartbeats 2000000
namespace Go.Proofs.Ytlokklfkiechdaa.La
open Go Go.RowKit
open Go.ChangeMaps (setBlock)
open Go.Proofs.Ytlokklfkiechdaa.Ob Go.Proofs.Ytlokklfkiechdaa.Mp Go.Proofs.Ytlokklfkiechdaa.Dv Go.Proofs.Ytlokklfkiechdaa.Wl Go.Proofs.Ytlokklfkiechdaa.Cp Go.Proofs.Ytlokklfkiechdaa.Pm

set_option maxRecDepth 100000 in
theorem lasts_no {w : World} {A C : Option Addr} {l : List Act} {a0 : Int} (h : ActsAt w A l) (c cn cc : Nat) (hl : l.length ≤ 9223372036854775807) (hno : fewB l = false ∨ 100 < cn) :
    Calls Try.prog 8 #[.int .u8 a0, .slice A l.length c, .slice C cn cc] w fun e w' => e = .returned (.bool true) ∧ Below w.heap.size w w' := by
  have H := Lib.hid h
  have HL := Lib.hid hl
  have HA : Hid (Below w.heap.size w w) := Below.refl _ _
  clear h hl
  obtain ⟨bf, hbf⟩ : ∃ bf, bf = fewB l := ⟨_, rfl⟩
  have HF := Lib.hid hbf
  rcases (by rcases hno with h | h; exact .inl h; cases hb : fewB l; exact .inl rfl; exact .inr ⟨rfl, h⟩ : fewB l = false ∨ (fewB l = true ∧ 100 < cn)) with hno | ⟨hno, hlt⟩
  all_goals
    rw [hno] at hbf
    subst hbf
    clear hno
    go_enter Try.func8, Try.ntmps8
    go_wp2_with (first | (go_at_call 10; refine (lives_any _).mono ?_; rintro e w1 ⟨rfl, hb0⟩; (have HA' := Lib.hid (bl_then HA.out hb0)); clear HA hb0; (have HA := HA'); clear HA') |
      (go_at_call 24; refine (few_any (H.out.below HA.out) c HL.out).mono ?_; rw [← HF.out]; rintro e w2 ⟨rfl, hb0⟩; (have HA' := Lib.hid (bl_then HA.out hb0)); clear HA hb0; (have HA := HA'); clear HA'))
    go_ret
    exact ⟨rfl, HA.out⟩

theorem info_rows : (Try.prog.info? 32).map (fun i => (i.zero, i.size, i.bytes)) = some (some (.slice none 0 0), 1, 24) := by kernel_rfl
theorem own_ge {W : World} {B T n : Nat} {v : Value} {xs : List Value} (h : W.ownsRow B T 1 v n xs) : ∀ k, v.ownBlock = some k → B ≤ k := by
  obtain ⟨_, ⟨rfl, _⟩ | ⟨g, cap, cur, rfl, hg, _⟩⟩ := h
  · intro k hk; simp [Value.ownBlock] at hk
  · intro k hk; simp [Value.ownBlock] at hk; omega
theorem newDev_len (n : Nat) (h : n ≤ 100) : (newDev n).las.length = n := by
  simp only [newDev, List.length_replicate]
  omega

/-- the slice that came in, below a device that was made -/
theorem ActsAt.mine {w W : World} {A : Option Addr} {l : List Act} {b : Nat} {d : Dev} {g : Lay} (h : ActsAt w A l) (hm : Mine w W b d g) : ActsAt W A l := h.below hm.below

set_option maxRecDepth 100000 in
theorem lasts_yes {w : World} {A C : Option Addr} {l : List Act} {a0 : Int} {cs : List Nat} (h : ActsAt w A l) (c cc : Nat) (h0 : 0 ≤ a0) (h1 : a0 < 256) (hf : fewB l = true) (hc : cs.length ≤ 100) (hcs : ∀ (i x : Nat), cs[i]? = some x → ∃ q off, C = some ⟨q, off, none⟩ ∧ q < w.heap.size ∧ w.cell? ⟨q, off + i, none⟩ = some (.int .u8 x) ∧ x < 256) :
    Calls Try.prog 8 #[.int .u8 a0, .slice A l.length c, .slice C cs.length cc] w fun e w' => e = .returned (.bool true) ∧ Below w.heap.size w w' := by
  have H := Lib.hid h
  have HA : Hid (Below w.heap.size w w) := Below.refl _ _
  have HCS := Lib.hid hcs
  have hl : l.length ≤ 60 := by
    simp only [fewB, Bool.and_eq_true, decide_eq_true_eq] at hf
    exact hf.2
  have HF := Lib.hid hf
  obtain ⟨n, hn⟩ : ∃ n : Nat, a0 % 101 = n := ⟨(a0 % 101).toNat, by omega⟩
  have hn1 : n ≤ 100 := by omega
  have HN := Lib.hid hn
  have HNL := Lib.hid (newDev_len n hn1)
  obtain ⟨m, hm⟩ : ∃ m, m = l.length := ⟨_, rfl⟩
  rw [← hm] at hl ⊢
  have HM := Lib.hid hm
  clear h hcs hf hm hn
  go_enter Try.func8, Try.ntmps8
  go_wp2_with (first | (go_at_call 10; refine (lives_any _).mono ?_; rintro e w1 ⟨rfl, hb0⟩; (have HA' := Lib.hid (bl_then HA.out hb0)); clear HA hb0; (have HA := HA'); clear HA') |
      (go_at_call 24; (have hfe := few_any (H.out.below HA.out) c (by rw [← HM.out]; omega)); rw [← HM.out] at hfe; refine hfe.mono ?_; rw [HF.out]; rintro e w2 ⟨rfl, hb0⟩; clear hfe; (have HA' := Lib.hid (bl_then HA.out hb0)); clear HA hb0; (have HA := HA'); clear HA') |
      (go_at_call 11; (have hnd := new_any n); rw [← HN.out] at hnd; refine (hnd _).mono ?_; rw [HN.out]; rintro e w3 ⟨_, rfl, b, g0, rfl, h1, h2, h3⟩; (have M0 := Lib.hid (Mine.mk h1 (fun k hk => Nat.le_trans HA.out.size (h2 k hk)) (bl_then HA.out h3))); clear h1 h2 h3 hnd))
  have hst0 : Hid ((newDev (n : Int)).steps = 0) := rfl
  go_loopw [37] (fun c37 wr => ∃ i : Nat, i ≤ m ∧ c37 = .int .i64 i ∧ ∃ g, Hid (Mine w wr b (runs (newDev n) (l.take i)) g)) (fun c37 _ => m - (intOf c37).toNat)
  case atStart => exact ⟨0, Nat.zero_le _, rfl, g0, M0⟩
  case round =>
    obtain ⟨i, hi, rfl, g, HR⟩ := hrel
    by_cases hlt : i < m
    · obtain ⟨x, hx⟩ : ∃ x, l[i]? = some x := ⟨_, List.getElem?_eq_getElem (by rw [← HM.out]; exact hlt)⟩
      obtain ⟨hw, q, off, rfl, hq, e1, e2, e3, e4⟩ := (H.out.mine HR.out) i x hx
      have HX := Lib.hid hx
      have HW := Lib.hid hw
      have k0 := hw.k0
      have k1 := hw.k1
      have hs : (runs (newDev n) (l.take i)).steps < 1099511627776 := by
        have h1 := (runs_steps (newDev n) (l.take i)).1
        have h2 := hst0.out
        have h3 := List.length_take_le i l
        omega
      have HS := Lib.hid hs
      clear hx hw hq hs
      by_cases hk : x.k % 8 < 6
      · go_wp2_with (go_at_call 25; refine (play_any (d := runs (newDev n) (l.take i)) (g := g) ?hh x HW.out hk HS.out).mono ?_; (case hh => exact HR.out.dev.below (bl_alloc (Below.refl _ _) _)); rintro e w4 ⟨⟨v, rfl⟩, hd⟩; (obtain ⟨g', m'⟩ := (HR.out.below_ (bl_alloc (Below.refl _ _) _)).to hd); (have M' := Lib.hid m'); clear hd m')
        go_roundw
        case rel => exact ⟨i + 1, by omega, by go_num, g', by show Mine _ _ _ _ _; rw [take_snoc HX.out, runs_snoc, if_pos hk]; exact M'.out⟩
        case measure => simp [intOf]; omega
      · have hk' : 6 ≤ x.k % 8 := by omega
        go_wp2
        go_roundw
        case rel => exact ⟨i + 1, by omega, by go_num, g, by show Mine _ _ _ _ _; rw [take_snoc HX.out, runs_snoc, if_neg hk]; exact HR.out.below_ (bl_alloc (Below.refl _ _) _)⟩
        case measure => simp [intOf]; omega
    · obtain rfl : i = m := by omega
      have htk : l.take i = l := List.take_of_length_le (by rw [← HM.out]; omega)
      obtain ⟨d, hd⟩ : ∃ d, d = runs (newDev n) l := ⟨_, rfl⟩
      rw [htk, ← hd] at HR
      have HDL : Hid (d.las.length = n) := by
        have h1 := (runs_steps (newDev n) l).2
        have h2 := HNL.out
        show d.las.length = n
        rw [hd, h1, h2]
      clear htk hd hlt hi
      generalize wr = wA at *
      have cl : decide ((i : Int) < (i : Int)) = false := by simp
      obtain ⟨i0, hinf, hz0, hz1, hz2⟩ := info_parts info_rows
      go_wp2_with (go_at_call 12; refine (len_any HR.out.dev).mono ?_; rw [HDL.out]; rintro e w5 ⟨rfl, rfl⟩)
      go_loopw [52, 10] (fun c52 c10 wq => ∃ j : Nat, j ≤ n ∧ c52 = .int .i64 j ∧ ∃ xs, Hid (Below wA.heap.size wA wq ∧ wq.ownsRow wA.heap.size 32 1 c10 j xs ∧ Mays wA.heap.size d wq xs j)) (fun c52 _ _ => n - (intOf c52).toNat)
      case atStart => exact ⟨0, Nat.zero_le _, rfl, [], Below.refl _ _, World.ownsRow_nil _ _ _ _, ⟨rfl, by simp⟩⟩
      case round =>
        obtain ⟨j, hj, rfl, xs, HQ⟩ := hrel
        by_cases hlt : j < n
        · go_wp2_with (first | (go_at_call 26; refine (may_any (HR.out.dev.below HQ.out.1) (j : Int)).mono ?_; rintro e w6 ⟨v, rfl, ho, hb⟩; (obtain ⟨Av, cv, qv, rfl, -, -⟩ := Sl.of_own ho); (have HO := Lib.hid ho); (have HB := Lib.hid hb); (have HOW := Lib.hid (fun o : Obj => own_keep (W' := w6.alloc o) HQ.out.2.1 (fun k _ hk => (Below.heap_alloc _ _ k (Nat.lt_of_lt_of_le hk HB.out.size)).trans (HB.out.block k hk)))); clear ho hb) |
            (at_builtin; refine wpList_append_own _ rfl (.tmp 55) (.tmp 59) 63 rfl wA.heap.size 32 i0 (.slice none 0 0) 1 24 Try.underlying63 hinf hz0 hz1 hz2 rfl (by decide) _ j xs rfl (HOW.out _) ⟨w6.heap.size, 0, none⟩ 1 1 [.slice Av (d.may (j : Int)).length cv] rfl rfl (by intro t u ht; match t, ht with | 0, ht => simp at ht; subst ht; simp [Addr.add]) (by intro u hu; simp at hu; subst hu; rfl) (by unfold maxLen; omega) (by omega) (by have h1 := HQ.out.1.size; have h2 := HB.out.size; simp; omega) ?_; intro v' w7 hown' hgrow _; (have HO' := Lib.hid hown'); (have HG := Lib.hid hgrow); clear hown' hgrow))
          have hrow : ∀ k, (u10 : Value).ownBlock = some k → wA.heap.size ≤ k := own_ge HQ.out.2.1
          have ha : Below wr.heap.size wr (w6.alloc (.cells #[.slice Av (d.may (j : Int)).length cv] 32)) := bl_alloc HB.out _
          have hx1 : Below wA.heap.size wA w7 := (bl_then HQ.out.1 ha).grown HG.out (Nat.le_trans HQ.out.1.size ha.size) hrow
          have hm := HQ.out.2.2.more (own_keep HO.out (fun k _ hk => Below.heap_alloc _ _ k hk)) HQ.out.1.size ha HQ.out.2.1 (by decide) HG.out
          have HZ := Lib.hid (And.intro hx1 (And.intro HO'.out hm))
          clear hrow ha hx1 hm
          go_roundw
          case rel => exact ⟨j + 1, by omega, by go_num, _, HZ.out⟩
          case measure => simp [intOf]; omega
        · obtain rfl : j = n := by omega
          clear hlt hj
          obtain ⟨Ao, co, qo, rfl, -, -⟩ := Sl.of_own HQ.out.2.1
          have HFT : Hid (∀ k ∈ g.foot b, k < wA.heap.size) := HR.out.dev.lt
          have HBT : Hid (Bts wr C cs (g.foot b)) := by
            intro t x ht
            obtain ⟨q, off, h1, h2, h3, h4⟩ := HCS.out t x ht
            have hb := (HR.out.below_ HQ.out.1).below
            exact ⟨q, off, h1, fun hf => by have := HR.out.own q hf; omega, Nat.lt_of_lt_of_le h2 hb.size, by rw [cell_block (hb.block q h2)]; exact h3, h4⟩
          go_wp2_with (go_at_call 27; refine (crash_any (HR.out.dev.below HQ.out.1) C cc cs (by omega) HBT.out).mono ?_; rintro e w8 ⟨rfl, hd⟩; (obtain ⟨g', r1, r2, r3⟩ := hd); (have HOU : Hid (w8.ownsRow wA.heap.size 32 1 (.slice Ao j co) j xs) := own_keep HQ.out.2.1 (fun k hk1 hk2 => r3.block k hk2 (fun hf => by have := HFT.out k hf; omega))); (have HMY : Hid (Mays wA.heap.size d w8 xs j) := HQ.out.2.2.upd r3 HFT.out); (have HDV : Hid (DevIs w8 b (crashed d cs) g') := r1); (have HBL : Hid (Below w.heap.size w w8) := ((HR.out.below_ HQ.out.1).to ⟨g', r1, r2, r3⟩).choose_spec.below); clear r1 r2 r3)
          have hno : decide ((j : Int) < (j : Int)) = false := by simp
          go_loopw [67] (fun c67 wq => ∃ t : Nat, t ≤ j ∧ c67 = .int .i64 t ∧ Hid (Below w8.heap.size w8 wq)) (fun c67 _ => j - (intOf c67).toNat)
          case atStart => exact ⟨0, Nat.zero_le _, rfl, Below.refl _ _⟩
          case round =>
            obtain ⟨t, ht, rfl, HQ2⟩ := hrel
            by_cases hlt : t < j
            · have hmy := HMY.out.below HQ2.out
              have hou := own_keep (W' := wr) HOU.out (fun k _ hk => HQ2.out.block k hk)
              obtain ⟨v, hv⟩ : ∃ v, xs[t]? = some v := ⟨_, List.getElem?_eq_getElem (by rw [hmy.len]; exact hlt)⟩
              obtain ⟨Ar, cr, qr, rfl, hsl, -⟩ := hmy.at_ t v hv
              obtain ⟨Ao', co', qo', heo, hso, -⟩ := Sl.of_own hou
              simp only [Value.slice.injEq, true_and] at heo
              obtain ⟨rfl, rfl⟩ := heo
              obtain ⟨qz, oz, cz, rfl, -, -, -, hcz, -⟩ := hso.at_ hv
              have hdv := HDV.out.below HQ2.out
              have hnl : t < d.las.length := by rw [HDL.out]; exact hlt
              have hwf := (HR.out.dev).wf
              obtain ⟨x, hx⟩ : ∃ x, x = (crashed d cs).las.getD t 0 := ⟨_, rfl⟩
              have hmem := crashed_las d hwf cs t hnl
              have hld := load_any hdv (t : Int)
              rw [crashed_load d cs t hnl, ← hx] at hld
              have hls := fun (W : World) (n : Nat) (h : W = wr.drewN n) => lasting_any (w := W) (hdv.keep (by subst h; exact fun _ _ => rfl)) (t : Int)
              rw [crashed_lasting d cs t hnl, ← hx] at hls
              have hma := fun (W : World) (n : Nat) (h : W = wr.drewN n) => may_any (w := W) (hdv.keep (by subst h; exact fun _ _ => rfl)) (t : Int)
              rw [crashed_may d cs t hnl, ← hx] at hma
              rw [← hx] at hmem
              have HLD := Lib.hid hld
              have HLS := Lib.hid hls
              have HMA := Lib.hid hma
              have HMEM := Lib.hid hmem
              have HSL := Lib.hid hsl
              have hlen := may_len hwf (t : Int)
              clear hmy hou hv hsl hso hdv hnl hwf hx hmem hld hls hma
              generalize d.may (t : Int) = L at *
              go_wp2_with (go_at_call 13; refine HLD.out.mono ?_; rintro e w9 ⟨rfl, n9, hw9⟩; (have HW9 := Lib.hid hw9); clear hw9)
              have HSL9 : Hid (Sl w9 26 Ar cr (u64s L) qr) := HSL.out.keep (fun q _ => by rw [HW9.out]; rfl)
              go_loop [77, 15] (fun c77 c15 => ∃ (s : Nat) (bi : Bool), s ≤ L.length ∧ c77 = .int .i64 s ∧ c15 = .bool bi ∧ Hid (bi = decide (x ∈ L.take s))) (fun c77 _ => L.length - (intOf c77).toNat)
              case atStart => exact ⟨0, false, Nat.zero_le _, rfl, rfl, by show false = _; simp⟩
              case round =>
                obtain ⟨s, bi, hs, rfl, rfl, HBI⟩ := hrel
                by_cases hl2 : s < L.length
                · obtain ⟨y, hy⟩ : ∃ y, L[s]? = some y := ⟨_, List.getElem?_eq_getElem hl2⟩
                  obtain ⟨q2, o2, c2, rfl, -, -, -, hc2, -⟩ := HSL9.out.at_ (i := s) (v := .int .u64 y) (by rw [u64s, List.getElem?_map, hy]; rfl)
                  have HY := Lib.hid hy
                  clear hy
                  have hnx : ∀ bj : Bool, bj = (bi || decide (x = y)) → Hid (bj = decide (x ∈ L.take (s + 1))) := by
                    intro bj hbj
                    obtain ⟨hi2, hy2⟩ := List.getElem?_eq_some_iff.1 HY.out
                    show bj = _
                    rw [hbj, HBI.out, List.take_succ_eq_append_getElem hi2, hy2]
                    by_cases h1 : x ∈ List.take s L <;> by_cases h2 : x = y <;> simp [h1, h2]
                  have HNX := Lib.hid hnx
                  clear hnx
                  by_cases hxy : x = y
                  · have e1 : (x == y) = true := beq_iff_eq.2 hxy
                    have EX := Lib.hid hxy
                    clear hxy
                    cases bi
                    all_goals
                      go_wp2
                      go_round
                      case rel => exact ⟨s + 1, _, by omega, by go_num, rfl, HNX.out _ (by simp [EX.out])⟩
                      case measure => simp [intOf]; omega
                  · have e1 : (x == y) = false := beq_eq_false_iff_ne.2 hxy
                    have EX := Lib.hid hxy
                    clear hxy
                    cases bi
                    all_goals
                      go_wp2
                      go_round
                      case rel => exact ⟨s + 1, _, by omega, by go_num, rfl, HNX.out _ (by simp [EX.out])⟩
                      case measure => simp [intOf]; omega
                · obtain rfl : s = L.length := by omega
                  obtain rfl : bi = true := by rw [HBI.out, List.take_length]; simpa using HMEM.out
                  have HL9 := Lib.hid (HLS.out w9 n9 HW9.out)
                  have HM9 := Lib.hid (HMA.out w9 n9 HW9.out)
                  have HB9 : Hid (Below w8.heap.size w8 w9) := by
                    have := bl_drewN HQ2.out n9
                    rw [← HW9.out] at this
                    exact this
                  have hz : (1 : Nat) = 1 := rfl
                  go_wp2_with (first | (go_at_call 28; refine HL9.out.mono ?_; rintro e w10 ⟨rfl, rfl⟩) |
                    (go_at_call 26; refine HM9.out.mono ?_; rintro e w11 ⟨v, rfl, ho, hb⟩; (obtain ⟨Af, cf, qf, rfl, -, -⟩ := Sl.of_own ho); (have HB11 := Lib.hid (bl_then HB9.out hb)); clear ho hb))
                  go_roundw
                  case rel => exact ⟨t + 1, by omega, by go_num, HB11.out⟩
                  case measure => simp [intOf]; omega
            · obtain rfl : t = j := by omega
              have hdn := fun W h => down_any (w := W) (b := b) (d := crashed d cs) (g := g') h
              rw [crashed_down] at hdn
              have HDN := Lib.hid (hdn _ (HDV.out.below HQ2.out))
              clear hdn
              go_wp2_with (go_at_call 29; refine HDN.out.mono ?_; rintro e w12 ⟨rfl, rfl⟩)
              go_ret
              exact ⟨rfl, bl_then HBL.out HQ2.out⟩

end Go.Proofs.Ytlokklfkiechdaa.La
