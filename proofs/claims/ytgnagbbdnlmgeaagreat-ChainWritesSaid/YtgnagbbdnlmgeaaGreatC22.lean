/- Parts of the proof, one behind the other: Hc, Hw, Ar. -/
import Derived.Test.YtgnagbbdnlmgeaaGreatC17
import Derived.Test.YtgnagbbdnlmgeaaGreatC21
import Derived.Deep.QuietTactic
import Derived.BigQuiet
import Derived.Test.YtgnagbbdnlmgeaaGreatC06
import Derived.Deep.SlicePairs

/- cantlelaw16.may. -/
section
set_option linter.unusedVariables false
set_option linter.unusedSimpArgs false
set_option maxHeartbeats 4000000
set_option maxRecDepth 100000
namespace Go.Proofs.YtgnagbbdnlmgeaaGreat.Tr
open Go Go.RowKit
open Go.Proofs.YtgnagbbdnlmgeaaGreat.Rr Go.Proofs.YtgnagbbdnlmgeaaGreat.Ob Go.Proofs.YtgnagbbdnlmgeaaGreat.Ba Go.Proofs.YtgnagbbdnlmgeaaGreat.Oc Go.Proofs.YtgnagbbdnlmgeaaGreat.Pk Go.Proofs.YtgnagbbdnlmgeaaGreat.Ko Go.Proofs.YtgnagbbdnlmgeaaGreat.Dv Go.Proofs.YtgnagbbdnlmgeaaGreat.Vo Go.Proofs.YtgnagbbdnlmgeaaGreat.Ra Go.Proofs.YtgnagbbdnlmgeaaGreat.Su Go.Proofs.YtgnagbbdnlmgeaaGreat.Lo Go.Proofs.YtgnagbbdnlmgeaaGreat.Je

/-- the first i parts may be -/
structure Mp (n : Nat) (l : List Int) (rs : List (Int × Int)) (i : Nat) : Prop where
  range : ∀ x ∈ l.take i, 0 ≤ x ∧ x < n
  nodup : (l.take i).Nodup
  runs : ∀ p ∈ rs.take i, badR n p = false

theorem may16_ {w : World} {A : Option Addr} {l : List Int} (hA : Rk .i64 w A l) (cA : Nat) (hc : l.length ≤ cA) (hl : l.length ≤ 1000000000) (hcA : cA ≤ 9223372036854775807) {B : Option Addr} {rs : List (Int × Int)} (hB : RR w B rs) (cB : Nat) (hr : rs.length ≤ 1000000000) (n : Nat) (hn : n ≤ 65534) :
    Calls Tryz.prog 37 #[.slice A l.length cA, .slice B rs.length cB, .int .i64 n] w fun e w' => e = .returned (.bool (rightB n l rs)) ∧ Below w.heap.size w w' := by
  have hu := Tryz.underlying93
  obtain ⟨R, hR⟩ : ∃ R, R = rightB n l rs := ⟨_, rfl⟩
  have F1 : Hid (l.length ≠ rs.length → R = false) := fun h => by rw [hR]; exact decide_eq_false (fun h2 => h h2.2.2.1)
  have F2 : Hid (∀ x ∈ l, (x < 0 ∨ (n : Int) ≤ x) → R = false) := fun x hx h => by rw [hR]; exact decide_eq_false (fun h2 => by have := h2.1 x hx; omega)
  have F3 : Hid (∀ p ∈ rs, badR n p = true → R = false) := fun p hp h => by
    rw [hR]
    exact decide_eq_false (fun h2 => by have := List.any_eq_false.1 h2.2.2.2 p hp; exact this h)
  have F4 : Hid (∀ (i : Nat) x, l[i]? = some x → x ∈ l.take i → R = false) := fun i x hi hx => by
    rw [hR]
    refine decide_eq_false (fun h => ?_)
    have h9 := h.2.1
    rw [← List.take_append_drop i l] at h9
    exact (List.nodup_append.1 h9).2.2 x hx x (by rw [List.mem_iff_getElem?]; exact ⟨0, by rw [List.getElem?_drop]; exact hi⟩) rfl
  have F5 : Hid (l.length = rs.length → Mp n l rs l.length → R = true) := fun h h2 => by
    rw [hR]
    have e1 := h2.range
    have e2 := h2.nodup
    have e3 := h2.runs
    rw [List.take_length] at e1 e2
    rw [h, List.take_length] at e3
    exact decide_eq_true ⟨e1, e2, h, List.any_eq_false.2 (fun p hp => by rw [e3 p hp]; decide)⟩
  rw [← hR]
  have HA := Lib.hid hA
  have HB := Lib.hid hB
  obtain ⟨ln, hln⟩ : ∃ ln, ln = l.length := ⟨_, rfl⟩
  obtain ⟨rn, hrn⟩ : ∃ rn, rn = rs.length := ⟨_, rfl⟩
  rw [← hln] at hl hc F1 F5
  rw [← hrn] at hr F1 F5
  rw [← hln, ← hrn]
  have HL := Lib.hid (And.intro hln hrn)
  clear hA hB hln hrn hR
  by_cases hne : ln = rn
  rotate_left
  · have hne2 : ((ln : Int) != (rn : Int)) = true := by rw [bne_iff_ne]; omega
    have HF := Lib.hid (F1.out hne)
    clear hne
    go_enter Tryz.func37, Tryz.ntmps37
    go_wp2_with fail
    go_ret
    exact ⟨by rw [HF.out]; rfl, Below.refl _ _⟩
  subst hne
  have hne2 : ((ln : Int) != (ln : Int)) = false := by simp
  go_enter Tryz.func37, Tryz.ntmps37
  go_wp2_with fail
  clear hne2
  go_loopw [19] (fun c19 wr => ∃ i : Nat, i ≤ ln ∧ c19 = .int .i64 i ∧ Hid (Below w.heap.size w wr ∧ Mp n l rs i)) (fun c19 _ => ln - (intOf c19).toNat)
  case atStart => exact ⟨0, Nat.zero_le _, rfl, Below.refl _ _, by simp, by simp, by simp⟩
  case round =>
    obtain ⟨i, hi, rfl, HR⟩ := hrel
    by_cases hlt : i < ln
    · obtain ⟨s, hs⟩ := some_at (l := l) (i := i) (by rw [← HL.out.1]; exact hlt)
      obtain ⟨p, hp⟩ := some_at (l := rs) (i := i) (by rw [← HL.out.2]; exact hlt)
      obtain ⟨a, rfl, -, ha⟩ := (HA.out.below HR.out.1) i s hs
      obtain ⟨q, off, rfl, -, b1, b2⟩ := (HB.out.below HR.out.1) i p hp
      have hq := alloc_new wr (.cells #[.int .i64 p.1, .int .i64 p.2] 93)
      have k0 := cell_of hq 0
      have k1 := cell_of hq 1
      have HX := Lib.hid (And.intro hs hp)
      have F2 := Lib.hid (F2.out s (List.mem_of_getElem? hs))
      have F3 := Lib.hid (F3.out p (List.mem_of_getElem? hp))
      have F4 := Lib.hid (F4.out i s hs)
      have HBA : Hid (Below w.heap.size w (wr.alloc (.cells #[.int .i64 p.1, .int .i64 p.2] 93))) := bl_alloc HR.out.1 _
      obtain ⟨x, y⟩ := p
      simp only at b1 b2 k0 k1 HBA
      clear hs hp hq
      by_cases h0 : s < 0
      · have HF : Hid (R = false) := F2.out (.inl h0)
        go_wp2_with fail
        go_ret
        exact ⟨by rw [HF.out]; rfl, HBA.out⟩
      by_cases h1 : (n : Int) ≤ s
      · have HF : Hid (R = false) := F2.out (.inr h1)
        go_wp2_with fail
        go_ret
        exact ⟨by rw [HF.out]; rfl, HBA.out⟩
      by_cases h2 : x < 0
      · have HF : Hid (R = false) := F3.out (decide_eq_true (.inl h2))
        go_wp2_with fail
        go_ret
        exact ⟨by rw [HF.out]; rfl, HBA.out⟩
      by_cases h3 : (n : Int) ≤ x
      · have HF : Hid (R = false) := F3.out (decide_eq_true (.inr (.inl h3)))
        go_wp2_with fail
        go_ret
        exact ⟨by rw [HF.out]; rfl, HBA.out⟩
      by_cases h4 : y < 1
      · have HF : Hid (R = false) := F3.out (decide_eq_true (.inr (.inr (.inl h4))))
        go_wp2_with fail
        go_ret
        exact ⟨by rw [HF.out]; rfl, HBA.out⟩
      by_cases h5 : (n : Int) - x < y
      · have HF : Hid (R = false) := F3.out (decide_eq_true (.inr (.inr (.inr h5))))
        go_wp2_with fail
        go_ret
        exact ⟨by rw [HF.out]; rfl, HBA.out⟩
      have hicA : i ≤ cA := by omega
      go_wp2_with fail
      clear k0 k1 b1 b2 ha
      generalize wr.alloc (.cells #[.int .i64 x, .int .i64 y] 93) = w5 at *
      have HMP : Hid (s ∉ l.take i → Mp n l rs (i + 1)) := fun hns => by
        have hm := HR.out.2
        refine ⟨?_, ?_, ?_⟩
        · rw [take_next HX.out.1]
          intro z hz
          rcases List.mem_append.1 hz with hz | hz
          · exact hm.range z hz
          · have : z = s := by simpa using hz
            omega
        · rw [take_next HX.out.1]
          exact List.nodup_append.2 ⟨hm.nodup, by simp, fun z hz t ht e => hns (by simp at ht; rw [← ht, ← e]; exact hz)⟩
        · rw [take_next HX.out.2]
          intro z hz
          rcases List.mem_append.1 hz with hz | hz
          · exact hm.runs z hz
          · have : z = (x, y) := by simpa using hz
            subst this
            exact decide_eq_false (by simp only; omega)
      go_loop [64] (fun c64 => ∃ k : Nat, k ≤ i ∧ c64 = .int .i64 k ∧ Hid (s ∉ l.take k)) (fun c64 => i - (intOf c64).toNat)
      case atStart => exact ⟨0, Nat.zero_le _, rfl, by show _ ∉ _; simp⟩
      case round =>
        obtain ⟨k, hk, rfl, HK⟩ := hrel
        by_cases hlt2 : k < i
        · obtain ⟨t, ht⟩ := some_at (l := l) (i := k) (by rw [← HL.out.1]; omega)
          obtain ⟨a', ha', -, hct⟩ := (HA.out.below HBA.out) k t ht
          cases ha'
          have HT := Lib.hid ht
          clear ht
          by_cases e : s = t
          · have HF : Hid (R = false) := F4.out (by rw [e, List.mem_iff_getElem?]; exact ⟨k, by rw [List.getElem?_take, if_pos hlt2]; exact HT.out⟩)
            have e1 : (s == t) = true := beq_iff_eq.2 e
            clear e
            go_wp2_with fail
            go_ret
            exact ⟨by rw [HF.out]; rfl, HBA.out⟩
          · have e1 : (s == t) = false := beq_eq_false_iff_ne.2 e
            have HE := Lib.hid e
            clear e
            go_wp2_with fail
            go_round
            case rel =>
              refine ⟨k + 1, by omega, by go_num, ?_⟩
              show s ∉ _
              rw [take_next HT.out]
              simp only [List.mem_append, List.mem_singleton, not_or]
              exact ⟨HK.out, HE.out⟩
            case measure => simp [intOf]; omega
        · obtain rfl : k = i := by omega
          go_wp2_with fail
          go_roundw
          case rel => exact ⟨k + 1, by omega, by go_num, HBA.out, HMP.out HK.out⟩
          case measure => simp [intOf]; omega
    · obtain rfl : i = ln := by omega
      have HF : Hid (R = true) := F5.out (by simp) HR.out.2
      go_wp2_with fail
      go_ret
      exact ⟨by rw [HF.out]; rfl, HR.out.1⟩

end Go.Proofs.YtgnagbbdnlmgeaaGreat.Tr
end

/- ChainWrites: the walk. -/
section
set_option linter.unusedVariables false
set_option linter.unusedSimpArgs false
set_option maxHeartbeats 4000000
set_option maxRecDepth 100000
namespace Go.Proofs.YtgnagbbdnlmgeaaGreat.Hw
open Go Go.RowKit
open Go.Proofs.YtgnagbbdnlmgeaaGreat.Rr Go.Proofs.YtgnagbbdnlmgeaaGreat.Ob Go.Proofs.YtgnagbbdnlmgeaaGreat.Ba Go.Proofs.YtgnagbbdnlmgeaaGreat.Ko Go.Proofs.YtgnagbbdnlmgeaaGreat.Ge Go.Proofs.YtgnagbbdnlmgeaaGreat.Oc Go.Proofs.YtgnagbbdnlmgeaaGreat.Pk Go.Proofs.YtgnagbbdnlmgeaaGreat.Su Go.Proofs.YtgnagbbdnlmgeaaGreat.Rf Go.Proofs.YtgnagbbdnlmgeaaGreat.Dv Go.Proofs.YtgnagbbdnlmgeaaGreat.Vo Go.Proofs.YtgnagbbdnlmgeaaGreat.Ra Go.Proofs.YtgnagbbdnlmgeaaGreat.Jh Go.Proofs.YtgnagbbdnlmgeaaGreat.Ho Go.Proofs.YtgnagbbdnlmgeaaGreat.Tr

/-- the law's words: outside the chain's slots they are as they were -/
theorem outside {n m : Nat} {ws : List Nat} {l : List Int} {rs : List (Int × Int)} (hr : rightB n l rs = true) {i : Nat} (hi : ∀ s ∈ l, (i : Int) ≠ 16 + 8 * m + s) : (wrW m ws (l.zip rs))[i]? = ws[i]? := by
  obtain ⟨hlen, hgood, -, -⟩ := rightB_out hr
  refine wrW_get m ws i _ (fun x hx => (hgood x hx).1) (fun x hx e => ?_)
  have h1 := (List.of_mem_zip hx).1
  exact hi x.1 h1 (by omega)

theorem many (r0 r1 r2 : Nat) {A : Option Addr} {len c : Nat} {w : World} {B C : Option Addr} {ln rn cB cC : Nat} (h : 30 < ln ∨ 30 < rn) :
    Calls Tryz.prog 5 #[.agg #[.int .u8 r0, .int .u8 r1, .int .u8 r2, .slice A len c], .slice B ln cB, .slice C rn cC] w fun e w' => e = .returned (.bool true) ∧ Below w.heap.size w w' := by
  have HB0 : Hid (Below w.heap.size w (w.alloc (.cells #[.int .u8 r0, .int .u8 r1, .int .u8 r2, .slice A len c] 24))) := bl_alloc (Below.refl _ _) _
  have HFI : Hid (Calls Tryz.prog 5 #[.agg #[.int .u8 r0, .int .u8 r1, .int .u8 r2, .slice A len c], .slice B ln cB, .slice C rn cC] w fun e w' => e = .returned (.bool true) ∧ Below w.heap.size w w') := by
    by_cases h1 : 30 < ln
    · have h1' : (30 : Int) < ln := by omega
      clear h
      go_enter Tryz.func5, Tryz.ntmps5
      go_wp2_with fail
      refine (lives16 _).mono ?_
      rintro e w1 ⟨rfl, hb1⟩
      have HB1 := Lib.hid (bl_then HB0.out hb1)
      clear hb1
      go_wp2_with fail
      refine (lives16 _).mono ?_
      rintro e w2 ⟨rfl, hb2⟩
      have HB2 := Lib.hid (bl_then HB1.out hb2)
      clear hb2
      go_wp2_with fail
      go_ret
      exact ⟨rfl, HB2.out⟩
    · have h2 : (30 : Int) < rn := by omega
      have h1' : ¬ (30 : Int) < ln := by omega
      clear h
      go_enter Tryz.func5, Tryz.ntmps5
      go_wp2_with fail
      refine (lives16 _).mono ?_
      rintro e w1 ⟨rfl, hb1⟩
      have HB1 := Lib.hid (bl_then HB0.out hb1)
      clear hb1
      go_wp2_with fail
      refine (lives16 _).mono ?_
      rintro e w2 ⟨rfl, hb2⟩
      have HB2 := Lib.hid (bl_then HB1.out hb2)
      clear hb2
      go_wp2_with fail
      go_ret
      exact ⟨rfl, HB2.out⟩
  exact HFI.out

theorem write_nil {w : World} {v b n m s : Nat} {d : Dev} {g : Lay} (hv : VolIs w v b n m s d g) (hn : n ≤ 65534) (A : Option Addr) (cA : Nat) (B : Option Addr) (cB : Nat) :
    Calls Tryz.prog 36 #[.pointer (some ⟨v, 0, none⟩), .slice A 0 cA, .slice B 0 cB] w fun e w' => e = .returned (.int .i64 0) ∧ Below w.heap.size w w' := by
  have hr : rightB n [] [] = true := by unfold rightB; simp
  have hri := right_ hv hn (Rk.nil .i64 w A) cA (by decide) (B := B) (rs := []) (fun i p hi => by simp at hi) cB (by decide)
  rw [hr] at hri
  have HRI : Hid (Calls Tryz.prog 102 #[.pointer (some ⟨v, 0, none⟩), .slice A 0 cA, .slice B 0 cB] w fun e w' => e = .returned (.bool true) ∧ Below w.heap.size w w') := hri
  clear hri hr hv
  go_enter Tryz.func36, Tryz.ntmps36
  go_wp2_with fail
  refine HRI.out.mono ?_
  rintro e w1 ⟨rfl, hb1⟩
  have HB1 := Lib.hid hb1
  clear hb1
  go_wp2_with fail
  go_loopw [7, 8] (fun c7 c8 wr => c8 = .int .i64 (-1) ∧ wr = w1) (fun _ c8 _ => (intOf c8 + 1).toNat)
  case atStart => exact ⟨rfl, rfl⟩
  case round =>
    obtain ⟨rfl, hwr⟩ := hrel
    go_wp2_with fail
    go_ret
    first | exact ⟨rfl, HB1.out⟩ | exact ⟨rfl, by rw [hwr]; exact HB1.out⟩

theorem write_all {w : World} {v b n m s : Nat} {d : Dev} {g : Lay} (hv : VolIs w v b n m s d g) (hn : n ≤ 65534) {ws : List Nat} (hwd : Pm.wordsOf d = ints ws) (hfit : 16 + 8 * m + n ≤ ws.length) (hf : d.fuse = none) (hst : d.steps ≤ 900000000)
    {A : Option Addr} {l : List Int} (hA : Rk .i64 w A l) (cA : Nat) {B : Option Addr} {rs : List (Int × Int)} (hB : RR w B rs) (cB : Nat) (hr : rightB n l rs = true) (hpA : ∀ a, A = some a → l ≠ [] → a.block ∉ g.foot b) (hpB : ∀ a, B = some a → l ≠ [] → a.block ∉ g.foot b) :
    Calls Tryz.prog 36 #[.pointer (some ⟨v, 0, none⟩), .slice A l.length cA, .slice B rs.length cB] w fun e w' => e = .returned (.int .i64 0) ∧ ∃ d' g', Wr w w' v b n m s d g ws (l.zip rs) (.int .i64 (nxS (l.zip rs))) d' g' := by
  by_cases hl : l = []
  · subst hl
    have hrs : rs = [] := by
      have := (rightB_out hr).1
      exact List.length_eq_zero_iff.1 this.symm
    subst hrs
    refine (show Calls _ _ #[_, .slice _ 0 _, .slice _ 0 _] _ _ from write_nil hv hn A cA B cB).mono ?_
    rintro e w' ⟨rfl, hb⟩
    exact ⟨rfl, d, g, rfl, hv.below hb, hwd, hf, rfl, rfl, fun q hq => .inl hq, Upd.of_below hb⟩
  · exact write_yes hv hn hwd hfit hf hst hA cA hB cB hr (fun a ha => hpA a ha hl) (fun a ha => hpB a ha hl)

theorem walk (r0 r1 r2 : Nat) (h0 : r0 < 256) (h1 : r1 < 256) (h2 : r2 < 256) {A : Option Addr} {lw : List Nat} (c : Nat) {w : World} (h : Rk .u64 w A (ints lw)) (hlw : ∀ x ∈ lw, x < 18446744073709551616) (hl9 : lw.length ≤ 9223372036854775807)
    {B C : Option Addr} {l : List Int} {rs : List (Int × Int)} (hB : Rk .i64 w B l) (cB : Nat) (hcB : l.length ≤ cB) (hcB9 : cB ≤ 9223372036854775807) (hC : RR w C rs) (cC : Nat) :
    Calls Tryz.prog 5 #[.agg #[.int .u8 r0, .int .u8 r1, .int .u8 r2, .slice A lw.length c], .slice B l.length cB, .slice C rs.length cC] w fun e w' => e = .returned (.bool true) ∧ Below w.heap.size w w' := by
  by_cases hmany : 30 < l.length ∨ 30 < rs.length
  · exact many r0 r1 r2 hmany
  have hu := Tryz.underlying30
  have hu2 := Tryz.underlying82
  have hu3 := Tryz.underlying51
  have hu4 := Tryz.underlying93
  obtain ⟨n, m, s, T, p3, p4, p5, ws, hi⟩ := im_ r0 r1 r2 lw hlw
  have HO : Hid (∀ {W : World}, Rk .u64 W A (ints lw) → _) := fun {W} hW => open16N h0 h1 h2 hi c hl9 (w := W) hW
  have hn2 := hi.n2
  have HMY : Hid (∀ {W : World}, Below w.heap.size w W → _) := fun {W} hb => may16_ (hB.below hb) cB hcB (by omega) hcB9 (hC.below hb) cC (by omega) n (by omega)
  have HI := Lib.hid hi
  have H := Lib.hid (And.intro h (And.intro hB hC))
  have HLN : Hid (l.length ≤ 30 ∧ rs.length ≤ 30) := by show _ ∧ _; omega
  obtain ⟨len, hle⟩ : ∃ len, len = lw.length := ⟨_, rfl⟩
  obtain ⟨ln, hln⟩ : ∃ ln, ln = l.length := ⟨_, rfl⟩
  obtain ⟨rn, hrn⟩ : ∃ rn, rn = rs.length := ⟨_, rfl⟩
  rw [← hle] at HO
  rw [← hln, ← hrn] at HMY HLN
  rw [← hle, ← hln, ← hrn]
  rw [← hln] at hcB
  have HL := Lib.hid (And.intro hln hrn)
  have g1 : ¬ (30 : Int) < ln := by have := HLN.out; omega
  have g2 : ¬ (30 : Int) < rn := by have := HLN.out; omega
  clear h hlw hl9 hi h0 h1 h2 hle hB hC hln hrn hmany
  have HFALSE : Hid (rightB n l rs = false → ∀ {W : World} {v b : Nat} {g : Lay}, VolIs W v b n m s (Pm.devOf (ints ws)) g → Below w.heap.size w W → _) := fun hr {W} {v} {b} {g} hv hb => write_no hv (by omega) (H.out.2.1.below hb) cB (by have := HL.out; have := HLN.out; omega) (H.out.2.2.below hb) cC (by have := HL.out; have := HLN.out; omega) hr
  have HTRUE : Hid (rightB n l rs = true → ∀ {W : World} {v b : Nat} {g : Lay}, VolIs W v b n m s (Pm.devOf (ints ws)) g → (∀ k ∈ g.foot b, w.heap.size ≤ k) → Below w.heap.size w W → _) := fun hr {W} {v} {b} {g} hv hf hb => write_all hv (by omega) (Vs.words_devOf _) (by rw [HI.out.len]; exact HI.out.fit) rfl (show (0 : Nat) ≤ 900000000 by decide) (H.out.2.1.below hb) cB (H.out.2.2.below hb) cC hr
    (fun a ha hne hm => by
      have h9 := hf _ hm
      obtain ⟨x, hx⟩ := some_at (l := l) (i := 0) (by have := List.length_pos_iff.2 hne; omega)
      obtain ⟨a', ha', hlt, -⟩ := H.out.2.1 0 x hx
      rw [ha] at ha'
      cases ha'
      omega) (fun a ha hne hm => by
      have h9 := hf _ hm
      have hlen := (rightB_out hr).1
      obtain ⟨x, hx⟩ := some_at (l := rs) (i := 0) (by have := List.length_pos_iff.2 hne; omega)
      obtain ⟨q, off, ha', hlt, -⟩ := H.out.2.2 0 x hx
      rw [ha] at ha'
      cases ha'
      simp only at h9
      omega)
  rw [← HL.out.1, ← HL.out.2] at HFALSE HTRUE
  have HRT : Hid (rightB n l rs = true → ln = rn ∧ (triS (l.zip rs)).length = ln ∧ (triS (l.zip rs)).map Prod.fst = l ∧ runsOf ((triS (l.zip rs)).map Prod.snd) = rs ∧ (l.zip rs).length = ln ∧ (∀ x ∈ l, 0 ≤ x ∧ x < n) ∧
      chainF n (slF (wrW m ws (l.zip rs)) n m) n (nxS (l.zip rs)) = some (triS (l.zip rs)) ∧ (∀ x ∈ wrW m ws (l.zip rs), x < 18446744073709551616) ∧ (wrW m ws (l.zip rs)).length = T ∧ ∀ i : Nat, (∀ s ∈ l, (i : Int) ≠ 16 + 8 * m + s) → (wrW m ws (l.zip rs))[i]? = ws[i]?) := fun hr => by
    obtain ⟨hlen, hgood, hnd, -⟩ := rightB_out hr
    have hzl : (l.zip rs).length = l.length := by rw [List.length_zip]; omega
    refine ⟨by rw [HL.out.1, HL.out.2, hlen], by rw [triS_len, hzl, HL.out.1], by rw [triS_fst, List.map_fst_zip (by omega)], ?_, by rw [hzl, HL.out.1], (of_decide_eq_true hr).1, wrW_chain (by have := HI.out.n2; omega) (by rw [HI.out.len]; exact HI.out.fit) hgood hnd, wrW_lt (by have := HI.out.n2; omega) HI.out.lt hgood, by rw [wrW_len, HI.out.len], fun i hi => outside hr hi⟩
    unfold runsOf
    rw [List.map_map]
    have := triS_runs (l.zip rs)
    rw [List.map_snd_zip (by omega)] at this
    exact this
  generalize rightB n l rs = R at *
  go_enter Tryz.func5, Tryz.ntmps5
  go_wp2_with fail
  refine (lives16 _).mono ?_
  rintro e w1 ⟨rfl, hb1⟩
  have hqr := blk_bl (alloc_new w (.cells #[.int .u8 r0, .int .u8 r1, .int .u8 r2, .slice A len c] 24)) hb1
  have HB1 := Lib.hid (bl_then (bl_alloc (Below.refl _ _) _) hb1)
  have a0 := cell_of hqr 0
  have a1 := cell_of hqr 1
  have a2 := cell_of hqr 2
  have a3 := cell_of hqr 3
  clear hqr hb1
  go_wp2_with fail
  refine (HO.out (H.out.1.below HB1.out)).mono ?_
  rintro e w2 ⟨v, b, g, a8, c8, rfl, hop⟩
  unfold volA
  obtain ⟨W2, hW2⟩ : ∃ W2, W2 = w2.alloc (.cells #[.int .i64 n, .int .i64 m, .int .i64 s, .int .i64 16, .int .i64 (16 + 8 * m), .int .i64 p3, .int .i64 p4, .int .i64 p5, .slice (some a8) T c8] 30) := ⟨_, rfl⟩
  have hbw : Below w2.heap.size w2 W2 := by rw [hW2]; exact bl_alloc (Below.refl _ _) _
  have HQ2 : Hid (W2.heap[w2.heap.size]? = some (.cells #[.int .i64 n, .int .i64 m, .int .i64 s, .int .i64 16, .int .i64 (16 + 8 * m), .int .i64 p3, .int .i64 p4, .int .i64 p5, .slice (some a8) T c8] 30 (0, 0))) := by rw [hW2]; exact alloc_new _ _
  have HV2 := Lib.hid (hop.vol.below hbw)
  have HB2 := Lib.hid (bl_then (bl_then HB1.out hop.below) hbw)
  have HR2 := Lib.hid (hop.row.below hbw)
  have HF2 : Hid ((∀ k ∈ g.foot b, w.heap.size ≤ k ∧ k < w2.heap.size) ∧ a8.block ∉ g.foot b ∧ T ≤ c8) := ⟨fun k hk => ⟨Nat.le_trans HB1.out.size (hop.foot k hk), hop.vol.dev.lt k hk⟩, hop.apart, hop.cap⟩
  clear a0 a1 a2 a3 hop hbw
  go_wp2_with fail
  rw [← hW2]
  clear hW2
  generalize w2.heap.size = q2 at *
  cases R with
  | false =>
    refine (HFALSE.out rfl HV2.out HB2.out).mono ?_
    rintro e w3 ⟨rfl, hb3⟩
    have HB3 := Lib.hid (bl_then HB2.out hb3)
    have HV3 := Lib.hid (HV2.out.below hb3)
    have hq := blk_bl HQ2.out hb3
    have k0 := cell_of hq 0
    clear hq hb3
    go_wp2_with fail
    refine (HMY.out HB3.out).mono ?_
    rintro e w4 ⟨rfl, hb4⟩
    have HB4 := Lib.hid (bl_then HB3.out hb4)
    have HV4 := Lib.hid (HV3.out.below hb4)
    clear hb4 k0
    go_wp2_with fail
    refine (Vo.device_ HV4.out).mono ?_
    rintro e w5 ⟨rfl, hw5⟩
    have hw5' := hw5.symm
    subst hw5'
    go_wp2_with fail
    refine (Pm.steps_any HV4.out.dev).mono ?_
    rintro e w6 ⟨rfl, hw6⟩
    subst hw6
    go_wp2_with fail
    go_ret
    exact ⟨rfl, HB4.out⟩
  | true =>
    refine (HTRUE.out rfl HV2.out (fun k hk => (HF2.out.1 k hk).1) HB2.out).mono ?_
    rintro e w3 ⟨rfl, d3, g3, hwr⟩
    obtain ⟨hlr, htl, htf, htr, hzl, hin, hch, hlt9, hwl, hout⟩ := HRT.out rfl
    subst hlr
    generalize l.zip rs = z at *
    have hV3 := hwr.vol
    have hB3 : Below w.heap.size w w3 := HB2.out.trans (hwr.upd.belowB HB2.out.size (fun k hk => (HF2.out.1 k hk).1))
    have hq3 := hwr.upd.blk HQ2.out (fun hm => by have := HF2.out.1 _ hm; omega)
    have hr3 : Rk .u64 w3 (some a8) (ints ws) := HR2.out.keep (fun a ha => by
      cases ha
      obtain ⟨u, hu9⟩ := some_at (l := ints ws) (i := 0) (by rw [ints_length, HI.out.len]; have := HI.out.T1; omega)
      obtain ⟨a', ha', hlt, -⟩ := HR2.out 0 u hu9
      cases ha'
      exact hwr.upd.block _ hlt HF2.out.2.1) hwr.upd.size
    have HV3 := Lib.hid hV3
    have HB3 := Lib.hid hB3
    have HQ3 := Lib.hid hq3
    have HR3 := Lib.hid hr3
    have HDW : Hid (Pm.wordsOf d3 = ints (wrW m ws z) ∧ d3.stores = ln ∧ d3.steps = 2 * ln ∧ d3.las.length = T) := ⟨hwr.words, by rw [hwr.stores, hzl]; exact Nat.zero_add _, by rw [hwr.steps, hzl]; exact Nat.zero_add _, by rw [← Pm.wordsOf_length, hwr.words, ints_length, hwl]⟩
    have HPL := Lib.hid (And.intro htl (And.intro htf (And.intro htr (And.intro hin hout))))
    have HRE : Hid (∀ {W : World} {hd : Int}, hd = nxS z → Below w3.heap.size w3 W → Calls Tryz.prog 34 #[.pointer (some ⟨v, 0, none⟩), .int .i64 hd] W fun o w' => ∃ A c B d, o = .returned (.tuple #[.agg #[.slice A ln c, .slice B ln d], .int .i64 0]) ∧ Rk .i64 w' A l ∧ TR w' B ((triS z).map Prod.snd) ∧ Below W.heap.size W w') := fun {W} {hd} hh hb => by
      subst hh
      refine (read_ (HV3.out.below hb) HDW.out.1 hlt9 (by rw [hwl]; exact HI.out.fit) (by have := HI.out.n2; omega) (nxS z)).mono ?_
      rintro o w' ⟨hso, -, hb'⟩
      obtain ⟨A, c, B, d, he, hi, ht⟩ := hso _ hch
      rw [htl] at he
      have k1 := (own_rk (k := .i64) hi).1
      rw [htf] at k1
      exact ⟨A, c, B, d, he, k1, (own_tr ht).1, hb'⟩
    clear hwr hV3 hB3 hq3 hr3 htl htf htr hzl hin hch hlt9 hwl hout
    have k0 := cell_of HQ3.out 0
    go_wp2_with fail
    refine (HMY.out HB3.out).mono ?_
    rintro e w4 ⟨rfl, hb4⟩
    have HB4 := Lib.hid hb4
    clear hb4 k0
    have HDV : Hid (∀ {W : World}, Below w3.heap.size w3 W → _) := fun {W} hb => Vo.device_ (HV3.out.below hb)
    have HSTO : Hid (∀ {W : World}, Below w3.heap.size w3 W → Calls Tryz.prog 39 #[.pointer (some ⟨b, 0, none⟩)] W fun e w' => e = .returned (.int .i64 (ln : Int)) ∧ W = w') := fun {W} hb => by
      have := Ra.stores_any (HV3.out.below hb).dev
      rw [HDW.out.2.1] at this
      exact this
    have HSTE : Hid (∀ {W : World}, Below w3.heap.size w3 W → Calls Tryz.prog 38 #[.pointer (some ⟨b, 0, none⟩)] W fun e w' => e = .returned (.int .i64 (2 * (ln : Int))) ∧ W = w') := fun {W} hb => by
      have := Pm.steps_any (HV3.out.below hb).dev
      rw [HDW.out.2.2.1] at this
      exact this
    have HWO : Hid (∀ {W : World}, Below w3.heap.size w3 W → Calls Tryz.prog 18 #[.pointer (some ⟨b, 0, none⟩)] W fun e w' => ∃ A c, e = .returned (.slice (some A) T c) ∧ Rk .u64 w' (some A) (ints (wrW m ws z)) ∧ Below W.heap.size W w') := fun {W} hb => by
      refine (Pm.words_any (HV3.out.below hb).dev (Vs.las_some (HV3.out.below hb).dev (by rw [HDW.out.2.2.2]; have := HI.out.T1; omega))).mono ?_
      rintro e w' ⟨v', rfl, hown, hb'⟩
      obtain ⟨A', c', rfl⟩ := own_slice hown
      have hown' : w'.ownsRow W.heap.size 94 1 (.slice A' d3.las.length c') d3.las.length (ivs .u64 (Pm.wordsOf d3)) := hown
      rw [HDW.out.1, HDW.out.2.2.2] at hown'
      rw [HDW.out.2.2.2]
      obtain ⟨hr1, hr2, -⟩ := own_rk (k := .u64) hown'
      obtain ⟨u, hu9⟩ := some_at (l := ints (wrW m ws z)) (i := 0) (by rw [hr2]; have := HI.out.T1; omega)
      obtain ⟨a', rfl, -, -⟩ := hr1 0 u hu9
      exact ⟨a', c', rfl, hr1, hb'⟩
    have HZF : Hid (z.map Prod.fst = l) := by rw [← triS_fst]; exact HPL.out.2.1
    rcases Nat.eq_zero_or_pos ln with hl0 | hl0
    focus
      have hnx : Hid (-1 = nxS z) := by
        have h9 := HZF.out
        have h8 := HL.out.1
        cases z with
        | nil => rfl
        | cons y r => rw [← h9, hl0] at h8; simp at h8
      have hng : ¬ (0 : Int) < (ln : Int) := by omega
      clear hl0
      go_wp2_with fail
      refine (HRE.out hnx.out HB4.out).mono ?_
      clear hnx hng
    rotate_left
    focus
      obtain ⟨x, hx⟩ := some_at (l := l) (i := 0) (by rw [← HL.out.1]; exact hl0)
      obtain ⟨a, rfl, -, ha⟩ := (H.out.2.1.below (bl_then HB3.out HB4.out)) 0 x hx
      have ha : w4.cell? a = some (.int .i64 x) := by cases a; exact ha
      have hnx : Hid (x = nxS z) := by
        have h9 := HZF.out
        cases z with
        | nil => rw [← h9] at hx; simp at hx
        | cons y r =>
          rw [← h9] at hx
          simp at hx
          exact hx.symm
      have hng : (0 : Int) < (ln : Int) := by omega
      clear hx
      go_wp2_with fail
      refine (HRE.out hnx.out HB4.out).mono ?_
      clear hnx hng ha
    all_goals
      rintro e w5 ⟨A5, c5, B5, d5, rfl, hr5, ht5, hb5⟩
      have HB5 := Lib.hid (bl_then HB4.out hb5)
      have HR5 := Lib.hid hr5
      have HT5 := Lib.hid ht5
      have HW5 : Hid (Below w.heap.size w w5) := bl_then HB3.out HB5.out
      have hSM := rsame_ (hr5.below (bl_alloc (Below.refl _ _) (.cells #[.slice A5 ln c5, .slice B5 ln d5] 82))) (H.out.2.1.below (bl_alloc HW5.out (.cells #[.slice A5 ln c5, .slice B5 ln d5] 82))) c5 cB (by have := HLN.out; have := HL.out; omega) (by have := HLN.out; have := HL.out; omega)
      rw [← HL.out.1, decide_eq_true rfl] at hSM
      have HSM := Lib.hid hSM
      have hq5 := alloc_new w5 (.cells #[.slice A5 ln c5, .slice B5 ln d5] 82)
      have HQ5 := Lib.hid hq5
      have k0 := cell_of hq5 0
      have k1 := cell_of hq5 1
      clear hb5 hr5 ht5 hSM hq5
      have HRU : Hid (∀ {W : World}, Below w5.heap.size w5 W → Calls Tryz.prog 40 #[.agg #[.slice A5 ln c5, .slice B5 ln d5]] W fun e w' => ∃ D cd, e = .returned (.slice D ln cd) ∧ RR w' D rs ∧ Below W.heap.size W w') := fun {W} hb => by
        have h9 := runs_ (A := A5) (HT5.out.below hb) ln c5 d5 (by rw [List.length_map, HPL.out.1]; have := HLN.out; omega)
        rw [List.length_map, HPL.out.1] at h9
        refine h9.mono ?_
        rintro e w' ⟨v', rfl, ho, hb'⟩
        obtain ⟨D, cd, rfl⟩ := own_slice ho
        have h8 := (own_rr ho).1
        rw [HPL.out.2.2.1] at h8
        exact ⟨D, cd, rfl, h8, hb'⟩
      have hnn : ((ln : Int) != (ln : Int)) = false := by simp
      have hnn2 : ((2 * (ln : Int)) != (2 * (ln : Int))) = false := by simp
      have hl30 : (ln : Int) ≤ 30 := by have := HLN.out; omega
      go_wp2_with (first | (go_at_call 35; refine HSM.out.mono ?_; rintro e w6 ⟨rfl, n6, hw6⟩; (have HW6 := Lib.hid hw6); (have HB6 : Hid (Below w5.heap.size w5 w6) := (by show Below _ _ _; rw [HW6.out]; exact bl_drewN (bl_alloc (Below.refl _ _) _) _)); (have HC6 : Hid (Below w3.heap.size w3 w6) := bl_then HB5.out HB6.out); (have hq6 : w6.heap[w5.heap.size]? = some (.cells #[.slice A5 ln c5, .slice B5 ln d5] 82 (0, 0)) := (by rw [HW6.out]; exact HQ5.out)); (have HQ6 := Lib.hid hq6); (have k2 := cell_of hq6 0); (have k3 := cell_of hq6 1); clear hw6 hq6) |
        (go_at_call 16; refine (HDV.out HC6.out).mono ?_; rintro e w7 ⟨rfl, hw7⟩; (have hw7' := hw7.symm); subst hw7') |
        (go_at_call 39; refine (HSTO.out HC6.out).mono ?_; rintro e w8 ⟨rfl, hw8⟩; subst hw8) |
        (go_at_call 38; refine (HSTE.out HC6.out).mono ?_; rintro e w9 ⟨rfl, hw9⟩; subst hw9) |
        (go_at_call 40; refine (HRU.out HB6.out).mono ?_; rintro e wA ⟨D, cd, rfl, hrD, hbA⟩; (have HRD := Lib.hid hrD); (have HBA : Hid (Below w3.heap.size w3 wA) := bl_then HC6.out hbA); clear hrD hbA))
      clear k0 k1 k2 k3 hnn hnn2 hl30
      go_loopw [103] (fun c103 wr => ∃ i : Nat, i ≤ ln ∧ c103 = .int .i64 i ∧ Hid (Below wA.heap.size wA wr)) (fun c103 _ => ln - (intOf c103).toNat)
      case atStart => exact ⟨0, Nat.zero_le _, rfl, Below.refl _ _⟩
      case round =>
        obtain ⟨i, hi, rfl, HB⟩ := hrel
        by_cases hlt : i < ln
        · first
          | (exfalso; omega)
          | (obtain ⟨p, hp⟩ := some_at (l := rs) (i := i) (by rw [← HL.out.2]; exact hlt)
             obtain ⟨q, off, rfl, -, b1, b2⟩ := (HRD.out.below HB.out) i p hp
             obtain ⟨q', off', rfl, -, e1, e2⟩ := ((H.out.2.2.below (bl_then HB3.out HBA.out)).below HB.out) i p hp
             have hlt3 : q' < wr.heap.size := by obtain ⟨q9, o9, e9, h9, -⟩ := ((H.out.2.2.below (bl_then HB3.out HBA.out)).below HB.out) i p hp; cases e9; exact h9
             obtain ⟨x', y'⟩ := p
             simp only at b1 b2 e1 e2
             clear hp
             have HBW : Hid (Below wA.heap.size wA (wr.alloc (.cells #[.int .i64 x', .int .i64 y'] 93))) := bl_alloc HB.out _
             go_wp2_with fail
             go_quiet (fail)
             go_wp2_with fail
             go_roundw
             case rel => exact ⟨i + 1, by omega, by go_num, bl_drewN HBW.out _⟩
             case measure => simp [intOf]; omega)
        · have hil : ln = i := by omega
          subst hil
          go_wp2_with (first | (go_at_call 16; refine (HDV.out (bl_then HBA.out HB.out)).mono ?_; rintro e w7 ⟨rfl, hw7⟩; (have hw7' := hw7.symm); subst hw7') |
            (go_at_call 18; refine (HWO.out (bl_then HBA.out HB.out)).mono ?_; rintro e wB ⟨aw, cw, rfl, hrw, hbB⟩; (have HRW := Lib.hid hrw); (have HBB : Hid (Below w3.heap.size w3 wB) := bl_then (bl_then HBA.out HB.out) hbB); clear hrw hbB))
          have hqB := blk_bl HQ3.out HBB.out
          have m4 := cell_of hqB 4
          have m8 := cell_of hqB 8
          have HFI : Hid (Below w.heap.size w wB) := bl_then HB3.out HBB.out
          have HRA : Hid (Rk .u64 wB (some a8) (ints ws)) := HR3.out.below HBB.out
          have HRL := Lib.hid (H.out.2.1.below HFI.out)
          have hp2 : 0 ≤ 16 + 8 * (m : Int) ∧ 16 + 8 * (m : Int) ≤ 1000 := by have := HI.out.m2; omega
          obtain ⟨hp20, hp29⟩ := hp2
          have hT9 : T ≤ c8 ∧ T ≤ 1000 := ⟨HF2.out.2.2, HI.out.T2⟩
          have hn20 := HI.out.n2
          have HTL : Hid ((wrW m ws z).length = T ∧ ws.length = T) := ⟨by rw [wrW_len, HI.out.len], HI.out.len⟩
          have HRO := Lib.hid (And.intro HPL.out.2.2.2.1 HPL.out.2.2.2.2)
          generalize wrW m ws z = ws' at *
          clear hqB HWO HPL HDW HRE HRU HSM HRT HTRUE HFALSE
          generalize (16 + 8 * (m : Int)) = p2 at *
          go_loop [119] (fun c119 => ∃ t : Nat, t ≤ T ∧ c119 = .int .i64 t) (fun c119 => T - (intOf c119).toNat)
          case atStart => exact ⟨0, Nat.zero_le _, rfl⟩
          case round =>
            obtain ⟨t, ht, rfl⟩ := hrel
            by_cases hlt2 : t < T
            · obtain ⟨y, hy⟩ := some_at (l := ws') (i := t) (by rw [HTL.out.1]; exact hlt2)
              obtain ⟨y0, hy0⟩ := some_at (l := ws) (i := t) (by rw [HTL.out.2]; exact hlt2)
              have cy := HRW.out.at_ (ints_get hy)
              have cy0 := HRA.out.at_ (ints_get hy0)
              have HYS : Hid ((∀ s ∈ l, (t : Int) ≠ p2 + s) → y = y0) := fun h9 => by
                have h8 := HRO.out.2 t h9
                rw [hy, hy0] at h8
                exact Option.some.inj h8
              clear hy hy0
              go_wp2_with fail
              go_loop [126, 17] (fun c126 c17 => ∃ (j : Nat) (bb : Bool), j ≤ ln ∧ c126 = .int .i64 j ∧ c17 = .bool bb ∧ Hid (bb = false → ∀ s ∈ l.take j, (t : Int) ≠ p2 + s)) (fun c126 _ => ln - (intOf c126).toNat)
              case atStart => exact ⟨0, false, Nat.zero_le _, rfl, rfl, fun _ s hs => by simp at hs⟩
              case round =>
                obtain ⟨j, bb, hj, rfl, rfl, HK⟩ := hrel
                by_cases hlt3 : j < ln
                · first
                  | (exfalso; omega)
                  | (obtain ⟨sx, hsx⟩ := some_at (l := l) (i := j) (by rw [← HL.out.1]; exact hlt3)
                     obtain ⟨a', ha', -, hcs⟩ := HRL.out j sx hsx
                     cases ha'
                     have hrng := HRO.out.1 sx (List.mem_of_getElem? hsx)
                     obtain ⟨hr0, hr1⟩ := hrng
                     have HSX := Lib.hid hsx
                     clear hsx
                     cases bb with
                     | true =>
                       go_wp2_with fail
                       go_round
                       case rel => exact ⟨j + 1, true, by omega, by go_num, rfl, fun h9 => by cases h9⟩
                       case measure => simp [intOf]; omega
                     | false =>
                       by_cases he : (t : Int) = p2 + sx
                       · have e1 : ((t : Int) == p2 + sx) = true := beq_iff_eq.2 he
                         clear he
                         go_wp2_with fail
                         go_round
                         case rel => exact ⟨j + 1, true, by omega, by go_num, rfl, fun h9 => by cases h9⟩
                         case measure => simp [intOf]; omega
                       · have e1 : ((t : Int) == p2 + sx) = false := beq_eq_false_iff_ne.2 he
                         have HE := Lib.hid he
                         clear he
                         go_wp2_with fail
                         go_round
                         case rel =>
                           refine ⟨j + 1, false, by omega, by go_num, rfl, fun _ s hs => ?_⟩
                           rw [take_next HSX.out] at hs
                           rcases List.mem_append.1 hs with hs | hs
                           · exact HK.out rfl s hs
                           · have : s = sx := by simpa using hs
                             rw [this]
                             exact HE.out
                         case measure => simp [intOf]; omega)
                · have hjl : j = ln := by omega
                  cases bb with
                  | true =>
                    go_wp2_with fail
                    go_round
                    case rel => exact ⟨t + 1, by omega, by go_num⟩
                    case measure => simp [intOf]; omega
                  | false =>
                    have hyy : y = y0 := HYS.out (fun s hs => HK.out rfl s (by rw [hjl, HL.out.1, List.take_length]; exact hs))
                    subst hyy
                    have e1 : ((y : Int) != (y : Int)) = false := by simp
                    clear hjl
                    go_wp2_with fail
                    go_round
                    case rel => exact ⟨t + 1, by omega, by go_num⟩
                    case measure => simp [intOf]; omega
            · obtain rfl : t = T := by omega
              go_wp2_with fail
              go_ret
              exact ⟨rfl, HFI.out⟩

end Go.Proofs.YtgnagbbdnlmgeaaGreat.Hw
end

/- Arguments opened: rows of numbers with their room, rows of runs. -/
section
namespace Go.Proofs.YtgnagbbdnlmgeaaGreat.Ao
open Go Go.RowKit Go.ChangeShapes Go.WideShapes Go.ChangeAt Go.Joins Go.Deep
open Go.Proofs.YtgnagbbdnlmgeaaGreat.Ba Go.Proofs.YtgnagbbdnlmgeaaGreat.Rr
set_option linter.unusedVariables false
set_option maxHeartbeats 2000000
set_option maxRecDepth 100000

theorem ints_openC {H : Type} {enc : TypeId × Value → H} {w : World} {fuel : Nat} {cs : List Value} {x : DataW H × List MemPlace} (h : DataW.trod enc Tryz.prog w 0 (fun _ => true) true fuel 79 cs = some x) :
    ∃ (A : Option Addr) (l : List Int) (c : Nat), cs = [.slice A l.length c] ∧ Rk .i64 w A l ∧ l.length ≤ c ∧ c ≤ 9223372036854775807 := by
  rcases open_ints Tryz.underlying79 Tryz.underlying3 (by kernel_rfl) h with ⟨hcs, _⟩ | ⟨a, l, c, zs, hcs, _, hl, hm, hz, _, hcell, hwz⟩
  · exact ⟨none, [], 0, hcs, Rk.nil _ _ _, by decide, by decide⟩
  · simp only [if_true] at hz
    have hlen : (zs.take l).length = l := by rw [List.length_take]; omega
    refine ⟨some a, zs.take l, c, by rw [hlen]; exact hcs, ?_, by rw [hlen]; exact hl, by unfold maxLen at hm; omega⟩
    intro i z hx
    obtain ⟨hi, hz2⟩ := List.getElem?_eq_some_iff.1 hx
    rw [List.getElem_take] at hz2
    simp only [List.length_take] at hi
    have hi2 : i < zs.length := by omega
    have hci := hcell i hi2
    obtain ⟨p1, p2⟩ := cell_plain hci
    refine ⟨a, rfl, by rw [add_block] at p2; exact p2, ?_⟩
    rw [hci, List.getD_eq_getElem?_getD, List.getElem?_eq_getElem hi2, hz2]
    rfl

theorem runs_open {H : Type} {enc : TypeId × Value → H} {w : World} {fuel : Nat} {cs : List Value} {x : DataW H × List MemPlace} (h : DataW.trod enc Tryz.prog w 0 (fun _ => true) true fuel 87 cs = some x) :
    ∃ (A : Option Addr) (l : List (Int × Int)) (c : Nat), cs = [.slice A l.length c] ∧ RR w A l := by
  rcases open_slice_pairs Tryz.underlying87 Tryz.underlying93 (by kernel_rfl) rfl rfl (by kernel_rfl) (by kernel_rfl) h with ⟨hcs, _⟩ | ⟨a, l, c, m, n, V0, V1, D0, D1, P0, P1, hcs, _, hl, hm, hmm, _, hall⟩
  · exact ⟨none, [], 0, hcs, fun i p hi => by simp at hi⟩
  · simp only [if_true] at hmm
    subst hmm
    have hint : ∀ i, i < l → ∃ p : Int × Int, V0 i = .int .i64 p.1 ∧ V1 i = .int .i64 p.2 := fun i hi => by
      obtain ⟨-, -, t0, t1⟩ := hall i (by omega)
      obtain ⟨x, hx, -⟩ := int_open t0
      obtain ⟨y, hy, -⟩ := int_open t1
      exact ⟨(x, y), hx, hy⟩
    obtain ⟨f, hf⟩ := choose_lt (n := l) hint
    refine ⟨some a, (List.range l).map f, _, by rw [List.length_map, List.length_range]; exact hcs, fun i p hi => ?_⟩
    rw [List.getElem?_map] at hi
    obtain ⟨j, hj, rfl⟩ := Option.map_eq_some_iff.1 hi
    obtain ⟨hjl, hji⟩ := List.getElem?_eq_some_iff.1 hj
    rw [List.getElem_range] at hji
    subst hji
    have hil : i < l := by simpa using hjl
    obtain ⟨c0, c1, -, -⟩ := hall i (by omega)
    obtain ⟨v0, v1⟩ := hf i hil
    rw [v0] at c0
    rw [v1] at c1
    obtain ⟨p1, p2⟩ := cell_plain c0
    obtain ⟨z0, -, -, -⟩ := hall 0 (by omega)
    obtain ⟨z1, -⟩ := cell_plain z0
    obtain ⟨ab, ao, asp⟩ := a
    have hs : asp = none := by
      have e0 : (⟨ab, ao, asp⟩ : Addr).add (0 * 2) = ⟨ab, ao, asp⟩ := by simp [Addr.add]
      rw [e0] at z1
      exact congrArg Addr.spot z1
    subst hs
    rw [Addr.add_lit] at c0 c1 p2
    exact ⟨ab, ao, rfl, p2, c0, c1⟩

end Go.Proofs.YtgnagbbdnlmgeaaGreat.Ao
end
