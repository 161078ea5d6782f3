/- Parts of the proof, one behind the other: Rt, Rx, Tk, Hl, Ht, Ao, Aq. -/
import Derived.Test.YtgnagbbdnlmgeaaGreatC18
import Derived.Test.YtgnagbbdnlmgeaaGreatC11
import Derived.Test.YtgnagbbdnlmgeaaGreatC15
import Derived.Test.YtgnagbbdnlmgeaaGreatC13
import Derived.Test.YtgnagbbdnlmgeaaGreatC20
import Derived.Test.YtgnagbbdnlmgeaaGreatC01
import Derived.Test.YtgnagbbdnlmgeaaGreatRows
import Derived.ProofKit
import Derived.OpenShut
import Derived.ShutString
import Derived.ChangeOld
import Derived.Below
import Derived.Lib.SmallJoins
import Derived.Deep.Slices
import Derived.Deep.Fields
import Derived.ChangeSame

/- run.pick: the runs that are taken. -/
section
set_option linter.unusedVariables false
set_option linter.unusedSimpArgs false
set_option maxHeartbeats 2000000
set_option maxRecDepth 100000
namespace Go.Proofs.YtgnagbbdnlmgeaaGreat.Rr
open Go Go.RowKit
open Go.Proofs.YtgnagbbdnlmgeaaGreat.Ob Go.Proofs.YtgnagbbdnlmgeaaGreat.Ba Go.Proofs.YtgnagbbdnlmgeaaGreat.Oc Go.Proofs.YtgnagbbdnlmgeaaGreat.Pk Go.Proofs.YtgnagbbdnlmgeaaGreat.Bm

def cutL : List (Int × Int) → Int → List (Int × Int)
  | [], _ => []
  | r :: rs, c => if c = 0 then [] else (r.1, min r.2 c) :: cutL rs (c - min r.2 c)
def pickF (rs : List (Int × Int)) (c : Int) : List (Int × Int) := match (if c < 1 then none else fitF rs c) with | some s => [(s, c)] | none => cutL rs c
theorem cutL_zero (rs : List (Int × Int)) : cutL rs 0 = [] := by cases rs <;> simp [cutL]

theorem min_int (a b : Int) : min a b = if a ≤ b then a else b := by
  by_cases h : a ≤ b
  · rw [if_pos h, Int.min_eq_left h]
  · rw [if_neg h, Int.min_eq_right (by omega)]

theorem pick_ {W : World} {B b n : Nat} {l : List Nat} {A : Option Addr} {c : Nat} (h : Bm W B b n l A c) (k : Int) (hk0 : 0 ≤ k) (hk9 : k ≤ 1000000) :
    Calls Tryz.prog 179 #[.pointer (some ⟨b, 0, none⟩), .int .i64 k] W fun e w' => ∃ v, e = .returned v ∧ w'.ownsRow W.heap.size 93 2 v (pickF (frees n l) k).length (rvs (pickF (frees n l) k)) ∧ Below W.heap.size W w' := by
  have hu := Tryz.underlying93
  obtain ⟨z0, hinf, hz0, hz1, hz2⟩ := info_parts (show (Tryz.prog.info? 93).map (fun i => (i.zero, i.size, i.bytes)) = some (some (.agg #[.int .i64 0, .int .i64 0]), 2, 16) by kernel_rfl)
  have hn9 := h.le
  have HFT := Lib.hid (fit_ h k)
  have HF : Hid (∀ {W' : World}, Below W.heap.size W W' → _) := fun {W'} hb => free_run (h.keep hb)
  have hlen : (frees n l).length ≤ n + 1 := freeG_len n l _ _
  have hall : ∀ p ∈ frees n l, 0 ≤ p.1 ∧ 0 ≤ p.2 ∧ p.1 + p.2 ≤ n := fun p hp => frees_in hp
  generalize frees n l = R at *
  obtain ⟨m, hm⟩ : ∃ m, m = R.length := ⟨_, rfl⟩
  rw [← hm] at hlen HF
  have HM := Lib.hid hm
  have hm9 : m ≤ 65535 := by omega
  have HALL := Lib.hid hall
  cases ho : (if k < 1 then none else fitF R k) with
  | some s =>
    have hp : pickF R k = [(s, k)] := by unfold pickF; rw [ho]
    rw [hp]
    rw [ho] at HFT
    clear h hall hm hlen HF HALL HM ho hp
    go_enter Tryz.func179, Tryz.ntmps179
    go_wp2_with fail
    refine HFT.out.mono ?_
    rintro e w1 ⟨q1, -, hb1⟩
    have q3 := q1 s rfl
    subst q3
    have HB1 := Lib.hid hb1
    clear q1 hb1
    go_wp2_with fail
    go_ret
    refine ⟨_, rfl, ?_, bl_alloc (bl_alloc HB1.out _) _⟩
    have h9 := alloc_new (w1.alloc (.cells #[.int .i64 s, .int .i64 k] 93)) (.cells #[.int .i64 s, .int .i64 k] 93)
    rw [World.size_alloc] at h9
    exact ⟨by simp [rvs], .inr ⟨w1.heap.size + 1, 1, _, rfl, by have := HB1.out.size; omega, h9, Nat.le_refl _, by unfold maxLen; omega, by simp, by simp [rvs]⟩⟩
  | none =>
    have hp : pickF R k = cutL R k := by unfold pickF; rw [ho]
    rw [hp]
    obtain ⟨CR, hK⟩ : ∃ CR, CR = cutL R k := ⟨_, rfl⟩
    have HKK := Lib.hid hK
    rw [ho] at HFT
    rw [← hK]
    clear h hall hm hlen ho hp hK
    go_enter Tryz.func179, Tryz.ntmps179
    go_wp2_with fail
    refine HFT.out.mono ?_
    rintro e w1 ⟨-, q1, hb1⟩
    have q3 := q1 trivial
    subst q3
    have HB1 := Lib.hid hb1
    clear q1 hb1
    go_wp2_with fail
    refine (HF.out (bl_alloc HB1.out _)).mono ?_
    rintro e w2 ⟨v, rfl, hown, hb2⟩
    obtain ⟨A2, c2, rfl⟩ := own_slice hown
    have HR2 := Lib.hid (own_rr hown).1
    have HB2 := Lib.hid (bl_then (bl_alloc HB1.out _) hb2)
    clear hown hb2
    go_wp2_with fail
    go_loopw [22, 7, 1] (fun c22 c7 c1 wr => ∃ (i d : Nat) (q : Int), i ≤ m ∧ d ≤ i ∧ c22 = .int .i64 i ∧ c1 = .int .i64 q ∧ 0 ≤ q ∧ q ≤ 1000000 ∧ Hid (∃ done, CR = done ++ cutL (R.drop i) q ∧ done.length = d ∧ wr.ownsRow w2.heap.size 93 2 c7 d (rvs done) ∧ Below w2.heap.size w2 wr)) (fun c22 _ _ _ => m - (intOf c22).toNat)
    case atStart => exact ⟨0, 0, k, Nat.zero_le _, Nat.le_refl _, rfl, rfl, hk0, hk9, [], by rw [HKK.out]; rfl, rfl, own_nil0 _ _ _ _, Below.refl _ _⟩
    case round =>
      obtain ⟨i, d, q, hi, hd, rfl, rfl, hq0, hq9, HI⟩ := hrel
      by_cases hlt : i < m
      · obtain ⟨p, hp⟩ := some_at (l := R) (i := i) (by rw [← HM.out]; exact hlt)
        have hpa := HALL.out p (List.mem_of_getElem? hp)
        have hdr : R.drop i = p :: R.drop (i + 1) := by
          obtain ⟨h1, h2⟩ := List.getElem?_eq_some_iff.1 hp
          rw [List.drop_eq_getElem_cons h1, h2]
        obtain ⟨done, d1, d2, d3, d4⟩ := HI.out
        obtain ⟨g, off, rfl, hq, g1, g2⟩ := (HR2.out.below d4) i p hp
        obtain ⟨x, y⟩ := p
        rw [hdr] at d1
        by_cases hz : q = 0
        · subst hz
          have hce : CR = done := by rw [d1, cutL_zero, List.append_nil]
          have HD := Lib.hid (And.intro hce (And.intro d2 (And.intro d3 d4)))
          clear d1 d2 d3 d4 hce hdr hp hpa HI
          go_wp2_with fail
          go_ret
          obtain ⟨h1, h2, h3, h4⟩ := HD.out
          rw [h1, h2]
          exact ⟨_, rfl, own_base (own_kp h3 (fun k _ hk => Below.heap_alloc _ _ k hk)) HB2.out.size, bl_alloc (bl_then HB2.out h4) _⟩
        · obtain ⟨hx0, hy0, hxy⟩ := hpa
          simp only at hx0 hy0 hxy
          obtain ⟨mn, hmn⟩ : ∃ mn, mn = min y q := ⟨_, rfl⟩
          have hst : CR = (done ++ [(x, mn)]) ++ cutL (R.drop (i + 1)) (q - mn) := by
            rw [d1, List.append_assoc]
            unfold cutL
            rw [if_neg hz, ← hmn]
            cases R.drop (i + 1) <;> rfl
          rw [min_int] at hmn
          have hmn1 : 0 ≤ mn ∧ mn ≤ q := by rw [hmn]; split <;> omega
          obtain ⟨hmn2, hmn3⟩ := hmn1
          have HLO := Lib.hid (own_lo d3)
          have HOB : Hid (∀ k, u7.ownBlock = some k → k < wr.heap.size) := fun k hk => by
            obtain ⟨cur, hc⟩ := own_blk' d3 hk
            exact lt_of hc
          have HOW : Hid (∀ o o', ((wr.alloc o).alloc o').ownsRow w2.heap.size 93 2 u7 d (rvs done)) := fun o o' => own_kp (own_kp (W' := wr.alloc o) d3 (fun k _ hk => Below.heap_alloc _ _ k hk)) (fun k _ hk => Below.heap_alloc _ _ k hk)
          have HST := Lib.hid (And.intro hst (And.intro d2 d4))
          clear d1 d2 d3 d4 hst hdr hp HI
          have hqz : (q == 0) = false := beq_eq_false_iff_ne.2 hz
          have HFIN : Hid (∀ (w7 : World) (v' : Value), w7.ownsRow w2.heap.size 93 2 v' (d + 1) (rvs done ++ [.int .i64 x, .int .i64 mn]) → ((wr.alloc (.cells #[.int .i64 x, .int .i64 mn] 93)).alloc (.cells #[.int .i64 x, .int .i64 mn] 93)).grownBy w7 u7.ownBlock → w7.cell? ⟨wr.heap.size, 1, none⟩ = some (.int .i64 mn) ∧ Hid (∃ done, CR = done ++ cutL (R.drop (i + 1)) (q - mn) ∧ done.length = d + 1 ∧ w7.ownsRow w2.heap.size 93 2 v' (d + 1) (rvs done) ∧ Below w2.heap.size w2 w7)) := by
            intro w7 v' h1 h2
            refine ⟨?_, done ++ [(x, mn)], HST.out.1, by simp [HST.out.2.1], by rw [rvs_append]; exact h1, ?_⟩
            · have hb := h2.block wr.heap.size (by simp; omega) (fun e => by have := HOB.out _ e.symm; omega)
              have h9 := alloc_old (alloc_new wr (.cells #[.int .i64 x, .int .i64 mn] 93)) (.cells #[.int .i64 x, .int .i64 mn] 93)
              exact cell_of (hb.trans h9) 1
            · exact bl_grown (bl_alloc (bl_alloc HST.out.2.2 _) _) h2 HLO.out
          have hsz : Hid (w2.heap.size ≤ wr.heap.size + 2) := by show _ ≤ _; have := HST.out.2.2.size; omega
          have hqm : 0 ≤ q - mn ∧ q - mn ≤ 1000000 := by omega
          obtain ⟨hqm0, hqm1⟩ := hqm
          have HPN : Hid (∀ j u, [Value.int .i64 x, .int .i64 mn][j]? = some u → ((wr.alloc (.cells #[.int .i64 x, .int .i64 mn] 93)).alloc (.cells #[.int .i64 x, .int .i64 mn] 93)).cell? ((⟨wr.heap.size + 1, 0, none⟩ : Addr).add j) = some u) := by
            have h9 := pair_news (wr.alloc (.cells #[.int .i64 x, .int .i64 mn] 93)) (.int .i64 x) (.int .i64 mn) 93
            rw [World.size_alloc] at h9
            exact h9
          have hcs : (mn = y ∧ y ≤ q) ∨ (q = mn ∧ q < y) := by
            rw [hmn]
            split
            · exact .inl ⟨rfl, by assumption⟩
            · exact .inr ⟨rfl, by omega⟩
          clear hmn
          rcases hcs with ⟨rfl, hyq⟩ | ⟨rfl, hyq⟩
          all_goals
            go_wp2_with (at_builtin; refine wpList_append_own _ rfl (.tmp 33) (.tmp 35) 87 rfl w2.heap.size 93 z0 (.agg #[.int .i64 0, .int .i64 0]) 2 16 Tryz.underlying87 hinf hz0 hz1 hz2 rfl (by decide) _ d _ rfl (HOW.out _ _) ⟨wr.heap.size + 1, 0, none⟩ 1 1 [.int .i64 x, .int .i64 _] rfl rfl HPN.out (by intro u hu; simp at hu; rcases hu with rfl | rfl <;> rfl) (by unfold maxLen; omega) (by omega) (by have h1 := hsz.out; simp; omega) ?_; intro v' w7 hown' hgrow _; (obtain ⟨k7, HF7⟩ := HFIN.out _ _ hown' hgrow); clear hown' hgrow)
            go_roundw
            case rel => exact ⟨i + 1, d + 1, _, by omega, by omega, by go_num, rfl, by omega, by omega, by first | exact HF7 | (rw [Int.sub_self] at HF7; exact HF7)⟩
            case measure => simp [intOf]; omega
      · obtain rfl : i = m := by omega
        obtain ⟨done, d1, d2, d3, d4⟩ := HI.out
        have hce : CR = done := by
          rw [d1, List.drop_of_length_le (by rw [← HM.out]; exact Nat.le_refl _)]
          exact List.append_nil _
        have HD := Lib.hid (And.intro hce (And.intro d2 (And.intro d3 d4)))
        clear d1 d2 d3 d4 hce HI
        go_wp2_with fail
        go_ret
        obtain ⟨h1, h2, h3, h4⟩ := HD.out
        rw [h1, h2]
        exact ⟨_, rfl, own_base h3 HB2.out.size, bl_then HB2.out h4⟩

end Go.Proofs.YtgnagbbdnlmgeaaGreat.Rr
end

/- bitmap.Range, run.Take. -/
section
set_option linter.unusedVariables false
set_option linter.unusedSimpArgs false
set_option maxHeartbeats 2000000
set_option maxRecDepth 100000
namespace Go.Proofs.YtgnagbbdnlmgeaaGreat.Rr
open Go Go.RowKit
open Go.Proofs.YtgnagbbdnlmgeaaGreat.Ob Go.Proofs.YtgnagbbdnlmgeaaGreat.Ba Go.Proofs.YtgnagbbdnlmgeaaGreat.Oc Go.Proofs.YtgnagbbdnlmgeaaGreat.Pk Go.Proofs.YtgnagbbdnlmgeaaGreat.Bm Go.Proofs.YtgnagbbdnlmgeaaGreat.Jd

def setR (n : Nat) (l : List Nat) (s : Nat) : Nat → List Nat
  | 0 => l
  | k + 1 => (turnL n false (setR n l s k) [((s + k : Nat) : Int)]).1
def rangeF (n : Nat) (l : List Nat) (s k : Int) : Bool × List Nat :=
  if k < 1 ∨ s < 0 ∨ n ≤ s ∨ n - s < k then (false, l) else
  if ∃ j, nextF n l s.toNat true = some j ∧ (j : Int) < s + k then (false, l) else (true, setR n l s.toNat k.toNat)

theorem only_upd {q : Nat} {w w' : World} (o : Only (some ⟨q, 0, none⟩) w w') : Upd [q] w w' :=
  ⟨o.os, o.tape, o.output, Nat.le_of_eq o.size.symm, fun k _ hk => o.block k (fun a ha e => hk (by cases ha; simp at e; simp [e]))⟩

theorem range_ {W : World} {B b n : Nat} {l : List Nat} {g c : Nat} (h : Bm W B b n l (some ⟨g, 0, none⟩) c) (hg : g < W.heap.size) (s k : Int) (hs : -9223372036854775808 ≤ s ∧ s ≤ 9223372036854775807) :
    Calls Tryz.prog 180 #[.pointer (some ⟨b, 0, none⟩), .int .i64 s, .int .i64 k] W fun e w' => e = .returned (.bool (rangeF n l s k).1) ∧ Bm w' B b n (rangeF n l s k).2 (some ⟨g, 0, none⟩) c ∧ Upd [g] W w' := by
  have hu := Tryz.underlying182
  have k0 := cell_of h.box 0
  have hn9 := h.le
  obtain ⟨hs1, hs2⟩ := hs
  by_cases hc : k < 1 ∨ s < 0 ∨ (n : Int) ≤ s ∨ (n : Int) - s < k
  · have hf : rangeF n l s k = (false, l) := by unfold rangeF; rw [if_pos hc]
    rw [hf]
    have H := Lib.hid h
    clear h hf
    by_cases h1 : k < 1
    · clear hc
      go_enter Tryz.func180, Tryz.ntmps180
      go_wp2_with fail
      go_ret
      exact ⟨rfl, H.out, Upd.refl _ _⟩
    · by_cases h2 : s < 0
      · clear hc
        go_enter Tryz.func180, Tryz.ntmps180
        go_wp2_with fail
        go_ret
        exact ⟨rfl, H.out, Upd.refl _ _⟩
      · by_cases h3 : (n : Int) ≤ s
        · clear hc
          go_enter Tryz.func180, Tryz.ntmps180
          go_wp2_with fail
          go_ret
          exact ⟨rfl, H.out, Upd.refl _ _⟩
        · have h4 : (n : Int) - s < k := by omega
          clear hc
          go_enter Tryz.func180, Tryz.ntmps180
          go_wp2_with fail
          go_ret
          exact ⟨rfl, H.out, Upd.refl _ _⟩
  obtain ⟨s, rfl⟩ : ∃ t : Nat, s = t := ⟨s.toNat, by omega⟩
  obtain ⟨k, rfl⟩ : ∃ t : Nat, k = t := ⟨k.toNat, by omega⟩
  have c1 : (1 : Int) ≤ k := by omega
  have c2 : (s : Int) < n := by omega
  have c3 : (k : Int) ≤ n - s := by omega
  have c4 : k + s ≤ 65534 := by omega
  have HN := Lib.hid (nexti h s true)
  by_cases hj : ∃ j, nextF n l s true = some j ∧ (j : Int) < s + k
  · have hf : rangeF n l s k = (false, l) := by unfold rangeF; rw [if_neg hc, Int.toNat_natCast, if_pos hj]
    rw [hf]
    obtain ⟨j, hj1, hj2⟩ := hj
    rw [hj1] at HN
    have hx2 : ix (some j) = (j : Int) := rfl
    have H := Lib.hid h
    clear h hf hj1 hc
    go_enter Tryz.func180, Tryz.ntmps180
    go_wp2_with (go_at_call 116; refine HN.out.mono ?_; rintro e w1 ⟨rfl, hw1⟩; (have hw2 := hw1.symm); subst hw2; clear hw1)
    go_ret
    exact ⟨rfl, H.out, Upd.refl _ _⟩
  have hf : rangeF n l s k = (true, setR n l s k) := by unfold rangeF; rw [if_neg hc, Int.toNat_natCast, if_neg hj, Int.toNat_natCast]
  rw [hf]
  have hnx : ix (nextF n l s true) < 0 ∨ (s : Int) + k ≤ ix (nextF n l s true) := by
    cases hq : nextF n l s true with
    | none => exact .inl (by decide)
    | some j =>
      refine .inr ?_
      have : ¬ (j : Int) < s + k := fun h => hj ⟨j, hq, h⟩
      show (s : Int) + k ≤ (j : Int)
      omega
  have hlo : -1 ≤ ix (nextF n l s true) ∧ ix (nextF n l s true) ≤ 65534 := by
    cases hq : nextF n l s true with
    | none => exact ⟨by decide, by decide⟩
    | some j =>
      have := nextF_some hq
      show -1 ≤ (j : Int) ∧ (j : Int) ≤ 65534
      omega
  generalize ix (nextF n l s true) = x at *
  obtain ⟨hlo1, hlo2⟩ := hlo
  have H := Lib.hid h
  have HG := Lib.hid hg
  clear h hf hj hc hg
  rcases hnx with hnx | hnx
  all_goals
    go_enter Tryz.func180, Tryz.ntmps180
    go_wp2_with (go_at_call 116; refine HN.out.mono ?_; rintro e w1 ⟨rfl, hw1⟩; (have hw2 := hw1.symm); subst hw2; clear hw1)
    go_loopw [8] (fun c8 wr => ∃ i : Nat, i ≤ k ∧ c8 = .int .i64 ((s + i : Nat) : Int) ∧ Hid (Bm wr B b n (setR n l s i) (some ⟨g, 0, none⟩) c ∧ Upd [g] W wr)) (fun c8 _ => s + k - (intOf c8).toNat)
    case atStart => exact ⟨0, Nat.zero_le _, rfl, H.out, Upd.refl _ _⟩
    case round =>
      obtain ⟨i, hi, rfl, HR⟩ := hrel
      by_cases hlt : i < k
      · have HP : Hid (Calls Tryz.prog 61 #[.pointer (some ⟨b, 0, none⟩), .slice (some ⟨wr.heap.size, 0, none⟩) 1 1] (wr.alloc (.cells #[.int .i64 ((s + i : Nat) : Int)] 3)) fun e w' => ∃ r, e = .returned (.int .i64 r) ∧ Bm w' B b n (setR n l s (i + 1)) (some ⟨g, 0, none⟩) c ∧ Upd [g] W w') := by
          have hr : Rk .i64 (wr.alloc (.cells #[.int .i64 ((s + i : Nat) : Int)] 3)) (some ⟨wr.heap.size, 0, none⟩) [((s + i : Nat) : Int)] := by
            refine blk_rk (alloc_new wr _) ?_
            intro j x hj
            match j, hj with
            | 0, hj => simp at hj; subst hj; rfl
            | j + 1, hj => simp at hj
          have h9 := put_ (HR.out.1.keep (bl_alloc (Below.refl _ _) _)) hr (fun a a' ha ha' => by
            cases ha; cases ha'
            have := HR.out.2.size
            have := HG.out
            show g ≠ wr.heap.size
            omega) 1 (show (1 : Nat) ≤ 1000000000 by decide)
          refine (show Calls _ _ _ _ _ from h9).mono ?_
          rintro e w' ⟨rfl, q1, q2⟩
          exact ⟨_, rfl, q1, (HR.out.2.alloc _).trans (only_upd q2) (fun x hx => .inl hx)⟩
        go_wp2_with (go_at_call 61; refine HP.out.mono ?_; rintro e w7 ⟨r, rfl, q1, q2⟩; (have HQ := Lib.hid (And.intro q1 q2)); clear q1 q2)
        go_roundw
        case rel => exact ⟨i + 1, by omega, by go_num, HQ.out⟩
        case measure => simp [intOf]; omega
      · obtain rfl : i = k := by omega
        go_wp2_with fail
        go_ret
        exact ⟨rfl, HR.out.1, HR.out.2⟩

end Go.Proofs.YtgnagbbdnlmgeaaGreat.Rr
end

/- run.Take; the eleventh chapter's example. -/
section
set_option linter.unusedVariables false
set_option linter.unusedSimpArgs false
set_option maxHeartbeats 2000000
set_option maxRecDepth 100000
namespace Go.Proofs.YtgnagbbdnlmgeaaGreat.Rr
open Go Go.RowKit
open Go.Proofs.YtgnagbbdnlmgeaaGreat.Ob Go.Proofs.YtgnagbbdnlmgeaaGreat.Ba Go.Proofs.YtgnagbbdnlmgeaaGreat.Oc Go.Proofs.YtgnagbbdnlmgeaaGreat.Pk Go.Proofs.YtgnagbbdnlmgeaaGreat.Bm Go.Proofs.YtgnagbbdnlmgeaaGreat.Jd Go.Proofs.YtgnagbbdnlmgeaaGreat.Li

theorem own_upd {W W' : World} {B T s n : Nat} {v : Value} {xs : List Value} {F : List Nat} (h : W.ownsRow B T s v n xs) (hu : Upd F W W') (hF : ∀ k ∈ F, k < B) : W'.ownsRow B T s v n xs :=
  own_kp h fun k hk hlt => hu.block k hlt (fun hm => by have := hF k hm; omega)

def setRs (n : Nat) (l : List Nat) (rs : List (Int × Int)) : List Nat := rs.foldl (fun l r => (rangeF n l r.1 r.2).2) l
theorem setRs_snoc (n : Nat) (l : List Nat) (rs : List (Int × Int)) (r : Int × Int) : setRs n l (rs ++ [r]) = (rangeF n (setRs n l rs) r.1 r.2).2 := by simp [setRs]

theorem cutL_in (N : Int) : ∀ (rs : List (Int × Int)) (k : Int), 0 ≤ k → (∀ p ∈ rs, 0 ≤ p.1 ∧ 0 ≤ p.2 ∧ p.1 + p.2 ≤ N) → ∀ p ∈ cutL rs k, 0 ≤ p.1 ∧ p.1 ≤ N
  | [], k, _, _, p, hp => by simp [cutL] at hp
  | r :: rs, k, hk, h, p, hp => by
    unfold cutL at hp
    split at hp
    · simp at hp
    · have hr := h r (by simp)
      rcases List.mem_cons.1 hp with rfl | hp
      · simp only; omega
      · exact cutL_in N rs _ (by rw [min_int]; split <;> omega) (fun p hp => h p (by simp [hp])) p hp
theorem fit_in {rs : List (Int × Int)} {k s : Int} (h : fitF rs k = some s) : ∃ p ∈ rs, p.1 = s := by
  unfold fitF at h
  cases hq : rs.find? (fun r => decide (k ≤ r.2)) with
  | none => rw [hq] at h; cases h
  | some p => rw [hq] at h; exact ⟨p, List.mem_of_find?_eq_some hq, by simpa using h⟩
theorem pick_in {n : Nat} {l : List Nat} {k : Int} (hk : 0 ≤ k) : ∀ p ∈ pickF (frees n l) k, 0 ≤ p.1 ∧ p.1 ≤ n := by
  intro p hp
  unfold pickF at hp
  cases ho : (if k < 1 then none else fitF (frees n l) k) with
  | some s =>
    rw [ho] at hp
    simp at hp
    subst hp
    split at ho
    · cases ho
    · obtain ⟨q, hq, rfl⟩ := fit_in ho
      have := frees_in hq
      simp only
      omega
  | none =>
    rw [ho] at hp
    exact cutL_in n _ k hk (fun p hp => frees_in hp) p hp
theorem cutL_len : ∀ (rs : List (Int × Int)) (k : Int), (cutL rs k).length ≤ rs.length
  | [], k => by simp [cutL]
  | r :: rs, k => by
    unfold cutL
    split
    · simp
    · have := cutL_len rs (k - min r.2 k)
      simp
      omega
theorem pick_len (n : Nat) (l : List Nat) (k : Int) : (pickF (frees n l) k).length ≤ n + 1 := by
  unfold pickF
  split
  · simp
  · exact Nat.le_trans (cutL_len _ _) (freeG_len n l _ _)

theorem take_no {W : World} {B b n x : Nat} {g c : Nat} (h : Bm W B b n [x] (some ⟨g, 0, none⟩) c) (hx : x < 2 ^ n) (hn : n ≤ 24) (k : Int) (hk : k < 0 ∨ (n : Int) - (cnt (bitsOf x n) : Nat) < k) :
    Calls Tryz.prog 146 #[.pointer (some ⟨b, 0, none⟩), .int .i64 k] W fun e w' => e = .returned (.tuple #[.slice none 0 0, .bool false]) ∧ Below W.heap.size W w' := by
  have HF := Lib.hid (free_ h hx hn)
  generalize (n : Int) - (cnt (bitsOf x n) : Nat) = f at *
  clear h hx
  by_cases h0 : k < 0
  · clear hk
    go_enter Tryz.func146, Tryz.ntmps146
    go_wp2_with fail
    go_ret2
    exact ⟨rfl, Below.refl _ _⟩
  · have h1 : f < k := by omega
    clear hk
    go_enter Tryz.func146, Tryz.ntmps146
    go_wp2_with (go_at_call 97; refine HF.out.mono ?_; rintro e w1 ⟨rfl, hb1⟩; (have HB1 := Lib.hid hb1); clear hb1)
    go_ret2
    exact ⟨rfl, HB1.out⟩

theorem take_yes {W : World} {B b n x : Nat} {g c : Nat} (h : Bm W B b n [x] (some ⟨g, 0, none⟩) c) (hx : x < 2 ^ n) (hn : n ≤ 24) (hg : g < W.heap.size) (k : Int) (hk0 : 0 ≤ k) (hk1 : k ≤ (n : Int) - (cnt (bitsOf x n) : Nat)) :
    Calls Tryz.prog 146 #[.pointer (some ⟨b, 0, none⟩), .int .i64 k] W fun e w' => ∃ v, e = .returned (.tuple #[v, .bool true]) ∧ w'.ownsRow W.heap.size 93 2 v (pickF (frees n [x]) k).length (rvs (pickF (frees n [x]) k)) ∧ Bm w' B b n (setRs n [x] (pickF (frees n [x]) k)) (some ⟨g, 0, none⟩) c ∧ Upd [g] W w' := by
  have HF := Lib.hid (free_ h hx hn)
  have H : Hid (∀ {W' : World}, Below W.heap.size W W' → Bm W' B b n [x] (some ⟨g, 0, none⟩) c) := fun {W'} hb => h.keep hb
  have HP : Hid (∀ {W' : World}, Below W.heap.size W W' → _) := fun {W'} hb => pick_ (h.keep hb) k hk0 (by have := cnt_le (bitsOf x n); rw [bitsOf_length] at this; omega)
  have hin := pick_in (n := n) (l := [x]) hk0
  have hlen := pick_len n [x] k
  generalize pickF (frees n [x]) k = R at *
  obtain ⟨m, hm⟩ : ∃ m, m = R.length := ⟨_, rfl⟩
  rw [← hm] at hlen HP
  rw [← hm]
  have HM := Lib.hid hm
  have HIN := Lib.hid hin
  have HG := Lib.hid hg
  have hm9 : m ≤ 25 := by omega
  have HN := Lib.hid hn
  generalize (n : Int) - (cnt (bitsOf x n) : Nat) = f at *
  clear h hx hin hlen hm hg hn
  go_enter Tryz.func146, Tryz.ntmps146
  go_wp2_with (go_at_call 97; refine HF.out.mono ?_; rintro e w1 ⟨rfl, hb1⟩; (have HB1 := Lib.hid hb1); clear hb1)
  refine (HP.out HB1.out).mono ?_
  rintro e w2 ⟨v, rfl, hown, hb2⟩
  obtain ⟨A2, c2, rfl⟩ := own_slice hown
  have HO2 := Lib.hid hown
  have HB2 := Lib.hid (bl_then HB1.out hb2)
  clear hown hb2
  go_wp2_with fail
  go_loopw [22] (fun c22 wr => ∃ i : Nat, i ≤ m ∧ c22 = .int .i64 i ∧ Hid (Bm wr B b n (setRs n [x] (R.take i)) (some ⟨g, 0, none⟩) c ∧ Upd [g] w2 wr)) (fun c22 _ => m - (intOf c22).toNat)
  case atStart => exact ⟨0, Nat.zero_le _, rfl, H.out HB2.out, Upd.refl _ _⟩
  case round =>
    obtain ⟨i, hi, rfl, HR⟩ := hrel
    by_cases hlt : i < m
    · obtain ⟨p, hp⟩ := some_at (l := R) (i := i) (by rw [← HM.out]; exact hlt)
      have hpi := HIN.out p (List.mem_of_getElem? hp)
      have hgB : ∀ k ∈ [g], k < w1.heap.size := fun k hk => by
        have e : k = g := by simpa using hk
        have := HG.out
        have := HB1.out.size
        omega
      obtain ⟨q, off, rfl, hq, g1, g2⟩ := (own_rr (own_upd HO2.out HR.out.2 hgB)).1 i p hp
      have hsn : setRs n [x] (R.take (i + 1)) = (rangeF n (setRs n [x] (R.take i)) p.1 p.2).2 := by rw [take_next hp, setRs_snoc]
      obtain ⟨y, z⟩ := p
      have hgw : g < wr.heap.size := by have := HG.out; have := HB2.out.size; have := HR.out.2.size; omega
      have HRG : Hid (∀ {W' : World}, Below wr.heap.size wr W' → _) := fun {W'} hb => range_ (HR.out.1.keep hb) (Nat.lt_of_lt_of_le hgw hb.size) y z (by have := HN.out; simp only at hpi; omega)
      rw [← hsn] at HRG
      clear hp hpi hgB hsn hgw
      go_wp2_with (go_at_call 180; refine (HRG.out (bl_alloc (Below.refl _ _) _)).mono ?_; rintro e w7 ⟨rfl, q1, q2⟩; (have HQ := Lib.hid (And.intro q1 q2)); clear q1 q2)
      go_roundw
      case rel => exact ⟨i + 1, by omega, by go_num, HQ.out.1, (HR.out.2.alloc _).trans HQ.out.2 (fun x hx => .inl hx)⟩
      case measure => simp [intOf]; omega
    · obtain rfl : i = m := by omega
      go_wp2_with fail
      go_ret2
      have h9 := HR.out.1
      rw [List.take_of_length_le (by rw [← HM.out]; exact Nat.le_refl _)] at h9
      refine ⟨_, rfl, own_upd (own_base HO2.out HB1.out.size) HR.out.2 (fun k hk => ?_), h9, (Upd.of_below HB2.out).trans HR.out.2 (fun x hx => .inl hx)⟩
      have e : k = g := by simpa using hk
      have := HG.out
      omega

theorem lives11 (w : World) : Calls Tryz.prog 100 #[] w fun e w' => e = .returned (.bool true) ∧ Below w.heap.size w w' := by
  have hu := Tryz.underlying93
  go_enter Tryz.func100, Tryz.ntmps100
  go_wp2_with fail
  refine (show Calls _ _ #[.int .i64 6] _ _ from new_ 6 (by decide) w).mono ?_
  rintro e w1 ⟨b, rfl, hm1, hb1⟩
  have HM1 := Lib.hid hm1
  have HB1 := Lib.hid hb1
  clear hm1 hb1
  go_wp2_with fail
  refine (lives10 w1).mono ?_
  rintro e w2 ⟨rfl, hb2⟩
  have HM2 := Lib.hid (HM1.out.keep hb2)
  have HB2 := Lib.hid (bl_then HB1.out hb2)
  have HS2 : Hid (w.heap.size < w2.heap.size) := by have := lt_of HM1.out.box; have := HM1.out.lo; have := hb2.size; show _ < _; omega
  clear hb2
  have HPUT : Hid (Calls Tryz.prog 61 #[.pointer (some ⟨b, 0, none⟩), .slice (some ⟨w2.heap.size, 0, none⟩) 2 2] (w2.alloc (.cells #[.int .i64 1, .int .i64 4] 3)) fun e w' => e = .returned (.int .i64 2) ∧ Bm w' w.heap.size b 6 [18] (some ⟨w.heap.size, 0, none⟩) 1 ∧ Upd [w.heap.size] (w2.alloc (.cells #[.int .i64 1, .int .i64 4] 3)) w') := by
    have h9 := put_ (HM2.out.keep (bl_alloc (Below.refl _ _) (.cells #[.int .i64 1, .int .i64 4] 3))) (two_rk (alloc_new w2 _)) (fun a a' ha ha' => by
      cases ha; cases ha'
      have := HS2.out
      show w.heap.size ≠ w2.heap.size
      omega) 2 (show (2 : Nat) ≤ 1000000000 by decide)
    have e9 : turnL 6 false (List.replicate ((6 + 63) / 64) 0) [1, 4] = ([18], 2) := by decide
    rw [e9] at h9
    refine (show Calls _ _ _ _ _ from h9).mono ?_
    rintro e w' ⟨rfl, q1, q2⟩
    exact ⟨rfl, q1, only_upd q2⟩
  go_wp2_with (go_at_call 61; refine HPUT.out.mono ?_; rintro e w3 ⟨rfl, q1, q2⟩; (have HQ3 := Lib.hid (And.intro q1 q2)); clear q1 q2)
  have HT : Hid (Calls Tryz.prog 146 #[.pointer (some ⟨b, 0, none⟩), .int .i64 3] w3 fun e w' => ∃ A c, e = .returned (.tuple #[.slice A 2 c, .bool true]) ∧ RR w' A [(0, 1), (2, 2)] ∧ Upd [w.heap.size] w3 w') := by
    have h9 := take_yes HQ3.out.1 (by decide) (by decide) (by have := HS2.out; have := HQ3.out.2.size; rw [World.size_alloc] at this; omega) 3 (by decide) (by decide)
    have e9 : pickF (frees 6 [18]) 3 = [(0, 1), (2, 2)] := by decide
    rw [e9] at h9
    refine h9.mono ?_
    rintro e w' ⟨v, rfl, q1, -, q2⟩
    obtain ⟨A, c, rfl⟩ := own_slice q1
    exact ⟨A, c, rfl, (own_rr q1).1, q2⟩
  refine HT.out.mono ?_
  rintro e w4 ⟨A, c, rfl, hr, hu4⟩
  obtain ⟨q, off, rfl, -, g1, g2⟩ := hr 0 _ rfl
  obtain ⟨q', off', e9, -, g3, g4⟩ := hr 1 _ rfl
  simp only [Option.some.injEq, Addr.mk.injEq, and_true] at e9
  obtain ⟨rfl, rfl⟩ := e9
  have g1 : w4.cell? ⟨q, off, none⟩ = some (.int .i64 0) := g1
  have g2 : w4.cell? ⟨q, off + 1, none⟩ = some (.int .i64 1) := g2
  have g3 : w4.cell? ⟨q, off + 2, none⟩ = some (.int .i64 2) := g3
  have g4 : w4.cell? ⟨q, off + 2 + 1, none⟩ = some (.int .i64 2) := g4
  have HB4 : Hid (Below w.heap.size w w4) := (((Upd.of_below (F := [w.heap.size]) HB2.out).alloc _).trans HQ3.out.2 (fun x hx => .inl hx)).trans hu4 (fun x hx => .inl hx) |>.below (fun k hk => by
    have e : k = w.heap.size := by simpa using hk
    omega)
  clear hr hu4
  go_wp2_with fail
  go_ret
  exact ⟨rfl, HB4.out⟩

end Go.Proofs.YtgnagbbdnlmgeaaGreat.Rr
end

/- cantlelaw16.Lives. -/
section
set_option linter.unusedVariables false
set_option linter.unusedSimpArgs false
set_option maxHeartbeats 4000000
set_option maxRecDepth 100000
namespace Go.Proofs.YtgnagbbdnlmgeaaGreat.Tr
open Go Go.RowKit
open Go.Proofs.YtgnagbbdnlmgeaaGreat.Ob Go.Proofs.YtgnagbbdnlmgeaaGreat.Ba Go.Proofs.YtgnagbbdnlmgeaaGreat.Ko Go.Proofs.YtgnagbbdnlmgeaaGreat.Ge Go.Proofs.YtgnagbbdnlmgeaaGreat.Oc Go.Proofs.YtgnagbbdnlmgeaaGreat.Pk Go.Proofs.YtgnagbbdnlmgeaaGreat.Su Go.Proofs.YtgnagbbdnlmgeaaGreat.Rf Go.Proofs.YtgnagbbdnlmgeaaGreat.Dv Go.Proofs.YtgnagbbdnlmgeaaGreat.Vo Go.Proofs.YtgnagbbdnlmgeaaGreat.Ra Go.Proofs.YtgnagbbdnlmgeaaGreat.Jh Go.Proofs.YtgnagbbdnlmgeaaGreat.Ho

theorem two_rr {w : World} {q T : Nat} {a b c d : Int} {fr : Nat × Nat} (h : w.heap[q]? = some (.cells #[.int .i64 a, .int .i64 b, .int .i64 c, .int .i64 d] T fr)) : Rr.RR w (some ⟨q, 0, none⟩) [(a, b), (c, d)] := by
  intro i p hi
  have hlt := lt_of h
  match i with
  | 0 => simp at hi; subst hi; exact ⟨q, 0, rfl, hlt, cell_of h 0, cell_of h 1⟩
  | 1 => simp at hi; subst hi; exact ⟨q, 0, rfl, hlt, cell_of h 2, cell_of h 3⟩
  | i + 2 => simp at hi
theorem three_rk {w : World} {q T : Nat} {a b c : Int} {fr : Nat × Nat} (h : w.heap[q]? = some (.cells #[.int .i64 a, .int .i64 b, .int .i64 c] T fr)) : Rk .i64 w (some ⟨q, 0, none⟩) [a, b, c] := by
  intro i x hi
  have hlt := lt_of h
  match i with
  | 0 => simp at hi; subst hi; exact ⟨⟨q, 0, none⟩, rfl, hlt, cell_of h 0⟩
  | 1 => simp at hi; subst hi; exact ⟨⟨q, 0, none⟩, rfl, hlt, cell_of h 1⟩
  | 2 => simp at hi; subst hi; exact ⟨⟨q, 0, none⟩, rfl, hlt, cell_of h 2⟩
  | i + 3 => simp at hi

theorem lives16 (w : World) : Calls Tryz.prog 32 #[] w fun e w' => e = .returned (.bool true) ∧ Below w.heap.size w w' := by
  have hu := Tryz.underlying30
  have hu2 := Tryz.underlying82
  obtain ⟨n, m, s, T, p3, p4, p5, ws, hi⟩ := im_ 9 1 0 [] (by simp)
  have hn : n = 10 := hi.n_is
  subst hn
  have HO : Hid (∀ {W : World}, _) := fun {W} => open16N (by decide) (by decide) (by decide) hi (A := none) 0 (by decide) (w := W) (Rk.nil _ _ _)
  have HI := Lib.hid hi
  clear hi
  go_enter Tryz.func32, Tryz.ntmps32
  go_wp2_with fail
  refine HO.out.mono ?_
  rintro e w2 ⟨v, b, g, a8, c8, rfl, hop⟩
  unfold volA
  have HV2 := Lib.hid (hop.vol.below (bl_alloc (Below.refl _ _) (.cells #[.int .i64 (10 : Nat), .int .i64 m, .int .i64 s, .int .i64 16, .int .i64 (16 + 8 * (m : Int)), .int .i64 p3, .int .i64 p4, .int .i64 p5, .slice (some a8) T c8] 30)))
  have HB2 : Hid (Below w.heap.size w (w2.alloc (.cells #[.int .i64 (10 : Nat), .int .i64 m, .int .i64 s, .int .i64 16, .int .i64 (16 + 8 * (m : Int)), .int .i64 p3, .int .i64 p4, .int .i64 p5, .slice (some a8) T c8] 30))) := bl_alloc hop.below _
  have HFT : Hid (∀ k ∈ g.foot b, w.heap.size ≤ k ∧ k < w2.heap.size) := fun k hk => ⟨hop.foot k hk, hop.vol.dev.lt k hk⟩
  clear hop
  go_wp2_with fail
  refine (Rr.lives11 _).mono ?_
  rintro e w3 ⟨rfl, hb3⟩
  have HV3 := Lib.hid (HV2.out.below hb3)
  have HB3 := Lib.hid (bl_then HB2.out hb3)
  have HZ3 : Hid (w2.heap.size < w3.heap.size) := by show _ < _; have := hb3.size; rw [World.size_alloc] at this; omega
  clear hb3
  go_wp2_with fail
  refine (Li.lives15 _).mono ?_
  rintro e w4 ⟨rfl, hb4⟩
  have HV4 := Lib.hid (HV3.out.below hb4)
  have HB4 := Lib.hid (bl_then HB3.out hb4)
  have HZ4 : Hid (w2.heap.size < w4.heap.size) := Nat.lt_of_lt_of_le HZ3.out hb4.size
  clear hb4
  have HWR : Hid (Calls Tryz.prog 36 #[.pointer (some ⟨v, 0, none⟩), .slice (some ⟨w4.heap.size, 0, none⟩) 2 2, .slice (some ⟨w4.heap.size + 1, 0, none⟩) 2 2] ((w4.alloc (.cells #[.int .i64 2, .int .i64 0] 3)).alloc (.cells #[.int .i64 5, .int .i64 2, .int .i64 1, .int .i64 1] 93)) fun e w' => e = .returned (.int .i64 0) ∧ Below w.heap.size w w' ∧ ∃ d' g' ws', VolIs w' v b 10 m s d' g' ∧ Pm.wordsOf d' = ints ws' ∧ (∀ x ∈ ws', x < 18446744073709551616) ∧ 16 + 8 * m + 10 ≤ ws'.length ∧ chainF 10 (slF ws' 10 m) 10 2 = some [(2, (5, 2, 0)), (0, (1, 1, -1))]) := by
    have hbb := bl_alloc (bl_alloc (Below.refl w4.heap.size w4) (.cells #[.int .i64 2, .int .i64 0] 3)) (.cells #[.int .i64 5, .int .i64 2, .int .i64 1, .int .i64 1] 93)
    have hfit : 16 + 8 * m + 10 ≤ ws.length := by rw [HI.out.len]; exact HI.out.fit
    have hr : rightB 10 [2, 0] [(5, 2), (1, 1)] = true := by decide
    have h9 := write_yes (HV4.out.below hbb) (by decide) (Vs.words_devOf _) hfit rfl (show (0 : Nat) ≤ 900000000 by decide) (Li.two_rk (alloc_old (alloc_new w4 _) _)) 2 (two_rr (Je.two_new w4 _ _)) 2 hr
      (fun a ha hm => by cases ha; have h8 := (HFT.out _ hm).2; have := HZ4.out; simp only at h8; omega) (fun a ha hm => by cases ha; have h8 := (HFT.out _ hm).2; have := HZ4.out; simp only at h8; omega)
    refine (show Calls _ _ #[_, .slice _ 2 2, .slice _ 2 2] _ _ from h9).mono ?_
    rintro e w' ⟨rfl, d', g', hw⟩
    have hgz : GoodS 10 (List.zip [2, 0] [((5 : Int), (2 : Int)), (1, 1)]) := (rightB_out hr).2.1
    refine ⟨rfl, (bl_alloc (bl_alloc HB4.out _) _).trans (hw.upd.belowB (bl_alloc (bl_alloc HB4.out _) _).size (fun k hk => (HFT.out k hk).1)), d', g', _, hw.vol, hw.words, wrW_lt (by decide) HI.out.lt hgz, by rw [wrW_len]; exact hfit, ?_⟩
    exact wrW_chain (by decide) hfit hgz (rightB_out hr).2.2.1
  go_wp2_with (go_at_call 36; refine HWR.out.mono ?_; rintro e w5 ⟨rfl, hb5, d5, g5, ws5, hv5, hw5, hlt5, hf5, hc5⟩; (have HV5 := Lib.hid (And.intro hv5 (And.intro hw5 (And.intro hlt5 (And.intro hf5 hc5))))); (have HB5 := Lib.hid hb5); clear hb5 hv5 hw5 hlt5 hf5 hc5)
  have HRD := Lib.hid (read_ HV5.out.1 HV5.out.2.1 HV5.out.2.2.1 HV5.out.2.2.2.1 (by decide) 2)
  refine HRD.out.mono ?_
  rintro e w6 ⟨hso, -, hb6⟩
  obtain ⟨A6, c6, B6, d6, he6, hi6, ht6⟩ := hso _ HV5.out.2.2.2.2
  have he6 : e = .returned (.tuple #[.agg #[.slice A6 2 c6, .slice B6 2 d6], .int .i64 0]) := he6
  subst he6
  have HB6 := Lib.hid (bl_then HB5.out hb6)
  have HT6 : Hid (TR w6 B6 [(5, 2, 0), (1, 1, -1)]) := (own_tr (l := [(5, 2, 0), (1, 1, -1)]) ht6).1
  have HBK : Hid (Calls Tryz.prog 47 #[.agg #[.slice A6 2 c6, .slice B6 2 d6]] (w6.alloc (.cells #[.slice A6 2 c6, .slice B6 2 d6] 82)) fun e w' => ∃ A c, e = .returned (.slice A 3 c) ∧ Rk .i64 w' A [5, 6, 1] ∧ Below (w6.alloc (.cells #[.slice A6 2 c6, .slice B6 2 d6] 82)).heap.size (w6.alloc (.cells #[.slice A6 2 c6, .slice B6 2 d6] 82)) w') := by
    have h9 := blocks_ (A := A6) (HT6.out.below (bl_alloc (Below.refl _ _) (.cells #[.slice A6 2 c6, .slice B6 2 d6] 82))) 2 c6 d6 (by decide) (by decide)
    refine (show Calls _ _ #[.agg #[_, .slice _ 2 _]] _ _ from h9).mono ?_
    rintro e w' ⟨v', rfl, ho, hb⟩
    have e9 : blocksOf [((5 : Int), (2 : Int), (0 : Int)), (1, 1, -1)] = [5, 6, 1] := by decide
    rw [e9] at ho
    obtain ⟨A, c, rfl⟩ := own_slice ho
    exact ⟨A, c, rfl, (own_rk (k := .i64) ho).1, hb⟩
  have HSM : Hid (∀ {W : World} {A : Option Addr} (c : Nat), Rk .i64 W A [5, 6, 1] → Calls Tryz.prog 35 #[.slice A 3 c, .slice (some ⟨W.heap.size, 0, none⟩) 3 3] (W.alloc (.cells #[.int .i64 5, .int .i64 6, .int .i64 1] 3)) fun e w' => e = .returned (.bool true) ∧ Below W.heap.size W w') := fun {W} {A} c hr => by
    have h9 := rsame_ (hr.below (bl_alloc (Below.refl _ _) (.cells #[.int .i64 5, .int .i64 6, .int .i64 1] 3))) (three_rk (alloc_new W (.cells #[.int .i64 5, .int .i64 6, .int .i64 1] 3))) c 3 (by decide) (by decide)
    refine (show Calls _ _ #[.slice _ 3 _, .slice _ 3 3] _ _ from h9).mono ?_
    rintro e w' ⟨rfl, q, rfl⟩
    exact ⟨rfl, bl_drewN (bl_alloc (Below.refl _ _) _) _⟩
  clear hso hi6 ht6 hb6
  go_wp2_with (first | (go_at_call 47; refine HBK.out.mono ?_; rintro e w7 ⟨A7, c7, rfl, hr7, hb7⟩; (have HR7 := Lib.hid hr7); (have HB7 := Lib.hid (bl_then (bl_alloc HB6.out _) hb7)); clear hr7 hb7) |
    (go_at_call 35; refine (HSM.out _ HR7.out).mono ?_; rintro e w8 ⟨rfl, hb8⟩; (have HB8 := Lib.hid (bl_then HB7.out hb8)); clear hb8))
  go_ret
  exact ⟨rfl, HB8.out⟩

end Go.Proofs.YtgnagbbdnlmgeaaGreat.Tr
end

/- ChainTails: the walk. -/
section
set_option linter.unusedVariables false
set_option linter.unusedSimpArgs false
set_option maxHeartbeats 4000000
set_option maxRecDepth 100000
namespace Go.Proofs.YtgnagbbdnlmgeaaGreat.Ht
open Go Go.RowKit
open Go.Proofs.YtgnagbbdnlmgeaaGreat.Ob Go.Proofs.YtgnagbbdnlmgeaaGreat.Ba Go.Proofs.YtgnagbbdnlmgeaaGreat.Ko Go.Proofs.YtgnagbbdnlmgeaaGreat.Ge Go.Proofs.YtgnagbbdnlmgeaaGreat.Oc Go.Proofs.YtgnagbbdnlmgeaaGreat.Pk Go.Proofs.YtgnagbbdnlmgeaaGreat.Su Go.Proofs.YtgnagbbdnlmgeaaGreat.Rf Go.Proofs.YtgnagbbdnlmgeaaGreat.Dv Go.Proofs.YtgnagbbdnlmgeaaGreat.Vo Go.Proofs.YtgnagbbdnlmgeaaGreat.Ra Go.Proofs.YtgnagbbdnlmgeaaGreat.Jh Go.Proofs.YtgnagbbdnlmgeaaGreat.Ho Go.Proofs.YtgnagbbdnlmgeaaGreat.Tr

structure Bl (w W : World) : Prop where
  below : Below w.heap.size w W

theorem walk (r0 r1 r2 : Nat) (h0 : r0 < 256) (h1 : r1 < 256) (h2 : r2 < 256) {A : Option Addr} {l : List Nat} (c : Nat) {w : World} (h : Rk .u64 w A (ints l)) (hlw : ∀ x ∈ l, x < 18446744073709551616) (hl9 : l.length ≤ 9223372036854775807) (hd : Nat) (hd9 : hd < 256) :
    Calls Tryz.prog 4 #[.agg #[.int .u8 r0, .int .u8 r1, .int .u8 r2, .slice A l.length c], .int .u8 hd] w fun e w' => e = .returned (.bool true) ∧ Below w.heap.size w w' := by
  have hu := Tryz.underlying30
  have hu2 := Tryz.underlying82
  have hu3 := Tryz.underlying51
  obtain ⟨n, m, s, T, p3, p4, p5, ws, hi⟩ := im_ r0 r1 r2 l hlw
  have HO : Hid (∀ {W : World}, Rk .u64 W A (ints l) → _) := fun {W} hW => open16N h0 h1 h2 hi c hl9 (w := W) hW
  have HRD : Hid (∀ {W : World} {v b : Nat} {g : Lay} (i : Int), VolIs W v b n m s (Pm.devOf (ints ws)) g → _) := fun {W} {v} {b} {g} i hv => read_ hv (Vs.words_devOf _) hi.lt (by rw [hi.len]; exact hi.fit) (by have := hi.n2; omega) i
  have HAT : Hid (∀ k st L, chainF n (slF ws n m) k st = some L → ∀ (i : Nat) x, L[i]? = some x → _) := fun k st L => chainF_at k st L
  have HNE : Hid (∀ k st L, chainF n (slF ws n m) k st = some L → st ≠ -1 → _) := fun k st L h9 => chainF_ne h9
  have HLE : Hid (∀ k st L, chainF n (slF ws n m) k st = some L → _) := fun k st L h9 => chainF_len k st L h9
  generalize slF ws n m = sl at *
  have HI := Lib.hid hi
  have H := Lib.hid h
  have hn1 := hi.n1
  have hn2 := hi.n2
  have hnz : ((n : Int) == 0) = false := by rw [beq_eq_false_iff_ne]; omega
  obtain ⟨len, hle⟩ : ∃ len, len = l.length := ⟨_, rfl⟩
  rw [← hle] at HO
  rw [← hle]
  clear h hlw hl9 hi h0 h1 h2 hle
  go_enter Tryz.func4, Tryz.ntmps4
  go_wp2_with fail
  refine (lives16 _).mono ?_
  rintro e w1 ⟨rfl, hb1⟩
  have hqr := blk_bl (alloc_new w (.cells #[.int .u8 r0, .int .u8 r1, .int .u8 r2, .slice A len c] 24)) hb1
  have HB1 := Lib.hid (bl_then (bl_alloc (Below.refl _ _) _) hb1)
  have a0 := cell_of hqr 0
  have a1 := cell_of hqr 1
  have a2 := cell_of hqr 2
  have a3 := cell_of hqr 3
  clear hqr hb1
  go_wp2_with fail
  refine (HO.out (H.out.below HB1.out)).mono ?_
  rintro e w2 ⟨v, b, g, a8, c8, rfl, hop⟩
  unfold volA
  have HV2 := Lib.hid (hop.vol.below (bl_alloc (Below.refl _ _) (.cells #[.int .i64 n, .int .i64 m, .int .i64 s, .int .i64 16, .int .i64 (16 + 8 * m), .int .i64 p3, .int .i64 p4, .int .i64 p5, .slice (some a8) T c8] 30)))
  have HB2 : Hid (Below w.heap.size w (w2.alloc (.cells #[.int .i64 n, .int .i64 m, .int .i64 s, .int .i64 16, .int .i64 (16 + 8 * m), .int .i64 p3, .int .i64 p4, .int .i64 p5, .slice (some a8) T c8] 30))) := bl_alloc (bl_then HB1.out hop.below) _
  clear a0 a1 a2 a3 hop
  go_wp2_with fail
  refine (HRD.out _ HV2.out).mono ?_
  rintro e w3 ⟨hso, hno, hb3⟩
  have HV3 := Lib.hid (HV2.out.below hb3)
  have HB3 := Lib.hid (bl_then HB2.out hb3)
  clear hb3
  cases hc : chainF n sl n ((hd : Int) % n) with
  | none =>
    obtain rfl := hno hc
    clear hso hno hc
    go_wp2_with fail
    go_ret
    exact ⟨rfl, bl_alloc HB3.out _⟩
  | some L =>
    obtain ⟨A3, cA, B3, cB, rfl, hi3, ht3⟩ := hso L hc
    have HC := Lib.hid hc
    have hne := HNE.out _ _ _ hc (by have : (0 : Int) ≤ (hd : Int) % n := Int.emod_nonneg _ (by omega); omega)
    have HLL := HLE.out _ _ _ hc
    obtain ⟨k, hk⟩ : ∃ k, k = L.length := ⟨_, rfl⟩
    have hk1 : 1 ≤ k := by obtain ⟨t, r, rfl⟩ := hne; simp at hk; omega
    rw [← hk] at hi3 ht3 HLL
    rw [← hk]
    have HL := Lib.hid hk
    have HR3 := Lib.hid (own_rk (k := .i64) hi3).1
    have hcA := (own_rk (k := .i64) hi3).2.2
    have HT3 := Lib.hid (own_tr ht3).1
    clear hso hno hc hi3 ht3 hne hk
    go_wp2_with fail
    obtain ⟨W3, hW3⟩ : ∃ W3, W3 = w3.alloc (.cells #[.slice A3 k cA, .slice B3 k cB] 82) := ⟨_, rfl⟩
    have HQ3 : Hid (W3.heap[w3.heap.size]? = some (.cells #[.slice A3 k cA, .slice B3 k cB] 82 (0, 0))) := by rw [hW3]; exact alloc_new _ _
    have HX3 : Hid (VolIs W3 v b n m s (Pm.devOf (ints ws)) g ∧ Below w.heap.size w W3 ∧ Rk .i64 W3 A3 (L.map Prod.fst) ∧ TR W3 B3 (L.map Prod.snd)) := by
      have hb : Below w3.heap.size w3 W3 := by rw [hW3]; exact bl_alloc (Below.refl _ _) _
      exact ⟨HV3.out.below hb, bl_then HB3.out hb, HR3.out.below hb, HT3.out.below hb⟩
    rw [← hW3]
    clear hW3
    generalize w3.heap.size = q3 at *
    go_loopw [41] (fun c41 wr => ∃ i : Nat, i ≤ k ∧ c41 = .int .i64 i ∧ Hid (Below W3.heap.size W3 wr)) (fun c41 _ => k - (intOf c41).toNat)
    case atStart => exact ⟨0, Nat.zero_le _, rfl, Below.refl _ _⟩
    case round =>
      obtain ⟨i, hi, rfl, HB⟩ := hrel
      by_cases hlt : i < k
      · obtain ⟨x, hx⟩ := some_at (l := L) (i := i) (by rw [← HL.out]; exact hlt)
        have hx1 : (L.map Prod.fst)[i]? = some x.1 := by rw [List.getElem?_map, hx]; rfl
        have hx2 : (L.map Prod.snd)[i]? = some x.2 := by rw [List.getElem?_map, hx]; rfl
        obtain ⟨h91, h92, h93, h94⟩ := HAT.out _ _ _ HC.out i x hx
        have HRK := Lib.hid (HX3.out.2.2.1.below HB.out)
        have HTR := Lib.hid (HX3.out.2.2.2.below HB.out)
        obtain ⟨a, rfl, -, ha⟩ := HRK.out i _ hx1
        have HX := Lib.hid (And.intro hx1 (And.intro hx2 hx))
        have H91 := Lib.hid h91
        clear hx hx1 hx2 h91 h92 h93 h94
        go_wp2_with fail
        refine (HRD.out _ (HX3.out.1.below HB.out)).mono ?_
        rintro e w5 ⟨hso5, -, hb5⟩
        obtain ⟨A5, c5, B5, d5, he5, hi5, ht5⟩ := hso5 _ H91.out
        obtain ⟨kd, hkd⟩ : ∃ kd, k = i + kd := ⟨k - i, by omega⟩
        have hl5 : (L.drop i).length = kd := by rw [List.length_drop, ← HL.out]; omega
        rw [hl5] at he5 hi5 ht5
        subst he5
        have hr5 := (own_rk (k := .i64) hi5).1
        have ht5 := (own_tr ht5).1
        obtain ⟨q5, o5, rfl, -, e0, e1, e2⟩ := ht5 0 x.2 (by rw [List.getElem?_map, List.getElem?_drop, Nat.add_zero, HX.out.2.2]; rfl)
        obtain ⟨W5, hW5⟩ : ∃ W5, W5 = w5.alloc (.cells #[.slice A5 kd c5, .slice (some ⟨q5, o5, none⟩) kd d5] 82) := ⟨_, rfl⟩
        have hbw5 : Below w5.heap.size w5 W5 := by rw [hW5]; exact bl_alloc (Below.refl _ _) _
        have HB5 := Lib.hid (bl_then (bl_then HB.out hb5) hbw5)
        obtain ⟨q3', o3, e3, -, f0, f1, f2⟩ := HX3.out.2.2.2.below HB5.out i x.2 HX.out.2.1
        have hq5 : W5.heap[w5.heap.size]? = some (.cells #[.slice A5 kd c5, .slice (some ⟨q5, o5, none⟩) kd d5] 82 (0, 0)) := by rw [hW5]; exact alloc_new _ _
        have hq3 := blk_bl HQ3.out HB5.out
        subst e3
        obtain ⟨x0, x1, x2, x3⟩ := x
        have HS : Hid (∀ W', Bl W5 W' → W'.cell? ⟨w5.heap.size, 0, none⟩ = some (.slice A5 kd c5) ∧ W'.cell? ⟨w5.heap.size, 1, none⟩ = some (.slice (some ⟨q5, o5, none⟩) kd d5) ∧ W'.cell? ⟨q3, 0, none⟩ = some (.slice (some a) k cA) ∧ W'.cell? ⟨q3, 1, none⟩ = some (.slice (some ⟨q3', o3, none⟩) k cB) ∧
            W'.cell? ⟨q5, o5, none⟩ = some (.int .i64 x1) ∧ W'.cell? ⟨q5, o5 + 1, none⟩ = some (.int .i64 x2) ∧ W'.cell? ⟨q5, o5 + 2, none⟩ = some (.int .i64 x3) ∧ W'.cell? ⟨q3', o3 + i * 3, none⟩ = some (.int .i64 x1) ∧ W'.cell? ⟨q3', o3 + i * 3 + 1, none⟩ = some (.int .i64 x2) ∧ W'.cell? ⟨q3', o3 + i * 3 + 2, none⟩ = some (.int .i64 x3) ∧ Bl W5 W') := fun W' hb => by
          have g1 := blk_bl hq5 hb.below
          have g2 := blk_bl hq3 hb.below
          obtain ⟨q', o', e', -, m0, m1, m2⟩ := (ht5.below hbw5).below hb.below 0 (x1, x2, x3) (by rw [List.getElem?_map, List.getElem?_drop, Nat.add_zero, HX.out.2.2]; rfl)
          obtain ⟨q'', o'', e'', -, n0, n1, n2⟩ := (HX3.out.2.2.2.below HB5.out).below hb.below i _ HX.out.2.1
          cases e'
          cases e''
          exact ⟨cell_of g1 0, cell_of g1 1, cell_of g2 0, cell_of g2 1, by simpa using m0, by simpa using m1, by simpa using m2, n0, n1, n2, hb⟩
        have HSM : Hid (∀ {W' : World}, Bl W5 W' → Calls Tryz.prog 35 #[.slice A5 kd c5, .slice (some (a.add i)) kd (cA - i)] W' fun e w' => e = .returned (.bool true) ∧ Bl W5 w') := fun {W'} hb => by
          have h9 := rsame_ ((hr5.below hbw5).below hb.below) (by have := ((HX3.out.2.2.1.below HB5.out).below hb.below).drop i; rw [← List.map_drop] at this; exact this) c5 (cA - i) (by rw [List.length_map, hl5]; omega) (by rw [List.length_map, hl5]; omega)
          rw [List.length_map, hl5, decide_eq_true rfl] at h9
          refine h9.mono ?_
          rintro e w' ⟨rfl, q, rfl⟩
          exact ⟨rfl, ⟨bl_drewN hb.below q⟩⟩
        have i1 : (0 : Int) ≤ i := by omega
        have i2 : (i : Int) < k := by omega
        have i3 : (i : Int) < cA := by omega
        have i4 : ¬ (cA = i) := by omega
        have i5 : ((kd : Int) != (kd : Int)) = false := by simp
        have i6 : (0 : Int) < kd := by omega
        have i7 : (i : Int) ≤ k := by omega
        have i8 : (k : Int) ≤ cA := by omega
        have i9 : (i : Int) ≤ cA := by omega
        have i10 : k - i = kd := by omega
        have i11 : IntKind.i64.wrap ((k : Int) - (i : Int)) = (kd : Int) := by rw [Jd.wi64 _ (by omega) (by omega)]; omega
        have i12 : 0 < kd := by omega
        clear e0 e1 e2 f0 f1 f2 hr5 ht5 hb5 hbw5 hi5 hso5 hq5 hq3 hkd hl5 i5
        go_wp2_with fail
        rw [← hW5]
        clear hW5
        generalize w5.heap.size = q6 at *
        go_region_held3 (fun W' => W'.cell? ⟨q6, 0, none⟩ = some (.slice A5 kd c5) ∧ W'.cell? ⟨q6, 1, none⟩ = some (.slice (some ⟨q5, o5, none⟩) kd d5) ∧ W'.cell? ⟨q3, 0, none⟩ = some (.slice (some a) k cA) ∧ W'.cell? ⟨q3, 1, none⟩ = some (.slice (some ⟨q3', o3, none⟩) k cB) ∧
            W'.cell? ⟨q5, o5, none⟩ = some (.int .i64 x1) ∧ W'.cell? ⟨q5, o5 + 1, none⟩ = some (.int .i64 x2) ∧ W'.cell? ⟨q5, o5 + 2, none⟩ = some (.int .i64 x3) ∧ W'.cell? ⟨q3', o3 + i * 3, none⟩ = some (.int .i64 x1) ∧ W'.cell? ⟨q3', o3 + i * 3 + 1, none⟩ = some (.int .i64 x2) ∧ W'.cell? ⟨q3', o3 + i * 3 + 2, none⟩ = some (.int .i64 x3) ∧ Bl W5 W')
          (first | exact HS.out _ ⟨bl_drew (Below.refl _ _)⟩ | exact HS.out _ HB7.out)
          (first | (go_at_call 35; refine (HSM.out ⟨bl_drew (Below.refl _ _)⟩).mono ?_; rintro e w7 ⟨rfl, hb7⟩; (have HB7 := Lib.hid hb7); clear hb7))
        go_wp2_with fail
        go_roundw
        case rel => exact ⟨i + 1, by omega, by go_num, bl_then HB5.out HB7.out.below⟩
        case measure => simp [intOf]; omega
      · obtain rfl : i = k := by omega
        obtain ⟨j, rfl⟩ : ∃ j, i = j + 1 := ⟨i - 1, by omega⟩
        obtain ⟨x, hx⟩ := some_at (l := L) (i := j) (by rw [← HL.out]; omega)
        have hx2 : (L.map Prod.snd)[j]? = some x.2 := by rw [List.getElem?_map, hx]; rfl
        obtain ⟨h91, h92, h93, h94⟩ := HAT.out _ _ _ HC.out j x hx
        have hlast := h94 (by rw [← HL.out])
        obtain ⟨q3', o3, rfl, -, f0, f1, f2⟩ := HX3.out.2.2.2.below HB.out j _ hx2
        rw [hlast] at f2
        have hq3 := blk_bl HQ3.out HB.out
        have l0 := cell_of hq3 0
        have l1 := cell_of hq3 1
        clear hx hx2 h91 h92 h93 h94 hlast f0 f1 hq3
        have e9 : wrap64 (((j + 1 : Nat) : Int) - 1) = (j : Int) := by unfold wrap64; omega
        go_wp2_with fail
        go_ret
        exact ⟨rfl, bl_then HX3.out.2.1 HB.out⟩

end Go.Proofs.YtgnagbbdnlmgeaaGreat.Ht
end

/- Arguments opened: the laws' raw images, numbers, slots. -/
section
namespace Go.Proofs.YtgnagbbdnlmgeaaGreat.Ao
open Go Go.RowKit Go.ChangeShapes Go.WideShapes Go.ChangeAt Go.Joins Go.Deep
open Go.Proofs.YtgnagbbdnlmgeaaGreat.Ba
set_option linter.unusedVariables false
set_option maxHeartbeats 2000000
set_option maxRecDepth 100000

theorem own : ownKnob Tryz.prog.godebug = none := by kernel_rfl
theorem laidOut : laidOutB Tryz.prog = true := by kernel_rfl

theorem cell_plain {w : World} {a : Addr} {v : Value} (h : w.cell? a = some v) : a = ⟨a.block, a.off, none⟩ ∧ a.block < w.heap.size := by
  obtain ⟨b, o, s⟩ := a
  simp only [World.cell?] at h
  split at h
  · rename_i c e f hb
    refine ⟨?_, (Array.getElem?_eq_some_iff.1 hb).1⟩
    cases s with
    | none => rfl
    | some _ => simp at h
  · cases h

theorem int_wf {k : IntKind} {n : Int} (h : (Lit.int k n).wf = true) : k.min ≤ n ∧ n ≤ k.max := by
  simpa [Lit.wf] using h


theorem words_open {H : Type} {enc : TypeId × Value → H} {w : World} {fuel : Nat} {cs : List Value} {x : DataW H × List MemPlace} (h : DataW.trod enc Tryz.prog w 0 (fun _ => true) true fuel 22 cs = some x) :
    ∃ (A : Option Addr) (l : List Int) (c : Nat), cs = [.slice A l.length c] ∧ Rk .u64 w A l ∧ l.length ≤ 9223372036854775807 := by
  rcases open_ints Tryz.underlying22 Tryz.underlying94 (by kernel_rfl) h with ⟨hcs, _⟩ | ⟨a, l, c, zs, hcs, _, hl, hm, hz, _, hcell, hwz⟩
  · exact ⟨none, [], 0, hcs, Rk.nil _ _ _, by decide⟩
  · simp only [if_true] at hz
    have hlen : (zs.take l).length = l := by rw [List.length_take]; omega
    refine ⟨some a, zs.take l, c, by rw [hlen]; exact hcs, ?_, by rw [hlen]; unfold maxLen at hm; omega⟩
    intro i z hx
    obtain ⟨hi, hz2⟩ := List.getElem?_eq_some_iff.1 hx
    rw [List.getElem_take] at hz2
    simp only [List.length_take] at hi
    have hi2 : i < zs.length := by omega
    have hci := hcell i hi2
    obtain ⟨p1, p2⟩ := cell_plain hci
    refine ⟨a, rfl, by rw [add_block] at p2; exact p2, ?_⟩
    rw [hci, List.getD_eq_getElem?_getD, List.getElem?_eq_getElem hi2, hz2]
    rfl

theorem bytes_open {H : Type} {enc : TypeId × Value → H} {w : World} {fuel : Nat} {cs : List Value} {x : DataW H × List MemPlace} (h : DataW.trod enc Tryz.prog w 0 (fun _ => true) true fuel 59 cs = some x) :
    ∃ (A : Option Addr) (l : List Nat) (c : Nat), cs = [.slice A l.length c] ∧ Rk .u8 w A (l.map fun (x : Nat) => (x : Int)) ∧ (∀ x ∈ l, x < 256) ∧ l.length ≤ 9223372036854775807 := by
  rcases open_ints Tryz.underlying59 Tryz.underlying5 (by kernel_rfl) h with ⟨hcs, _⟩ | ⟨a, l, c, zs, hcs, _, hl, hm, hz, _, hcell, hwz⟩
  · exact ⟨none, [], 0, hcs, Rk.nil _ _ _, by simp, by decide⟩
  · simp only [if_true] at hz
    have hlen : (zs.take l).length = l := by rw [List.length_take]; omega
    have hwf : ∀ z ∈ zs, 0 ≤ z ∧ z ≤ 255 := fun z hz => by
      have h := int_wf (hwz z hz)
      simp [IntKind.min, IntKind.max, IntKind.bits, IntKind.signed] at h
      exact h
    refine ⟨some a, (zs.take l).map Int.toNat, c, by rw [List.length_map, hlen]; exact hcs, ?_, ?_, by rw [List.length_map, hlen]; unfold maxLen at hm; omega⟩
    · intro i z hx
      simp only [List.getElem?_map, Option.map_eq_some_iff, List.map_map, Function.comp] at hx
      obtain ⟨y, hy, rfl⟩ := hx
      obtain ⟨hi, hz2⟩ := List.getElem?_eq_some_iff.1 hy
      rw [List.getElem_take] at hz2
      simp only [List.length_take] at hi
      have hi2 : i < zs.length := by omega
      have hci := hcell i hi2
      obtain ⟨p1, p2⟩ := cell_plain hci
      refine ⟨a, rfl, by rw [add_block] at p2; exact p2, ?_⟩
      rw [hci, List.getD_eq_getElem?_getD, List.getElem?_eq_getElem hi2, hz2]
      have := hwf y (by rw [← hz2]; exact List.getElem_mem _)
      simp only [Option.getD_some]
      rw [Int.toNat_of_nonneg this.1]
    · intro x hx
      simp only [List.mem_map] at hx
      obtain ⟨z, hz, rfl⟩ := hx
      have := hwf z (List.mem_of_mem_take hz)
      omega

theorem u8_open {H : Type} {enc : TypeId × Value → H} {w : World} {fuel : Nat} {v : Value} {x : DataW H × List MemPlace} (h : DataW.trod enc Tryz.prog w 0 (fun _ => true) true fuel 5 [v] = some x) : ∃ n : Nat, v = .int .u8 n ∧ n < 256 := by
  obtain ⟨k, e0, _, w0⟩ := DataW.trod_int Tryz.underlying5 h
  simp only [List.cons.injEq, and_true] at e0
  have b0 := int_wf w0
  simp [IntKind.min, IntKind.max, IntKind.bits, IntKind.signed] at b0
  exact ⟨k.toNat, by rw [e0, Int.toNat_of_nonneg b0.1], by omega⟩
theorem int_open {H : Type} {enc : TypeId × Value → H} {w : World} {fuel : Nat} {v : Value} {x : DataW H × List MemPlace} (h : DataW.trod enc Tryz.prog w 0 (fun _ => true) true fuel 3 [v] = some x) : ∃ n : Int, v = .int .i64 n ∧ -9223372036854775808 ≤ n ∧ n ≤ 9223372036854775807 := by
  obtain ⟨k, e0, _, w0⟩ := DataW.trod_int Tryz.underlying3 h
  simp only [List.cons.injEq, and_true] at e0
  have b0 := int_wf w0
  simp [IntKind.min, IntKind.max, IntKind.bits, IntKind.signed] at b0
  exact ⟨k, e0, b0.1, b0.2⟩

theorem raw_open {H : Type} {enc : TypeId × Value → H} {w : World} {b0 : Nat} {v : Value} {d : DataW H} {p : List MemPlace} (hv : Value.okWide Tryz.prog w .any b0 24 v) (h : DataW.Trod enc Tryz.prog w 0 (fun _ => true) true 24 v d p) :
    ∃ (r0 r1 r2 : Nat) (A : Option Addr) (l : List Int) (c : Nat), v = .agg #[.int .u8 r0, .int .u8 r1, .int .u8 r2, .slice A l.length c] ∧ r0 < 256 ∧ r1 < 256 ∧ r2 < 256 ∧ Rk .u64 w A l ∧ l.length ≤ 9223372036854775807 := by
  obtain ⟨v0, v1, v2, v3, y0, y1, y2, y3, n, rfl, -, -, t0, t1, t2, t3⟩ := open_agg4 Tryz.underlying24 (by kernel_rfl) (by kernel_rfl) hv h
  obtain ⟨r0, rfl, h0⟩ := u8_open t0
  obtain ⟨r1, rfl, h1⟩ := u8_open t1
  obtain ⟨r2, rfl, h2⟩ := u8_open t2
  obtain ⟨A, l, c, e3, hr, hl⟩ := words_open t3
  simp only [List.cons.injEq, and_true] at e3
  subst e3
  exact ⟨r0, r1, r2, A, l, c, rfl, h0, h1, h2, hr, hl⟩

end Go.Proofs.YtgnagbbdnlmgeaaGreat.Ao
end

/- Arguments opened: the laws' raw images, their words as numbers of their kind. -/
section
namespace Go.Proofs.YtgnagbbdnlmgeaaGreat.Ao
open Go Go.RowKit Go.ChangeShapes Go.WideShapes Go.ChangeAt Go.Joins Go.Deep
open Go.Proofs.YtgnagbbdnlmgeaaGreat.Ba
set_option linter.unusedVariables false
set_option maxHeartbeats 2000000
set_option maxRecDepth 100000

theorem words_openN {H : Type} {enc : TypeId × Value → H} {w : World} {fuel : Nat} {cs : List Value} {x : DataW H × List MemPlace} (h : DataW.trod enc Tryz.prog w 0 (fun _ => true) true fuel 22 cs = some x) :
    ∃ (A : Option Addr) (l : List Nat) (c : Nat), cs = [.slice A l.length c] ∧ Rk .u64 w A (l.map fun (x : Nat) => (x : Int)) ∧ (∀ x ∈ l, x < 18446744073709551616) ∧ l.length ≤ 9223372036854775807 := by
  rcases open_ints Tryz.underlying22 Tryz.underlying94 (by kernel_rfl) h with ⟨hcs, _⟩ | ⟨a, l, c, zs, hcs, _, hl, hm, hz, _, hcell, hwz⟩
  · exact ⟨none, [], 0, hcs, Rk.nil _ _ _, by simp, by decide⟩
  · simp only [if_true] at hz
    have hlen : (zs.take l).length = l := by rw [List.length_take]; omega
    have hwf : ∀ z ∈ zs, 0 ≤ z ∧ z ≤ 18446744073709551615 := fun z hz => by
      have h := int_wf (hwz z hz)
      simp [IntKind.min, IntKind.max, IntKind.bits, IntKind.signed] at h
      exact h
    refine ⟨some a, (zs.take l).map Int.toNat, c, by rw [List.length_map, hlen]; exact hcs, ?_, ?_, by rw [List.length_map, hlen]; unfold maxLen at hm; omega⟩
    · intro i z hx
      simp only [List.getElem?_map, Option.map_eq_some_iff, List.map_map, Function.comp] at hx
      obtain ⟨y, hy, rfl⟩ := hx
      obtain ⟨hi, hz2⟩ := List.getElem?_eq_some_iff.1 hy
      rw [List.getElem_take] at hz2
      simp only [List.length_take] at hi
      have hi2 : i < zs.length := by omega
      have hci := hcell i hi2
      obtain ⟨p1, p2⟩ := cell_plain hci
      refine ⟨a, rfl, by rw [add_block] at p2; exact p2, ?_⟩
      rw [hci, List.getD_eq_getElem?_getD, List.getElem?_eq_getElem hi2, hz2]
      have := hwf y (by rw [← hz2]; exact List.getElem_mem _)
      simp only [Option.getD_some]
      rw [Int.toNat_of_nonneg this.1]
    · intro x hx
      simp only [List.mem_map] at hx
      obtain ⟨z, hz, rfl⟩ := hx
      have := hwf z (List.mem_of_mem_take hz)
      omega

theorem raw_openN {H : Type} {enc : TypeId × Value → H} {w : World} {b0 : Nat} {v : Value} {d : DataW H} {p : List MemPlace} (hv : Value.okWide Tryz.prog w .any b0 24 v) (h : DataW.Trod enc Tryz.prog w 0 (fun _ => true) true 24 v d p) :
    ∃ (r0 r1 r2 : Nat) (A : Option Addr) (l : List Nat) (c : Nat), v = .agg #[.int .u8 r0, .int .u8 r1, .int .u8 r2, .slice A l.length c] ∧ r0 < 256 ∧ r1 < 256 ∧ r2 < 256 ∧ Rk .u64 w A (l.map fun (x : Nat) => (x : Int)) ∧ (∀ x ∈ l, x < 18446744073709551616) ∧ l.length ≤ 9223372036854775807 := by
  obtain ⟨v0, v1, v2, v3, y0, y1, y2, y3, n, rfl, -, -, t0, t1, t2, t3⟩ := open_agg4 Tryz.underlying24 (by kernel_rfl) (by kernel_rfl) hv h
  obtain ⟨r0, rfl, h0⟩ := u8_open t0
  obtain ⟨r1, rfl, h1⟩ := u8_open t1
  obtain ⟨r2, rfl, h2⟩ := u8_open t2
  obtain ⟨A, l, c, e3, hr, hlt, hl⟩ := words_openN t3
  simp only [List.cons.injEq, and_true] at e3
  subst e3
  exact ⟨r0, r1, r2, A, l, c, rfl, h0, h1, h2, hr, hlt, hl⟩

end Go.Proofs.YtgnagbbdnlmgeaaGreat.Ao
end
