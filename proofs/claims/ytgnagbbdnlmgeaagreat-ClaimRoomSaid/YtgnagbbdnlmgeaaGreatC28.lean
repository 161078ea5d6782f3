/- Parts of the proof, one behind the other: Ek, Em, En, Eo, Ep, Er, El. -/
import Derived.Test.YtgnagbbdnlmgeaaGreatC26
import Derived.Deep.RegionHeld3
import Derived.OwnWalk

/- claim.Used, Free, NextSlots. -/
section
set_option linter.unusedVariables false
set_option linter.unusedSimpArgs false
set_option maxHeartbeats 4000000
set_option maxRecDepth 100000
namespace Go.Proofs.YtgnagbbdnlmgeaaGreat.Cm
open Go Go.RowKit
open Go.Proofs.YtgnagbbdnlmgeaaGreat.Rr Go.Proofs.YtgnagbbdnlmgeaaGreat.Ob Go.Proofs.YtgnagbbdnlmgeaaGreat.Ba Go.Proofs.YtgnagbbdnlmgeaaGreat.Ko Go.Proofs.YtgnagbbdnlmgeaaGreat.Ge Go.Proofs.YtgnagbbdnlmgeaaGreat.Oc Go.Proofs.YtgnagbbdnlmgeaaGreat.Pk Go.Proofs.YtgnagbbdnlmgeaaGreat.Su Go.Proofs.YtgnagbbdnlmgeaaGreat.Rf Go.Proofs.YtgnagbbdnlmgeaaGreat.Dv Go.Proofs.YtgnagbbdnlmgeaaGreat.Vo Go.Proofs.YtgnagbbdnlmgeaaGreat.Ra Go.Proofs.YtgnagbbdnlmgeaaGreat.Jh Go.Proofs.YtgnagbbdnlmgeaaGreat.Tr Go.Proofs.YtgnagbbdnlmgeaaGreat.Iq Go.Proofs.YtgnagbbdnlmgeaaGreat.Bm Go.Proofs.YtgnagbbdnlmgeaaGreat.In Go.Proofs.YtgnagbbdnlmgeaaGreat.Je Go.Proofs.YtgnagbbdnlmgeaaGreat.Lo Go.Proofs.YtgnagbbdnlmgeaaGreat.Ho

/-- the numbers of the inodes that are used -/
def usedD : List Dat → Nat → List Int
  | [], _ => []
  | d :: r, i => if d.1.1 = 0 then usedD r (i + 1) else (i : Int) :: usedD r (i + 1)
theorem usedD_snoc : ∀ (l : List Dat) (d : Dat) (i : Nat), usedD (l ++ [d]) i = usedD l i ++ (if d.1.1 = 0 then [] else [((i + l.length : Nat) : Int)])
  | [], d, i => by
    show (if d.1.1 = 0 then usedD [] (i + 1) else (i : Int) :: usedD [] (i + 1)) = _
    simp [usedD]
  | x :: r, d, i => by
    have h := usedD_snoc r d (i + 1)
    show (if x.1.1 = 0 then usedD (r ++ [d]) (i + 1) else (i : Int) :: usedD (r ++ [d]) (i + 1)) = (if x.1.1 = 0 then usedD r (i + 1) else (i : Int) :: usedD r (i + 1)) ++ _
    rw [h, show i + 1 + r.length = i + (x :: r).length by simp; omega]
    split <;> rfl
theorem usedD_len : ∀ (l : List Dat) (i : Nat), (usedD l i).length ≤ l.length
  | [], i => Nat.le_refl _
  | x :: r, i => by
    have h := usedD_len r (i + 1)
    show (if x.1.1 = 0 then usedD r (i + 1) else (i : Int) :: usedD r (i + 1)).length ≤ _
    split
    · simp; omega
    · simp; omega

theorem used_ {W : World} {B q b1 b2 n : Nat} {l1 l2 : List Nat} {g1 g2 c1 c2 : Nat} {es : List Own} {LA : Option Addr} {lc : Nat} (h : Cl W B q b1 b2 n l1 l2 g1 g2 c1 c2 es LA lc) (hl : es.length ≤ 65534) :
    Calls Tryz.prog 57 #[.pointer (some ⟨q, 0, none⟩)] W fun e w' => ∃ v, e = .returned v ∧ w'.ownsRow W.heap.size 3 1 v (usedD (es.map Own.dat) 0).length (ivs .i64 (usedD (es.map Own.dat) 0)) ∧ Below W.heap.size W w' := by
  have hu := Tryz.underlying179
  have hu2 := Tryz.underlying185
  have hu3 := Tryz.underlying42
  obtain ⟨z0, hinf, hz0, hz1, hz2⟩ := info_parts info_int
  have H := Lib.hid (own_or h.row)
  have k1 := cell_of h.blk 0
  obtain ⟨m, hm⟩ : ∃ m, m = es.length := ⟨_, rfl⟩
  rw [← hm] at hl k1
  have HN := Lib.hid hm
  clear h hm
  go_enter Tryz.func57, Tryz.ntmps57
  go_wp2_with fail
  clear k1
  go_loopw [11, 3] (fun c11 c3 wr => ∃ i d : Nat, i ≤ m ∧ d ≤ i ∧ c11 = .int .i64 i ∧ Hid (d = (usedD ((es.take i).map Own.dat) 0).length ∧ wr.ownsRow W.heap.size 3 1 c3 d (ivs .i64 (usedD ((es.take i).map Own.dat) 0)) ∧ Below W.heap.size W wr)) (fun c11 _ _ => m - (intOf c11).toNat)
  case atStart => exact ⟨0, 0, Nat.zero_le _, Nat.le_refl _, rfl, by simp [usedD], own_nil0 _ _ _ _, Below.refl _ _⟩
  case round =>
    obtain ⟨i, d, hi, hd, rfl, HR⟩ := hrel
    by_cases hlt : i < m
    · obtain ⟨p, hp⟩ := some_at (l := es) (i := i) (by rw [← HN.out]; exact hlt)
      obtain ⟨g, off, rfl, -, a1, a2, a3, a4, a5⟩ := (H.out.below HR.out.2.2) i p hp
      have HS : Hid (usedD ((es.take (i + 1)).map Own.dat) 0 = usedD ((es.take i).map Own.dat) 0 ++ (if p.k = 0 then [] else [(i : Int)])) := by
        show _ = _
        rw [take_next hp, List.map_append, List.map_cons, List.map_nil, usedD_snoc, List.length_map, List.length_take, Nat.min_eq_left (by rw [← HN.out]; omega), Nat.zero_add]
        rfl
      obtain ⟨k, h, z, sa, sc, pa, pc, L⟩ := p
      simp only at a1 a2 a3 a4 a5 HS
      generalize L.length = ll at *
      clear hp
      have HBW : Hid (∀ o, Below W.heap.size W (wr.alloc o)) := fun o => bl_alloc HR.out.2.2 _
      have HOW : Hid (∀ o, (wr.alloc o).ownsRow W.heap.size 3 1 u3 d (ivs .i64 (usedD ((es.take i).map Own.dat) 0))) := fun o => own_kp HR.out.2.1 (fun k _ hk => Below.heap_alloc _ _ k hk)
      by_cases hk : k = 0
      · subst hk
        rw [if_pos rfl, List.append_nil] at HS
        go_wp2_with fail
        go_roundw
        case rel => exact ⟨i + 1, d, by omega, by omega, by go_num, by rw [HS.out]; exact HR.out.1, by rw [HS.out]; exact HOW.out _, HBW.out _⟩
        case measure => simp [intOf]; omega
      · have hk0 : (k != 0) = true := bne_iff_ne.2 hk
        rw [if_neg hk] at HS
        have HOX : Hid (∀ o o', ((wr.alloc o).alloc o').ownsRow W.heap.size 3 1 u3 d (ivs .i64 (usedD ((es.take i).map Own.dat) 0))) := fun o o' => own_kp (HOW.out o) (fun k _ hk => Below.heap_alloc _ _ k hk)
        have HPN : Hid (∀ o, ∀ j u, [Value.int .i64 (i : Int)][j]? = some u → ((wr.alloc o).alloc (.cells #[.int .i64 (i : Int)] 3)).cell? ((⟨wr.heap.size + 1, 0, none⟩ : Addr).add j) = some u) := fun o => by
          have h9 := one_at (wr.alloc o) (.int .i64 (i : Int)) 3
          rw [World.size_alloc] at h9
          exact h9
        have HLO := Lib.hid (own_lo HR.out.2.1)
        have hsz : Hid (W.heap.size ≤ wr.heap.size + 2) := by show _ ≤ _; have := HR.out.2.2.size; omega
        clear hk
        go_wp2_with (at_builtin; refine wpList_append_own _ rfl (.tmp 20) (.tmp 22) 79 rfl W.heap.size 3 z0 (.int .i64 0) 1 8 Tryz.underlying79 hinf hz0 hz1 hz2 rfl (by decide) _ d _ rfl (HOX.out _ _) ⟨wr.heap.size + 1, 0, none⟩ 1 1 [.int .i64 (i : Int)] rfl rfl (HPN.out _) (by intro u hu; simp at hu; subst hu; rfl) (by unfold maxLen; omega) (by omega) (by have h1 := hsz.out; simp; omega) ?_; intro v' w7 hown' hgrow _; (have HO := Lib.hid hown'); (have HG := Lib.hid hgrow); clear hown' hgrow)
        go_roundw
        case rel =>
          refine ⟨i + 1, d + 1, by omega, by omega, by go_num, ?_, ?_, bl_grown (bl_alloc (HBW.out _) _) HG.out HLO.out⟩
          · rw [HS.out, List.length_append, ← HR.out.1]; rfl
          · rw [HS.out, ivs_append]; exact HO.out
        case measure => simp [intOf]; omega
    · obtain rfl : i = m := by omega
      go_wp2_with fail
      go_ret
      have h9 := HR.out
      rw [List.take_of_length_le (by rw [← HN.out]; exact Nat.le_refl _)] at h9
      rw [← h9.1]
      exact ⟨_, rfl, h9.2.1, h9.2.2⟩

end Go.Proofs.YtgnagbbdnlmgeaaGreat.Cm
end

/- claim.NextSlots. -/
section
set_option linter.unusedVariables false
set_option linter.unusedSimpArgs false
set_option maxHeartbeats 4000000
set_option maxRecDepth 100000
namespace Go.Proofs.YtgnagbbdnlmgeaaGreat.Cm
open Go Go.RowKit
open Go.Proofs.YtgnagbbdnlmgeaaGreat.Rr Go.Proofs.YtgnagbbdnlmgeaaGreat.Ob Go.Proofs.YtgnagbbdnlmgeaaGreat.Ba Go.Proofs.YtgnagbbdnlmgeaaGreat.Ko Go.Proofs.YtgnagbbdnlmgeaaGreat.Ge Go.Proofs.YtgnagbbdnlmgeaaGreat.Oc Go.Proofs.YtgnagbbdnlmgeaaGreat.Pk Go.Proofs.YtgnagbbdnlmgeaaGreat.Su Go.Proofs.YtgnagbbdnlmgeaaGreat.Rf Go.Proofs.YtgnagbbdnlmgeaaGreat.Dv Go.Proofs.YtgnagbbdnlmgeaaGreat.Vo Go.Proofs.YtgnagbbdnlmgeaaGreat.Ra Go.Proofs.YtgnagbbdnlmgeaaGreat.Jh Go.Proofs.YtgnagbbdnlmgeaaGreat.Tr Go.Proofs.YtgnagbbdnlmgeaaGreat.Iq Go.Proofs.YtgnagbbdnlmgeaaGreat.Bm Go.Proofs.YtgnagbbdnlmgeaaGreat.In Go.Proofs.YtgnagbbdnlmgeaaGreat.Je Go.Proofs.YtgnagbbdnlmgeaaGreat.Lo Go.Proofs.YtgnagbbdnlmgeaaGreat.Ho

/-- the free ones below st -/
def fsU (l : List Nat) (st : Nat) : List Int := ((List.range st).filter fun j => bget l j == false).map fun (j : Nat) => (j : Int)
theorem fsU_len (l : List Nat) (st : Nat) : (fsU l st).length ≤ st := by
  unfold fsU
  rw [List.length_map]
  exact Nat.le_trans (List.length_filter_le _ _) (by simp)
theorem fsU_succ (l : List Nat) (st : Nat) : fsU l (st + 1) = fsU l st ++ (if bget l st = false then [(st : Int)] else []) := by
  unfold fsU
  rw [List.range_succ, List.filter_append, List.map_append]
  by_cases h : bget l st = false
  · simp [h]
  · simp [h]
theorem fsU_skip (l : List Nat) (st : Nat) : ∀ k, (∀ j, st ≤ j → j < st + k → bget l j ≠ false) → fsU l (st + k) = fsU l st
  | 0, _ => rfl
  | k + 1, h => by
    rw [show st + (k + 1) = st + k + 1 by omega, fsU_succ, if_neg (h _ (by omega) (by omega)), List.append_nil]
    exact fsU_skip l st k (fun j h1 h2 => h j h1 (by omega))
theorem nextF_min {n : Nat} {l : List Nat} {i : Nat} {j : Nat} (h : nextF n l i false = some j) : ∀ k, i ≤ k → k < j → bget l k ≠ false := by
  intro k hk hkj he
  unfold nextF at h
  rw [List.find?_eq_some_iff_append] at h
  obtain ⟨hp, pre, bs, hl, hall⟩ := h
  have hr := congrArg (fun x => x[k]?) hl
  have hjn : j < n := by
    have : j ∈ List.range n := by rw [hl]; simp
    simpa using this
  have hlen : pre.length = j := by
    have h9 := congrArg (fun x => x[pre.length]?) hl
    rw [List.getElem?_append_right (Nat.le_refl _), Nat.sub_self] at h9
    simp only [List.getElem?_cons_zero] at h9
    have h8 := List.getElem?_eq_some_iff.1 h9
    obtain ⟨h7, h6⟩ := h8
    rw [List.getElem_range] at h6
    exact h6
  rw [List.getElem?_range (by omega), List.getElem?_append_left (by omega)] at hr
  have hm : k ∈ pre := List.mem_of_getElem? hr.symm
  have := hall k hm
  simp [he, hk] at this
theorem nextF_none {n : Nat} {l : List Nat} {i : Nat} (h : nextF n l i false = none) : ∀ k, i ≤ k → k < n → bget l k ≠ false := by
  intro k hk hkn he
  unfold nextF at h
  rw [List.find?_eq_none] at h
  have := h k (by simpa using hkn)
  simp [he, hk] at this

theorem nexts_ {W : World} {B q b1 b2 n : Nat} {l1 l2 : List Nat} {g1 g2 c1 c2 : Nat} {es : List Own} {LA : Option Addr} {lc : Nat} (h : Cl W B q b1 b2 n l1 l2 g1 g2 c1 c2 es LA lc) (hn : n ≤ 65534) (k : Int) :
    Calls Tryz.prog 59 #[.pointer (some ⟨q, 0, none⟩), .int .i64 k] W fun e w' => ∃ v, e = .returned v ∧ w'.ownsRow W.heap.size 3 1 v ((fsU l2 n).take k.toNat).length (ivs .i64 ((fsU l2 n).take k.toNat)) ∧ Below W.heap.size W w' := by
  have hu := Tryz.underlying179
  obtain ⟨z0, hinf, hz0, hz1, hz2⟩ := info_parts info_int
  have HNX : Hid (∀ {W' : World} (i : Nat), Below W.heap.size W W' → _) := fun {W'} i hb => nexti (h.bm2.keep hb) i false
  have HQ := Lib.hid h.blk
  obtain ⟨F, hF⟩ : ∃ F, F = (fsU l2 n).take k.toNat := ⟨_, rfl⟩
  rw [← hF]
  have HF := Lib.hid hF
  clear h hF
  have k2 := cell_of HQ.out 2
  go_enter Tryz.func59, Tryz.ntmps59
  go_wp2_with fail
  refine (show Calls _ _ #[_, .int .i64 0, _] _ _ from HNX.out 0 (Below.refl _ _)).mono ?_
  rintro e w1 ⟨rfl, hw1⟩
  have HB1 : Hid (Below W.heap.size W w1) := by show Below _ _ _; rw [hw1]; exact Below.refl _ _
  clear k2 hw1
  go_wp2_with fail
  go_loopw [6, 5] (fun c6 c5 wr => ∃ (st d : Nat), st ≤ n ∧ d ≤ st ∧ (d = 0 ∨ (d : Int) ≤ k) ∧ c6 = .int .i64 (ix (nextF n l2 st false)) ∧ Hid (d = (fsU l2 st).length ∧ wr.ownsRow W.heap.size 3 1 c5 d (ivs .i64 (fsU l2 st)) ∧ Below W.heap.size W wr)) (fun c6 _ _ => ms n c6)
  case atStart => exact ⟨0, 0, Nat.zero_le _, Nat.le_refl _, .inl rfl, rfl, rfl, own_nil0 _ _ _ _, HB1.out⟩
  case round =>
    obtain ⟨st, d, hst, hd, hdk, rfl, HR⟩ := hrel
    obtain ⟨A5, c5', hv5⟩ := own_slice HR.out.2.1
    subst hv5
    have hq := blk_bl HQ.out HR.out.2.2
    have k2 := cell_of hq 2
    clear hq
    cases hx : nextF n l2 st false with
    | none =>
      have HE : Hid (F = fsU l2 st) := by
        show _ = _
        rw [HF.out]
        have h9 := fsU_skip l2 st (n - st) (fun j h1 h2 => nextF_none hx j h1 (by omega))
        rw [show st + (n - st) = n by omega] at h9
        rw [h9]
        have := HR.out.1
        rw [List.take_of_length_le (by omega)]
      rw [show ix none = -1 from rfl]
      clear hx
      have hneg : ¬ (0 : Int) ≤ -1 := by decide
      go_wp2_with fail
      go_ret
      refine ⟨_, rfl, ?_, HR.out.2.2⟩
      rw [HE.out, ← HR.out.1]
      exact HR.out.2.1
    | some j =>
      have hj := nextF_some hx
      have HJ : Hid (fsU l2 (j + 1) = fsU l2 st ++ [(j : Int)]) := by
        show _ = _
        have h9 := fsU_skip l2 st (j - st) (fun a h1 h2 => nextF_min hx a h1 (by omega))
        rw [show st + (j - st) = j by omega] at h9
        rw [fsU_succ, if_pos hj.2.2, h9]
      rw [show ix (some j) = (j : Int) from rfl]
      by_cases hdk2 : (d : Int) < k
      · have HPN : Hid (∀ j' u, [Value.int .i64 (j : Int)][j']? = some u → (wr.alloc (.cells #[.int .i64 (j : Int)] 3)).cell? ((⟨wr.heap.size, 0, none⟩ : Addr).add j') = some u) := one_at wr (.int .i64 (j : Int)) 3
        have HOX : Hid (∀ o, (wr.alloc o).ownsRow W.heap.size 3 1 (.slice A5 d c5') d (ivs .i64 (fsU l2 st))) := fun o => own_kp HR.out.2.1 (fun k _ hk => Below.heap_alloc _ _ k hk)
        have HLO := Lib.hid (own_lo HR.out.2.1)
        have hsz : Hid (W.heap.size ≤ wr.heap.size + 1) := by show _ ≤ _; have := HR.out.2.2.size; omega
        have hjn : j < n := hj.2.1
        have hsj : st ≤ j := hj.1
        have hj0 : (0 : Int) ≤ (j : Int) := by omega
        clear hx hj k2
        go_wp2_with (at_builtin; refine wpList_append_own _ rfl (.tmp 27) (.tmp 29) 79 rfl W.heap.size 3 z0 (.int .i64 0) 1 8 Tryz.underlying79 hinf hz0 hz1 hz2 rfl (by decide) _ d _ rfl (HOX.out _) ⟨wr.heap.size, 0, none⟩ 1 1 [.int .i64 (j : Int)] rfl rfl HPN.out (by intro u hu; simp at hu; subst hu; rfl) (by unfold maxLen; omega) (by omega) (by have h1 := hsz.out; simp; omega) ?_; intro v' w7 hown' hgrow _; (have HO := Lib.hid hown'); (have HB7 : Hid (Below W.heap.size W w7) := bl_grown (bl_alloc HR.out.2.2 _) hgrow HLO.out); (have k2 := cell_of (blk_bl HQ.out HB7.out) 2); clear hown' hgrow)
        refine (show Calls _ _ #[_, .int .i64 ((j : Int) + 1), _] _ _ from HNX.out (j + 1) HB7.out).mono ?_
        rintro e w8 ⟨rfl, hw8⟩
        have HB8 : Hid (Below W.heap.size W w8 ∧ w8 = w7) := ⟨by rw [hw8]; exact HB7.out, hw8⟩
        clear hw8 k2
        go_wp2_with fail
        go_roundw
        case rel =>
          refine ⟨j + 1, d + 1, hjn, by omega, .inr (by omega), rfl, ?_, ?_, HB8.out.1⟩
          · rw [HJ.out, List.length_append, ← HR.out.1]; rfl
          · rw [HJ.out, ivs_append, HB8.out.2]; exact HO.out
        case measure =>
          show ms n (.int .i64 (ix (nextF n l2 (j + 1) false))) < ms n (.int .i64 (j : Int))
          rw [ms_nat]
          cases hy : nextF n l2 (j + 1) false with
          | none => rw [ms_neg]; omega
          | some a =>
            have := nextF_some hy
            show ms n (.int .i64 (a : Int)) < _
            rw [ms_nat]
            omega
      · have HE : Hid (F = fsU l2 st) := by
          show _ = _
          rw [HF.out]
          have hpre : ∀ a, st ≤ a → (fsU l2 a).take (fsU l2 st).length = fsU l2 st := fun a ha => by
            obtain ⟨c, rfl⟩ : ∃ c, a = st + c := ⟨a - st, by omega⟩
            induction c with
            | zero => rw [Nat.add_zero, List.take_length]
            | succ c ih =>
              have h8 := ih (by omega)
              have hle : (fsU l2 st).length ≤ (fsU l2 (st + c)).length := by have := congrArg List.length h8; rw [List.length_take] at this; omega
              rw [show st + (c + 1) = st + c + 1 by omega, fsU_succ, List.take_append_of_le_length hle, h8]
          have h9 := hpre n hst
          have := HR.out.1
          rw [show k.toNat = (fsU l2 st).length by omega]
          exact h9
        have hj0 : (0 : Int) ≤ (j : Int) := by omega
        clear hx hj
        go_wp2_with fail
        go_ret
        refine ⟨_, rfl, ?_, HR.out.2.2⟩
        rw [HE.out, ← HR.out.1]
        exact HR.out.2.1

end Go.Proofs.YtgnagbbdnlmgeaaGreat.Cm
end

/- slices.Clone of numbers and of slots; claim.of, Inode, Chain. -/
section
set_option linter.unusedVariables false
set_option linter.unusedSimpArgs false
set_option maxHeartbeats 4000000
set_option maxRecDepth 100000
namespace Go.Proofs.YtgnagbbdnlmgeaaGreat.Cm
open Go Go.RowKit
open Go.Proofs.YtgnagbbdnlmgeaaGreat.Rr Go.Proofs.YtgnagbbdnlmgeaaGreat.Ob Go.Proofs.YtgnagbbdnlmgeaaGreat.Ba Go.Proofs.YtgnagbbdnlmgeaaGreat.Ko Go.Proofs.YtgnagbbdnlmgeaaGreat.Ge Go.Proofs.YtgnagbbdnlmgeaaGreat.Oc Go.Proofs.YtgnagbbdnlmgeaaGreat.Pk Go.Proofs.YtgnagbbdnlmgeaaGreat.Su Go.Proofs.YtgnagbbdnlmgeaaGreat.Rf Go.Proofs.YtgnagbbdnlmgeaaGreat.Dv Go.Proofs.YtgnagbbdnlmgeaaGreat.Vo Go.Proofs.YtgnagbbdnlmgeaaGreat.Ra Go.Proofs.YtgnagbbdnlmgeaaGreat.Jh Go.Proofs.YtgnagbbdnlmgeaaGreat.Tr Go.Proofs.YtgnagbbdnlmgeaaGreat.Iq Go.Proofs.YtgnagbbdnlmgeaaGreat.Bm Go.Proofs.YtgnagbbdnlmgeaaGreat.In Go.Proofs.YtgnagbbdnlmgeaaGreat.Je Go.Proofs.YtgnagbbdnlmgeaaGreat.Lo Go.Proofs.YtgnagbbdnlmgeaaGreat.Ho

theorem own_cells {w : World} {B T s n c : Nat} {a : Addr} {xs : List Value} (h : w.ownsRow B T s (.slice (some a) n c) n xs) : a.block < w.heap.size ∧ ∀ (j : Nat) u, xs[j]? = some u → w.cell? (a.add j) = some u := by
  obtain ⟨h1, ⟨h2, h3⟩ | ⟨g, cap, cur, hv, hg, hb, hn, hm, hs, ht⟩⟩ := h
  · simp at h2
  · simp only [Value.slice.injEq, Option.some.injEq] at hv
    obtain ⟨rfl, -, -⟩ := hv
    refine ⟨lt_of hb, fun j u hj => ?_⟩
    rw [Addr.add_lit, cell_of hb, Nat.zero_add]
    rw [← ht, List.getElem?_take] at hj
    split at hj
    · simpa using hj
    · cases hj
theorem own_none {w : World} {B T s n c : Nat} {xs : List Value} (h : w.ownsRow B T s (.slice none n c) n xs) : n = 0 ∧ c = 0 := by
  obtain ⟨h1, ⟨h2, h3⟩ | ⟨g, cap, cur, hv, r⟩⟩ := h
  · simp at h2
    exact h2
  · simp at hv
theorem owns_nilS (w : World) (B s : Nat) (T : TypeId) (g : Nat) (hg : B ≤ g) (hb : w.heap[g]? = some (.cells #[] T (0, 0))) : w.ownsRow B T s (.slice (some ⟨g, 0, none⟩) 0 0) 0 [] := by
  exact ⟨by simp, .inr ⟨g, 0, #[], rfl, hg, hb, Nat.le_refl _, by unfold maxLen; omega, by simp, by simp⟩⟩

theorem clone_int {w : World} {B n c : Nat} {A : Option Addr} {xs : List Int} (h : w.ownsRow B 3 1 (.slice A n c) n (ivs .i64 xs)) (hn : n ≤ 65534) :
    Calls Tryz.prog 114 #[.slice A n c] w fun e w' => ∃ v, e = .returned v ∧ w'.ownsRow w.heap.size 3 1 v n (ivs .i64 xs) ∧ Below w.heap.size w w' := by
  obtain ⟨i0, hinf, hz0, hz1, hz2⟩ := info_parts info_int
  cases A with
  | none =>
    obtain ⟨rfl, rfl⟩ := own_none h
    have hx : ivs .i64 xs = [] := by have := h.1; simpa using this
    rw [hx]
    have he : ∀ w : World, (binOp .eql 79 (.slice none 0 0) (.slice none 0 0)).run Tryz.prog w = .ok (.bool true) w := fun _ => rfl
    clear h
    go_enter Tryz.func114, Tryz.ntmps114
    go_wp2_with fail
    go_ret
    exact ⟨_, rfl, own_nil0 _ _ _ _, Below.refl _ _⟩
  | some a =>
    obtain ⟨h1, h2⟩ := own_cells h
    have HL : Hid ((ivs .i64 xs).length = n) := by have := h.1; show _ = _; omega
    have HC : Hid (∀ (j : Nat) u, (ivs .i64 xs)[j]? = some u → (w.alloc (.cells #[] 3)).cell? (a.add j) = some u) := fun j u hj => by
      rw [World.cell?_of_block (w := w) (a := a.add j) (Below.heap_alloc _ _ _ (by rw [add_block]; exact h1))]
      exact h2 j u hj
    have HO : Hid ((w.alloc (.cells #[] 3)).ownsRow w.heap.size 3 1 (.slice (some ⟨w.heap.size, 0, none⟩) 0 0) 0 []) := owns_nilS _ _ _ _ _ (Nat.le_refl _) (alloc_new _ _)
    have he : ∀ w : World, (binOp .eql 79 (.slice (some a) n c) (.slice none 0 0)).run Tryz.prog w = .ok (.bool false) w := fun _ => rfl
    have HN : Hid (∀ u ∈ ivs .i64 xs, u.oneCell' = true) := ivs_oneCell _ _
    generalize ivs .i64 xs = ys at *
    clear h h1 h2
    go_enter Tryz.func114, Tryz.ntmps114
    go_wp2_with (at_builtin; refine wpList_append_own _ rfl (.tmp 5) (.tmp 6) 79 rfl w.heap.size 3 i0 (.int .i64 0) 1 8 Tryz.underlying79 hinf hz0 hz1 hz2 rfl (by decide) _ 0 [] rfl HO.out a n c ys rfl (by rw [HL.out]; omega) HC.out HN.out (by unfold maxLen; omega) (by omega) (by simp) ?_; intro v' w2 hown hg _; (have HV := Lib.hid hown); (have HG := Lib.hid hg); clear hown hg)
    go_ret
    have hv := HV.out
    rw [Nat.zero_add, List.nil_append] at hv
    exact ⟨_, rfl, hv, ((Below.refl _ _).alloc (Nat.le_refl _) _).grown HG.out (by simp) (fun k hk => own_lo HO.out k hk)⟩

theorem tvs_one (l : List Tri) : ∀ u ∈ tvs l, u.oneCell' = true := by
  intro u hu
  simp only [tvs, List.mem_flatMap] at hu
  obtain ⟨p, -, hp⟩ := hu
  simp at hp
  rcases hp with rfl | rfl | rfl <;> rfl
theorem clone_slot {w : World} {B n c : Nat} {A : Option Addr} {xs : List Tri} (h : w.ownsRow B 51 3 (.slice A n c) n (tvs xs)) (hn : n ≤ 65534) :
    Calls Tryz.prog 115 #[.slice A n c] w fun e w' => ∃ v, e = .returned v ∧ w'.ownsRow w.heap.size 51 3 v n (tvs xs) ∧ Below w.heap.size w w' := by
  obtain ⟨i0, hinf, hz0, hz1, hz2⟩ := info_parts (show (Tryz.prog.info? 51).map (fun i => (i.zero, i.size, i.bytes)) = some (some (.agg #[.int .i64 0, .int .i64 0, .int .i64 0]), 3, 24) by kernel_rfl)
  cases A with
  | none =>
    obtain ⟨rfl, rfl⟩ := own_none h
    have hx : tvs xs = [] := by have := h.1; simpa using this
    rw [hx]
    have he : ∀ w : World, (binOp .eql 80 (.slice none 0 0) (.slice none 0 0)).run Tryz.prog w = .ok (.bool true) w := fun _ => rfl
    clear h
    go_enter Tryz.func115, Tryz.ntmps115
    go_wp2_with fail
    go_ret
    exact ⟨_, rfl, own_nil0 _ _ _ _, Below.refl _ _⟩
  | some a =>
    obtain ⟨h1, h2⟩ := own_cells h
    have HL : Hid ((tvs xs).length = n * 3) := h.1
    have HC : Hid (∀ (j : Nat) u, (tvs xs)[j]? = some u → (w.alloc (.cells #[] 51)).cell? (a.add j) = some u) := fun j u hj => by
      rw [World.cell?_of_block (w := w) (a := a.add j) (Below.heap_alloc _ _ _ (by rw [add_block]; exact h1))]
      exact h2 j u hj
    have HO : Hid ((w.alloc (.cells #[] 51)).ownsRow w.heap.size 51 3 (.slice (some ⟨w.heap.size, 0, none⟩) 0 0) 0 []) := owns_nilS _ _ _ _ _ (Nat.le_refl _) (alloc_new _ _)
    have he : ∀ w : World, (binOp .eql 80 (.slice (some a) n c) (.slice none 0 0)).run Tryz.prog w = .ok (.bool false) w := fun _ => rfl
    have HN : Hid (∀ u ∈ tvs xs, u.oneCell' = true) := tvs_one _
    generalize tvs xs = ys at *
    clear h h1 h2
    go_enter Tryz.func115, Tryz.ntmps115
    go_wp2_with (at_builtin; refine wpList_append_own _ rfl (.tmp 5) (.tmp 6) 80 rfl w.heap.size 51 i0 (.agg #[.int .i64 0, .int .i64 0, .int .i64 0]) 3 24 Tryz.underlying80 hinf hz0 hz1 hz2 rfl (by decide) _ 0 [] rfl HO.out a n c ys rfl HL.out HC.out HN.out (by unfold maxLen; omega) (by omega) (by simp) ?_; intro v' w2 hown hg _; (have HV := Lib.hid hown); (have HG := Lib.hid hg); clear hown hg)
    go_ret
    have hv := HV.out
    rw [Nat.zero_add, List.nil_append] at hv
    exact ⟨_, rfl, hv, ((Below.refl _ _).alloc (Nat.le_refl _) _).grown HG.out (by simp) (fun k hk => own_lo HO.out k hk)⟩

end Go.Proofs.YtgnagbbdnlmgeaaGreat.Cm
end

/- claim.of, Inode, Chain. -/
section
set_option linter.unusedVariables false
set_option linter.unusedSimpArgs false
set_option maxHeartbeats 4000000
set_option maxRecDepth 100000
namespace Go.Proofs.YtgnagbbdnlmgeaaGreat.Cm
open Go Go.RowKit
open Go.Proofs.YtgnagbbdnlmgeaaGreat.Rr Go.Proofs.YtgnagbbdnlmgeaaGreat.Ob Go.Proofs.YtgnagbbdnlmgeaaGreat.Ba Go.Proofs.YtgnagbbdnlmgeaaGreat.Ko Go.Proofs.YtgnagbbdnlmgeaaGreat.Ge Go.Proofs.YtgnagbbdnlmgeaaGreat.Oc Go.Proofs.YtgnagbbdnlmgeaaGreat.Pk Go.Proofs.YtgnagbbdnlmgeaaGreat.Su Go.Proofs.YtgnagbbdnlmgeaaGreat.Rf Go.Proofs.YtgnagbbdnlmgeaaGreat.Dv Go.Proofs.YtgnagbbdnlmgeaaGreat.Vo Go.Proofs.YtgnagbbdnlmgeaaGreat.Ra Go.Proofs.YtgnagbbdnlmgeaaGreat.Jh Go.Proofs.YtgnagbbdnlmgeaaGreat.Tr Go.Proofs.YtgnagbbdnlmgeaaGreat.Iq Go.Proofs.YtgnagbbdnlmgeaaGreat.Bm Go.Proofs.YtgnagbbdnlmgeaaGreat.In Go.Proofs.YtgnagbbdnlmgeaaGreat.Je Go.Proofs.YtgnagbbdnlmgeaaGreat.Lo Go.Proofs.YtgnagbbdnlmgeaaGreat.Ho

/-- the entry of a number; else the free one -/
def ofV (es : List Own) (i : Int) : Own := if 0 ≤ i then es.getD i.toNat ⟨0, -1, 0, none, 0, none, 0, []⟩ else ⟨0, -1, 0, none, 0, none, 0, []⟩
def Own.ag (e : Own) : Value := .agg #[.int .i64 e.k, .int .i64 e.h, .int .i64 e.z, .slice e.sa e.L.length e.sc, .slice e.pa e.L.length e.pc]

theorem put5 {w : World} {q T : Nat} {a0 a1 a2 a3 a4 : Value} (h : w.heap[q]? = some (.cells #[a0, a1, a2, a3, a4] T (0, 0))) (v0 v1 v2 v3 v4 : Value) :
    (((((w.setCell ⟨q, 0, none⟩ v0).setCell ⟨q, 1, none⟩ v1).setCell ⟨q, 2, none⟩ v2).setCell ⟨q, 3, none⟩ v3).setCell ⟨q, 4, none⟩ v4).heap[q]? = some (.cells #[v0, v1, v2, v3, v4] T (0, 0)) := by
  have h0 := set_same h 0 v0
  have h1 := set_same h0 1 v1
  have h2 := set_same h1 2 v2
  have h3 := set_same h2 3 v3
  exact set_same h3 4 v4

theorem of_ {W : World} {B q b1 b2 n : Nat} {l1 l2 : List Nat} {g1 g2 c1 c2 : Nat} {es : List Own} {LA : Option Addr} {lc : Nat} (h : Cl W B q b1 b2 n l1 l2 g1 g2 c1 c2 es LA lc) (hl : es.length ≤ 65534) (i : Int) :
    Calls Tryz.prog 113 #[.pointer (some ⟨q, 0, none⟩), .int .i64 i] W fun e w' => e = .returned (ofV es i).ag ∧ Below W.heap.size W w' := by
  have hu := Tryz.underlying179
  have hu2 := Tryz.underlying185
  have hu3 := Tryz.underlying42
  have H := Lib.hid (own_or h.row)
  have k1 := cell_of h.blk 0
  have hlt := lt_of h.blk
  by_cases h0 : i < 0
  · have hv : ofV es i = ⟨0, -1, 0, none, 0, none, 0, []⟩ := by unfold ofV; rw [if_neg (by omega)]
    rw [hv]
    clear h hv
    show Calls _ _ _ _ fun e w' => e = .returned (.agg #[.int .i64 0, .int .i64 (-1), .int .i64 0, .slice none 0 0, .slice none 0 0]) ∧ _
    go_enter Tryz.func113, Tryz.ntmps113
    go_wp2_with fail
    refine (In.none_ _).mono ?_
    rintro e w1 ⟨rfl, hb1⟩
    have hq := blk_bl (alloc_new W (.cells #[.int .i64 0, .int .i64 0, .int .i64 0, .slice none 0 0, .slice none 0 0] 185)) hb1
    have HQ := Lib.hid hq
    have HB := Lib.hid (bl_then (bl_alloc (Below.refl _ _) _) hb1)
    have r0 := cell_of hq 0
    have f0 := free_of hq 0
    have r1 := cell_of hq 1
    have f1 := free_of hq 1
    have r2 := cell_of hq 2
    have f2 := free_of hq 2
    have r3 := cell_of hq 3
    have f3 := free_of hq 3
    have r4 := cell_of hq 4
    have f4 := free_of hq 4
    clear hb1 hq
    go_wp2_with fail
    exact bodyPost_ret (res_c rfl _ _ W.heap.size 185 #[.int .i64 0, .int .i64 (-1), .int .i64 0, .slice none 0 0, .slice none 0 0] (0, 0) _ rfl (put5 HQ.out _ _ _ _ _) hu2 rfl (by kernel_rfl)) rfl ⟨rfl, bl_set (bl_set (bl_set (bl_set (bl_set HB.out (Nat.le_refl _) _) (Nat.le_refl _) _) (Nat.le_refl _) _) (Nat.le_refl _) _) (Nat.le_refl _) _⟩
  · by_cases h1 : (es.length : Int) ≤ i
    · have hv : ofV es i = ⟨0, -1, 0, none, 0, none, 0, []⟩ := by
        unfold ofV
        rw [if_pos (by omega), List.getD_eq_getElem?_getD, List.getElem?_eq_none (by omega)]
        rfl
      rw [hv]
      generalize es.length = m at *
      clear h hv
      show Calls _ _ _ _ fun e w' => e = .returned (.agg #[.int .i64 0, .int .i64 (-1), .int .i64 0, .slice none 0 0, .slice none 0 0]) ∧ _
      go_enter Tryz.func113, Tryz.ntmps113
      go_wp2_with fail
      refine (In.none_ _).mono ?_
      rintro e w1 ⟨rfl, hb1⟩
      have hq := blk_bl (alloc_new W (.cells #[.int .i64 0, .int .i64 0, .int .i64 0, .slice none 0 0, .slice none 0 0] 185)) hb1
      have HQ := Lib.hid hq
      have HB := Lib.hid (bl_then (bl_alloc (Below.refl _ _) _) hb1)
      have r0 := cell_of hq 0
      have f0 := free_of hq 0
      have r1 := cell_of hq 1
      have f1 := free_of hq 1
      have r2 := cell_of hq 2
      have f2 := free_of hq 2
      have r3 := cell_of hq 3
      have f3 := free_of hq 3
      have r4 := cell_of hq 4
      have f4 := free_of hq 4
      clear hb1 hq
      go_wp2_with fail
      exact bodyPost_ret (res_c rfl _ _ W.heap.size 185 #[.int .i64 0, .int .i64 (-1), .int .i64 0, .slice none 0 0, .slice none 0 0] (0, 0) _ rfl (put5 HQ.out _ _ _ _ _) hu2 rfl (by kernel_rfl)) rfl ⟨rfl, bl_set (bl_set (bl_set (bl_set (bl_set HB.out (Nat.le_refl _) _) (Nat.le_refl _) _) (Nat.le_refl _) _) (Nat.le_refl _) _) (Nat.le_refl _) _⟩
    · obtain ⟨k, rfl⟩ : ∃ k : Nat, i = k := ⟨i.toNat, by omega⟩
      obtain ⟨p, hp⟩ := some_at (l := es) (i := k) (by omega)
      have hv : ofV es k = p := by
        unfold ofV
        rw [if_pos (by omega), List.getD_eq_getElem?_getD, Int.toNat_natCast, hp]
        rfl
      rw [hv]
      have hkm : k < es.length := by omega
      obtain ⟨g, off, rfl, hgl, a1, a2, a3, a4, a5⟩ := H.out k p hp
      obtain ⟨x, y, z, sa, sc, pa, pc, L⟩ := p
      simp only at a1 a2 a3 a4 a5
      show Calls _ _ _ _ fun e w' => e = .returned (.agg #[.int .i64 x, .int .i64 y, .int .i64 z, .slice sa L.length sc, .slice pa L.length pc]) ∧ _
      generalize L.length = ll at *
      generalize es.length = m at *
      clear h hv hp
      go_enter Tryz.func113, Tryz.ntmps113
      go_wp2_with fail
      exact bodyPost_ret (res_c rfl _ _ W.heap.size 185 #[.int .i64 x, .int .i64 y, .int .i64 z, .slice sa ll sc, .slice pa ll pc] (0, 0) _ rfl (alloc_new W _) hu2 rfl (by kernel_rfl)) rfl ⟨rfl, bl_alloc (Below.refl _ _) _⟩

theorem field_n (x y z a b : Value) (w : World) : (Instr.field 185 (.agg #[x, y, z, a, b]) 0).run Tryz.prog w = .ok (.agg #[x, y, z]) w := rfl
theorem field_c (x y z a b : Value) (w : World) : (Instr.field 185 (.agg #[x, y, z, a, b]) 1).run Tryz.prog w = .ok (.agg #[a, b]) w := rfl

theorem cinode_ {W : World} {B q b1 b2 n : Nat} {l1 l2 : List Nat} {g1 g2 c1 c2 : Nat} {es : List Own} {LA : Option Addr} {lc : Nat} (h : Cl W B q b1 b2 n l1 l2 g1 g2 c1 c2 es LA lc) (hl : es.length ≤ 65534) (i : Int) :
    Calls Tryz.prog 66 #[.pointer (some ⟨q, 0, none⟩), .int .i64 i] W fun e w' => e = .returned (.agg #[.int .i64 (ofV es i).k, .int .i64 (ofV es i).h, .int .i64 (ofV es i).z]) ∧ Below W.heap.size W w' := by
  have hu := Tryz.underlying42
  have HO : Hid (∀ {W' : World}, Below W.heap.size W W' → Calls Tryz.prog 113 #[.pointer (some ⟨q, 0, none⟩), .int .i64 i] W' fun e w' => e = .returned (.agg #[.int .i64 (ofV es i).k, .int .i64 (ofV es i).h, .int .i64 (ofV es i).z, .slice (ofV es i).sa (ofV es i).L.length (ofV es i).sc, .slice (ofV es i).pa (ofV es i).L.length (ofV es i).pc]) ∧ Below W'.heap.size W' w') := fun {W'} hb => of_ (h.keep hb) hl i
  generalize (ofV es i).k = k at *
  generalize (ofV es i).h = hd at *
  generalize (ofV es i).z = z at *
  generalize (ofV es i).sa = sa at *
  generalize (ofV es i).sc = sc at *
  generalize (ofV es i).pa = pa at *
  generalize (ofV es i).pc = pc at *
  generalize (ofV es i).L.length = ll at *
  clear h
  have hf := field_n (.int .i64 k) (.int .i64 hd) (.int .i64 z) (.slice sa ll sc) (.slice pa ll pc)
  go_enter Tryz.func66, Tryz.ntmps66
  go_wp2_with fail
  refine (HO.out (bl_alloc (Below.refl _ _) _)).mono ?_
  rintro e w1 ⟨rfl, hb1⟩
  have hq := blk_bl (alloc_new W (.cells #[.int .i64 0, .int .i64 0, .int .i64 0] 42)) hb1
  have HQ := Lib.hid hq
  have HB := Lib.hid (bl_then (bl_alloc (Below.refl _ _) _) hb1)
  have r0 := cell_of hq 0
  have f0 := free_of hq 0
  have r1 := cell_of hq 1
  have f1 := free_of hq 1
  have r2 := cell_of hq 2
  have f2 := free_of hq 2
  clear hb1 hq
  go_wp2_with fail
  exact bodyPost_ret (res_c rfl _ _ W.heap.size 42 #[.int .i64 k, .int .i64 hd, .int .i64 z] (0, 0) _ rfl (Ba.put3 HQ.out _ _ _) hu rfl (by kernel_rfl)) rfl ⟨rfl, bl_put3 HB.out (Nat.le_refl _) _ _ _⟩

end Go.Proofs.YtgnagbbdnlmgeaaGreat.Cm
end

/- claim.Chain. -/
section
set_option linter.unusedVariables false
set_option linter.unusedSimpArgs false
set_option maxHeartbeats 4000000
set_option maxRecDepth 100000
namespace Go.Proofs.YtgnagbbdnlmgeaaGreat.Cm
open Go Go.RowKit
open Go.Proofs.YtgnagbbdnlmgeaaGreat.Rr Go.Proofs.YtgnagbbdnlmgeaaGreat.Ob Go.Proofs.YtgnagbbdnlmgeaaGreat.Ba Go.Proofs.YtgnagbbdnlmgeaaGreat.Ko Go.Proofs.YtgnagbbdnlmgeaaGreat.Ge Go.Proofs.YtgnagbbdnlmgeaaGreat.Oc Go.Proofs.YtgnagbbdnlmgeaaGreat.Pk Go.Proofs.YtgnagbbdnlmgeaaGreat.Su Go.Proofs.YtgnagbbdnlmgeaaGreat.Rf Go.Proofs.YtgnagbbdnlmgeaaGreat.Dv Go.Proofs.YtgnagbbdnlmgeaaGreat.Vo Go.Proofs.YtgnagbbdnlmgeaaGreat.Ra Go.Proofs.YtgnagbbdnlmgeaaGreat.Jh Go.Proofs.YtgnagbbdnlmgeaaGreat.Tr Go.Proofs.YtgnagbbdnlmgeaaGreat.Iq Go.Proofs.YtgnagbbdnlmgeaaGreat.Bm Go.Proofs.YtgnagbbdnlmgeaaGreat.In Go.Proofs.YtgnagbbdnlmgeaaGreat.Je Go.Proofs.YtgnagbbdnlmgeaaGreat.Lo Go.Proofs.YtgnagbbdnlmgeaaGreat.Ho

theorem ofV_ch {W : World} {B q b1 b2 n : Nat} {l1 l2 : List Nat} {g1 g2 c1 c2 : Nat} {es : List Own} {LA : Option Addr} {lc : Nat} (h : Cl W B q b1 b2 n l1 l2 g1 g2 c1 c2 es LA lc) (i : Int) : Ch W B (ofV es i) := by
  have h0 : Ch W B ⟨0, -1, 0, none, 0, none, 0, []⟩ := ⟨own_nil0 _ _ _ _, own_nil0 _ _ _ _⟩
  unfold ofV
  split
  · rw [List.getD_eq_getElem?_getD]
    cases hx : es[i.toNat]? with
    | none => exact h0
    | some e => exact h.chs e (List.mem_of_getElem? hx)
  · exact h0

theorem far2 {w : World} {q k : Nat} {x y : Value} (hne : k ≠ q) (h : w.cell? ⟨q, 0, none⟩ = some x ∧ w.cell? ⟨q, 1, none⟩ = some y) (v0 v1 : Value) :
    ((w.setCell ⟨k, 0, none⟩ v0).setCell ⟨k, 1, none⟩ v1).cell? ⟨q, 0, none⟩ = some x ∧ ((w.setCell ⟨k, 0, none⟩ v0).setCell ⟨k, 1, none⟩ v1).cell? ⟨q, 1, none⟩ = some y := by
  have hb : ((w.setCell ⟨k, 0, none⟩ v0).setCell ⟨k, 1, none⟩ v1).heap[q]? = w.heap[q]? := (Below.heap_setCell _ _ _ q (fun e => hne e.symm)).trans (Below.heap_setCell w _ _ q (fun e => hne e.symm))
  exact ⟨(cell_blk hb 0).trans h.1, (cell_blk hb 1).trans h.2⟩

theorem cchain_ {W : World} {B q b1 b2 n : Nat} {l1 l2 : List Nat} {g1 g2 c1 c2 : Nat} {es : List Own} {LA : Option Addr} {lc : Nat} (h : Cl W B q b1 b2 n l1 l2 g1 g2 c1 c2 es LA lc) (hl : es.length ≤ 65534) (i : Int) (hL : (ofV es i).L.length ≤ 65534) :
    Calls Tryz.prog 58 #[.pointer (some ⟨q, 0, none⟩), .int .i64 i] W fun e w' => ∃ A c D d, e = .returned (.agg #[.slice A (ofV es i).L.length c, .slice D (ofV es i).L.length d]) ∧ w'.ownsRow W.heap.size 3 1 (.slice A (ofV es i).L.length c) (ofV es i).L.length (ivs .i64 ((ofV es i).L.map Prod.fst)) ∧
      w'.ownsRow W.heap.size 51 3 (.slice D (ofV es i).L.length d) (ofV es i).L.length (tvs ((ofV es i).L.map Prod.snd)) ∧ Below W.heap.size W w' := by
  have hu := Tryz.underlying82
  have HO : Hid (∀ {W' : World}, Below W.heap.size W W' → Calls Tryz.prog 113 #[.pointer (some ⟨q, 0, none⟩), .int .i64 i] W' fun e w' => e = .returned (.agg #[.int .i64 (ofV es i).k, .int .i64 (ofV es i).h, .int .i64 (ofV es i).z, .slice (ofV es i).sa (ofV es i).L.length (ofV es i).sc, .slice (ofV es i).pa (ofV es i).L.length (ofV es i).pc]) ∧ Below W'.heap.size W' w') := fun {W'} hb => of_ (h.keep hb) hl i
  have HCH := Lib.hid (ofV_ch h i)
  generalize ofV es i = p at *
  obtain ⟨k, hd, z, sa, sc, pa, pc, L⟩ := p
  simp only at HO hL
  have HC1 : Hid (∀ {W' : World}, Below W.heap.size W W' → _) := fun {W'} hb => clone_int (own_bl HCH.out.slots hb) hL
  have HC2 : Hid (∀ {W' : World}, Below W.heap.size W W' → _) := fun {W'} hb => clone_slot (own_bl HCH.out.parts hb) hL
  simp only at HC1 HC2
  show Calls _ _ _ _ fun e w' => ∃ A c D d, e = .returned (.agg #[.slice A L.length c, .slice D L.length d]) ∧ w'.ownsRow W.heap.size 3 1 (.slice A L.length c) L.length (ivs .i64 (L.map Prod.fst)) ∧ w'.ownsRow W.heap.size 51 3 (.slice D L.length d) L.length (tvs (L.map Prod.snd)) ∧ Below W.heap.size W w'
  generalize ivs .i64 (L.map Prod.fst) = ys at *
  generalize tvs (L.map Prod.snd) = ts at *
  clear HCH
  generalize L.length = ll at *
  clear h hL
  have hf := field_c (.int .i64 k) (.int .i64 hd) (.int .i64 z) (.slice sa ll sc) (.slice pa ll pc)
  go_enter Tryz.func58, Tryz.ntmps58
  go_wp2_with fail
  refine (HO.out (bl_alloc (Below.refl _ _) _)).mono ?_
  rintro e w1 ⟨rfl, hb1⟩
  obtain ⟨W5, hW5⟩ : ∃ W5, W5 = w1.alloc (.cells #[.slice sa ll sc, .slice pa ll pc] 82) := ⟨_, rfl⟩
  have hbw : Below w1.heap.size w1 W5 := by rw [hW5]; exact bl_alloc (Below.refl _ _) _
  have HQ4 : Hid (W5.heap[W.heap.size]? = some (.cells #[.slice none 0 0, .slice none 0 0] 82 (0, 0))) := blk_bl (blk_bl (alloc_new W (.cells #[.slice none 0 0, .slice none 0 0] 82)) hb1) hbw
  have HQ5 : Hid (W5.heap[w1.heap.size]? = some (.cells #[.slice sa ll sc, .slice pa ll pc] 82 (0, 0))) := by rw [hW5]; exact alloc_new _ _
  have HB5 : Hid (Below W.heap.size W W5) := bl_then (bl_then (bl_alloc (Below.refl _ _) _) hb1) hbw
  have HNE : Hid (W.heap.size ≠ w1.heap.size) := by have := hb1.size; rw [World.size_alloc] at this; show _ ≠ _; omega
  have HS5 : Hid (W5.drew.cell? ⟨w1.heap.size, 0, none⟩ = some (.slice sa ll sc) ∧ W5.drew.cell? ⟨w1.heap.size, 1, none⟩ = some (.slice pa ll pc)) := ⟨cell_of HQ5.out 0, cell_of HQ5.out 1⟩
  have HB0 : Hid (Below W5.heap.size W5 W5.drew) := bl_drew (Below.refl _ _)
  clear hb1 hbw
  go_wp2_with fail
  rw [← hW5]
  clear hW5 hf
  generalize w1.heap.size = q5 at *
  go_region_held3 (fun W' => W'.cell? ⟨q5, 0, none⟩ = some (.slice sa ll sc) ∧ W'.cell? ⟨q5, 1, none⟩ = some (.slice pa ll pc))
    (first | exact HS5.out | exact HS6.out | exact HS7.out | exact far2 HNE.out HS7.out _ _)
    (first | (go_at_call 114; refine (HC1.out (bl_then HB5.out HB0.out)).mono ?_; rintro e w6 ⟨v6, rfl, ho6, hb6⟩; (obtain ⟨A6, c6, rfl⟩ := own_slice ho6); (have HO6 := Lib.hid ho6); (have HB6 := Lib.hid (bl_then HB0.out hb6)); (have HS6 : Hid (w6.cell? ⟨q5, 0, none⟩ = some (.slice sa ll sc) ∧ w6.cell? ⟨q5, 1, none⟩ = some (.slice pa ll pc)) := ⟨cell_of (blk_bl HQ5.out HB6.out) 0, cell_of (blk_bl HQ5.out HB6.out) 1⟩); clear ho6 hb6) |
      (go_at_call 115; refine (HC2.out (bl_then HB5.out HB6.out)).mono ?_; rintro e w7 ⟨v7, rfl, ho7, hb7⟩; (obtain ⟨A7, c7, rfl⟩ := own_slice ho7); (have HO7 := Lib.hid ho7); (have HO67 := Lib.hid (own_bl HO6.out hb7)); (have HB7 := Lib.hid (bl_then HB6.out hb7)); (have HS7 : Hid (w7.cell? ⟨q5, 0, none⟩ = some (.slice sa ll sc) ∧ w7.cell? ⟨q5, 1, none⟩ = some (.slice pa ll pc)) := ⟨cell_of (blk_bl HQ5.out HB7.out) 0, cell_of (blk_bl HQ5.out HB7.out) 1⟩); (have n0 := cell_of (blk_bl HQ4.out HB7.out) 0); (have n1 := cell_of (blk_bl HQ4.out HB7.out) 1); (have m0 := free_of (blk_bl HQ4.out HB7.out) 0); (have m1 := free_of (blk_bl HQ4.out HB7.out) 1); clear ho7 hb7))
  go_wp2_with fail
  have hlt4 := lt_of HQ4.out
  have hsz6 := HB6.out.size
  refine bodyPost_ret (res_c rfl _ _ W.heap.size 82 #[.slice A6 ll c6, .slice A7 ll c7] (0, 0) _ rfl (Rr.put2 (blk_bl HQ4.out HB7.out) _ _) hu rfl (by kernel_rfl)) rfl ⟨A6, c6, A7, c7, rfl, ?_, ?_, ?_⟩
  · exact own_base (own_sets HO67.out (by show _ < W5.heap.size; exact hlt4) _ _) (by show _ ≤ W5.heap.size; omega)
  · exact own_base (own_sets HO7.out (by omega) _ _) (by omega)
  · exact bl_set (bl_set (bl_then HB5.out HB7.out) (Nat.le_refl _) _) (Nat.le_refl _) _

end Go.Proofs.YtgnagbbdnlmgeaaGreat.Cm
end

/- Claims counted: bits that are put, chains and their blocks (plain laws for ClaimRoom). -/
section
set_option linter.unusedVariables false
set_option linter.unusedSimpArgs false
set_option maxRecDepth 100000
namespace Go.Proofs.YtgnagbbdnlmgeaaGreat.Cm
open Go Go.RowKit
open Go.Proofs.YtgnagbbdnlmgeaaGreat.Rr Go.Proofs.YtgnagbbdnlmgeaaGreat.Ob Go.Proofs.YtgnagbbdnlmgeaaGreat.Ba Go.Proofs.YtgnagbbdnlmgeaaGreat.Ko Go.Proofs.YtgnagbbdnlmgeaaGreat.Ge Go.Proofs.YtgnagbbdnlmgeaaGreat.Oc Go.Proofs.YtgnagbbdnlmgeaaGreat.Pk Go.Proofs.YtgnagbbdnlmgeaaGreat.Su Go.Proofs.YtgnagbbdnlmgeaaGreat.Rf Go.Proofs.YtgnagbbdnlmgeaaGreat.Dv Go.Proofs.YtgnagbbdnlmgeaaGreat.Vo Go.Proofs.YtgnagbbdnlmgeaaGreat.Ra Go.Proofs.YtgnagbbdnlmgeaaGreat.Jh Go.Proofs.YtgnagbbdnlmgeaaGreat.Tr Go.Proofs.YtgnagbbdnlmgeaaGreat.Iq Go.Proofs.YtgnagbbdnlmgeaaGreat.Bm Go.Proofs.YtgnagbbdnlmgeaaGreat.In Go.Proofs.YtgnagbbdnlmgeaaGreat.Je Go.Proofs.YtgnagbbdnlmgeaaGreat.Lo Go.Proofs.YtgnagbbdnlmgeaaGreat.Ho Go.Proofs.YtgnagbbdnlmgeaaGreat.Jd

theorem cnt_set : ∀ (l : List Bool) (j : Nat), l[j]? = some false → cnt (l.set j true) = cnt l + 1
  | [], j, h => by simp at h
  | b :: r, 0, h => by
    simp at h
    subst h
    simp [cnt]; omega
  | b :: r, j + 1, h => by
    have := cnt_set r j (by simpa using h)
    simp only [List.set_cons_succ, cnt, this]
    omega
theorem bget_one {x j : Nat} (hj : j < 64) : bget [x] j = x.testBit j := by
  unfold bget
  rw [show j / 64 = 0 by omega, show j % 64 = j by omega]
  rfl
theorem turn_one {n x : Nat} (hn : n ≤ 24) (hx : x < 2 ^ n) (k : Nat) (i : Int) : ∃ y c, turnF n false ([x], k) i = ([y], k + c) ∧ y < 2 ^ n ∧ cnt (bitsOf y n) = cnt (bitsOf x n) + c := by
  unfold turnF
  by_cases h : 0 ≤ i ∧ i < (n : Int) ∧ bget [x] i.toNat = false
  · rw [if_pos h]
    obtain ⟨h1, h2, h3⟩ := h
    have hj : i.toNat < n := by omega
    rw [bget_one (by omega)] at h3
    refine ⟨x ^^^ 2 ^ i.toNat, 1, ?_, Nat.xor_lt_two_pow hx (Nat.pow_lt_pow_right (by decide) hj), ?_⟩
    · unfold bturn
      rw [show i.toNat / 64 = 0 by omega, show i.toNat % 64 = i.toNat by omega]
      rfl
    · have e : bitsOf (x ^^^ 2 ^ i.toNat) n = (bitsOf x n).set i.toNat true := by
        apply List.ext_getElem?
        intro a
        rw [List.getElem?_set]
        by_cases ha : a < n
        · rw [bitsOf_get _ _ _ ha, bitsOf_get _ _ _ ha, bitsOf_length, Nat.testBit_xor, Nat.testBit_two_pow]
          by_cases hia : i.toNat = a
          · subst hia
            simp [h3, hj]
          · simp [hia]
        · rw [List.getElem?_eq_none (by rw [bitsOf_length]; omega), List.getElem?_eq_none (by rw [bitsOf_length]; omega)]
          split
          · omega
          · rfl
      rw [e]
      exact cnt_set _ _ (by rw [bitsOf_get _ _ _ hj, h3])
  · rw [if_neg h]
    exact ⟨x, 0, rfl, hx, rfl⟩
theorem turn_fold {n : Nat} (hn : n ≤ 24) : ∀ (xs : List Int) (x k : Nat), x < 2 ^ n → ∃ y c, xs.foldl (turnF n false) ([x], k) = ([y], k + c) ∧ y < 2 ^ n ∧ cnt (bitsOf y n) = cnt (bitsOf x n) + c
  | [], x, k, hx => ⟨x, 0, rfl, hx, rfl⟩
  | u :: r, x, k, hx => by
    obtain ⟨y, c, e1, hy, e2⟩ := turn_one hn hx k u
    obtain ⟨z, d, e3, hz, e4⟩ := turn_fold hn r y (k + c) hy
    exact ⟨z, c + d, by rw [List.foldl_cons, e1, e3, Nat.add_assoc], hz, by rw [e4, e2, Nat.add_assoc]⟩
theorem turn_all {n x : Nat} (hn : n ≤ 24) (hx : x < 2 ^ n) (xs : List Int) : ∃ y, (turnL n false [x] xs).1 = [y] ∧ y < 2 ^ n ∧ cnt (bitsOf y n) = cnt (bitsOf x n) + (turnL n false [x] xs).2 := by
  obtain ⟨y, c, e1, hy, e2⟩ := turn_fold hn xs x 0 hx
  have e : turnL n false [x] xs = ([y], c) := by unfold turnL; rw [e1, Nat.zero_add]
  rw [e]
  exact ⟨y, rfl, hy, e2⟩
theorem fsU_cnt (x : Nat) : ∀ n, n ≤ 64 → (fsU [x] n).length + cnt (bitsOf x n) = n
  | 0, _ => rfl
  | n + 1, h => by
    have ih := fsU_cnt x n (by omega)
    rw [fsU_succ, List.length_append, bget_one (by omega)]
    show _ + cnt (bitsOf x n ++ [x.testBit n]) = _
    rw [cnt_append]
    cases x.testBit n with
    | true => simp [cnt]; omega
    | false => simp [cnt]; omega

def sumB : List Dat → Int
  | [] => 0
  | d :: r => sumR (runsOf (d.2.map Prod.snd)) + sumB r
def sumS : List Dat → Nat
  | [] => 0
  | d :: r => d.2.length + sumS r
theorem sumB_snoc : ∀ (l : List Dat) (d : Dat), sumB (l ++ [d]) = sumB l + sumR (runsOf (d.2.map Prod.snd))
  | [], d => by show _ + 0 = 0 + _; omega
  | x :: r, d => by show _ + sumB (r ++ [d]) = _ + sumB r + _; rw [sumB_snoc r d]; omega
theorem sumS_snoc : ∀ (l : List Dat) (d : Dat), sumS (l ++ [d]) = sumS l + d.2.length
  | [], d => by show _ + 0 = 0 + _; omega
  | x :: r, d => by show _ + sumS (r ++ [d]) = _ + sumS r + _; rw [sumS_snoc r d]; omega

/-- what scanning keeps -/
structure Sc (n : Nat) (st : St) : Prop where
  b : ∃ x, st.1 = [x] ∧ x < 2 ^ n ∧ (cnt (bitsOf x n) : Int) = sumB st.2.2
  s : ∃ x, st.2.1 = [x] ∧ x < 2 ^ n ∧ cnt (bitsOf x n) = sumS st.2.2
  all : ∀ d ∈ st.2.2, d.2.length ≤ n ∧ (d.2.length : Int) ≤ sumR (runsOf (d.2.map Prod.snd)) ∧ (d.1.1 = 0 → d.2 = []) ∧ ∀ t ∈ d.2.map Prod.snd, t.2.1 ≤ 65534
theorem len_sum : ∀ (T : List Tri), (∀ t ∈ T, 1 ≤ t.2.1) → (T.length : Int) ≤ sumR (runsOf T)
  | [], _ => by show (0 : Int) ≤ 0; omega
  | t :: r, h => by
    have h1 := h t (by simp)
    have h2 := len_sum r (fun x hx => h x (by simp [hx]))
    show _ ≤ max 0 t.2.1 + sumR (runsOf r)
    simp only [List.length_cons]
    omega
theorem Sc.step {n s m : Nat} {ws : List Nat} (hn : n ≤ 24) {st st' : St} (h : Sc n st) {i : Nat} (hs : stepG n s (slF ws n m) (inF ws m) i st = some st') : Sc n st' := by
  unfold stepG at hs
  cases ht : inF ws m i with
  | none => rw [ht] at hs; cases hs
  | some t =>
    rw [ht] at hs
    simp only at hs
    cases hf : takeF n s (slF ws n m) st.1 st.2.1 t.2.1 t.2.2 with
    | none => rw [hf] at hs; cases hs
    | some r =>
      rw [hf] at hs
      simp only [Option.some.injEq] at hs
      subst hs
      unfold takeF at hf
      cases hc : chainF n (slF ws n m) n t.2.1 with
      | none => rw [hc] at hf; cases hf
      | some L =>
        rw [hc] at hf
        simp only at hf
        split at hf
        · cases hf
        · split at hf
          · cases hf
          · split at hf
            · cases hf
            · rename_i k1 k2 k3
              simp only [Option.some.injEq] at hf
              subst hf
              obtain ⟨x, hx1, hx2, hx3⟩ := h.b
              obtain ⟨y, hy1, hy2, hy3⟩ := h.s
              obtain ⟨x', a1, a2, a3⟩ := turn_all hn hx2 (blocksOf (L.map Prod.snd))
              obtain ⟨y', b1, b2, b3⟩ := turn_all hn hy2 (L.map Prod.fst)
              rw [hx1] at k3 ⊢
              rw [hy1] at k2 ⊢
              have k2' : ((turnL n false [y] (L.map Prod.fst)).2 : Int) = (L.length : Int) := Classical.not_not.1 k2
              have k3' : ((turnL n false [x] (blocksOf (L.map Prod.snd))).2 : Int) = sumR (runsOf (L.map Prod.snd)) := Classical.not_not.1 k3
              have hpart : ∀ u ∈ L.map Prod.snd, 1 ≤ u.2.1 ∧ u.2.1 ≤ 65534 := fun u hu => by
                obtain ⟨z, hz, rfl⟩ := List.mem_map.1 hu
                obtain ⟨j, hjl, rfl⟩ := List.mem_iff_getElem.1 hz
                obtain ⟨-, h2, -, -⟩ := chainF_at n t.2.1 L hc j _ (List.getElem?_eq_getElem hjl)
                have := of_decide_eq_true (slF_may h2).1
                omega
              refine ⟨⟨x', a1, a2, ?_⟩, ⟨y', b1, b2, ?_⟩, fun d hd => ?_⟩
              · show _ = sumB (st.2.2 ++ [(t, L)])
                rw [sumB_snoc, a3]
                show _ = _ + sumR (runsOf (L.map Prod.snd))
                omega
              · show _ = sumS (st.2.2 ++ [(t, L)])
                rw [sumS_snoc, b3]
                show _ = _ + L.length
                omega
              · rcases List.mem_append.1 hd with h9 | h9
                · exact h.all d h9
                · have e : d = (t, L) := by simpa using h9
                  subst e
                  refine ⟨chainF_len n _ L hc, ?_, fun h0 => ?_, fun u hu => (hpart u hu).2⟩
                  · have := len_sum (L.map Prod.snd) (fun u hu => (hpart u hu).1)
                    rw [List.length_map] at this
                    exact this
                  · have hfree : t.2.1 = -1 := by
                      unfold inF at ht
                      split at ht
                      · split at ht
                        · rename_i q1 q2
                          have e9 : n6 (inL ws ((i : Int)).toNat) = t := Option.some.inj ht
                          rw [← e9] at h0 ⊢
                          unfold n6 at h0 ⊢
                          rw [if_pos q2] at h0 ⊢
                          unfold ok6 at q2
                          simp only [Bool.and_eq_true] at q2
                          have q3 := of_decide_eq_true q2.2.2.1
                          unfold iAll iOk at q3
                          simp only at h0 ⊢
                          omega
                        · cases ht
                      · cases ht
                    rw [hfree, chainF_stop] at hc
                    exact (Option.some.inj hc).symm

theorem Sc.run {n s m : Nat} {ws : List Nat} (hn : n ≤ 24) : ∀ (k i : Nat) {st st' : St}, Sc n st → scanG n s (slF ws n m) (inF ws m) k i st = some st' → Sc n st'
  | 0, i, st, st', h, hs => by
    have : st = st' := Option.some.inj hs
    rw [← this]; exact h
  | k + 1, i, st, st', h, hs => by
    unfold scanG at hs
    cases hst : stepG n s (slF ws n m) (inF ws m) i st with
    | none => rw [hst] at hs; cases hs
    | some s2 =>
      rw [hst] at hs
      exact Sc.run hn k (i + 1) (h.step hn hst) hs
theorem scan_sc {n m s : Nat} {ws : List Nat} (h1 : 1 ≤ n) (hn : n ≤ 24) {st : St} (h : scanF n m s ws = some st) : Sc n st := by
  unfold scanF at h
  have e : List.replicate ((n + 63) / 64) 0 = [0] := by rw [show (n + 63) / 64 = 1 by omega]; rfl
  rw [e] at h
  refine Sc.run hn m 0 (st := ([0], [0], [])) ⟨⟨0, rfl, Nat.two_pow_pos n, ?_⟩, ⟨0, rfl, Nat.two_pow_pos n, ?_⟩, fun d hd => by cases hd⟩ h
  · rw [cnt_bits, cb_zero]; rfl
  · rw [cnt_bits, cb_zero]; rfl
theorem sum_le : ∀ (ds : List Dat), (∀ d ∈ ds, (d.2.length : Int) ≤ sumR (runsOf (d.2.map Prod.snd))) → (sumS ds : Int) ≤ sumB ds
  | [], _ => by show ((0 : Nat) : Int) ≤ 0; omega
  | d :: r, h => by
    have h1 := h d (by simp)
    have h2 := sum_le r (fun x hx => h x (by simp [hx]))
    show ((d.2.length + sumS r : Nat) : Int) ≤ _ + sumB r
    omega

/-- what the used inodes' chains come to -/
def lsum (g : Int → Int) : List Int → Int
  | [] => 0
  | x :: r => g x + lsum g r
theorem lsum_append (g : Int → Int) : ∀ (a b : List Int), lsum g (a ++ b) = lsum g a + lsum g b
  | [], b => by show lsum g b = 0 + _; omega
  | x :: r, b => by show g x + lsum g (r ++ b) = g x + lsum g r + _; rw [lsum_append g r b]; omega
def gO (es : List Own) (i : Int) : Int := sumR (runsOf ((ofV es i).L.map Prod.snd))
theorem used_sum (es : List Own) (hf : ∀ e ∈ es, e.k = 0 → e.L = []) : ∀ i, i ≤ es.length → lsum (gO es) (usedD ((es.take i).map Own.dat) 0) = sumB ((es.take i).map Own.dat)
  | 0, _ => rfl
  | i + 1, h => by
    obtain ⟨e, he⟩ := some_at (l := es) (i := i) (by omega)
    have ih := used_sum es hf i (by omega)
    have hv : ofV es (i : Int) = e := by
      unfold ofV
      rw [if_pos (by omega), List.getD_eq_getElem?_getD, Int.toNat_natCast, he]
      rfl
    rw [take_next he, List.map_append, List.map_cons, List.map_nil, usedD_snoc, lsum_append, ih, sumB_snoc, List.length_map, List.length_take, Nat.min_eq_left (by omega), Nat.zero_add]
    show _ + lsum (gO es) (if e.k = 0 then [] else [(i : Int)]) = _ + sumR (runsOf (e.L.map Prod.snd))
    by_cases hk : e.k = 0
    · rw [if_pos hk, hf e (List.mem_of_getElem? he) hk]
      rfl
    · rw [if_neg hk]
      show _ + (gO es (i : Int) + 0) = _
      unfold gO
      rw [hv]
      omega

end Go.Proofs.YtgnagbbdnlmgeaaGreat.Cm
end

/- claim.Free, NextSlots. -/
section
set_option linter.unusedVariables false
set_option linter.unusedSimpArgs false
set_option maxHeartbeats 4000000
set_option maxRecDepth 100000
namespace Go.Proofs.YtgnagbbdnlmgeaaGreat.Cm
open Go Go.RowKit
open Go.Proofs.YtgnagbbdnlmgeaaGreat.Rr Go.Proofs.YtgnagbbdnlmgeaaGreat.Ob Go.Proofs.YtgnagbbdnlmgeaaGreat.Ba Go.Proofs.YtgnagbbdnlmgeaaGreat.Ko Go.Proofs.YtgnagbbdnlmgeaaGreat.Ge Go.Proofs.YtgnagbbdnlmgeaaGreat.Oc Go.Proofs.YtgnagbbdnlmgeaaGreat.Pk Go.Proofs.YtgnagbbdnlmgeaaGreat.Su Go.Proofs.YtgnagbbdnlmgeaaGreat.Rf Go.Proofs.YtgnagbbdnlmgeaaGreat.Dv Go.Proofs.YtgnagbbdnlmgeaaGreat.Vo Go.Proofs.YtgnagbbdnlmgeaaGreat.Ra Go.Proofs.YtgnagbbdnlmgeaaGreat.Jh Go.Proofs.YtgnagbbdnlmgeaaGreat.Tr Go.Proofs.YtgnagbbdnlmgeaaGreat.Iq Go.Proofs.YtgnagbbdnlmgeaaGreat.Bm Go.Proofs.YtgnagbbdnlmgeaaGreat.In Go.Proofs.YtgnagbbdnlmgeaaGreat.Je Go.Proofs.YtgnagbbdnlmgeaaGreat.Lo Go.Proofs.YtgnagbbdnlmgeaaGreat.Ho Go.Proofs.YtgnagbbdnlmgeaaGreat.Jd

theorem cfree_ {W : World} {B q b1 b2 n x1 x2 : Nat} {g1 g2 c1 c2 : Nat} {es : List Own} {LA : Option Addr} {lc : Nat} (h : Cl W B q b1 b2 n [x1] [x2] g1 g2 c1 c2 es LA lc) (hx1 : x1 < 2 ^ n) (hx2 : x2 < 2 ^ n) (hn : n ≤ 24) (hl : es.length ≤ 65534) :
    Calls Tryz.prog 56 #[.pointer (some ⟨q, 0, none⟩)] W fun e w' => e = .returned (.tuple #[.int .i64 ((n : Int) - (cnt (bitsOf x1 n) : Nat)), .int .i64 ((n : Int) - (cnt (bitsOf x2 n) : Nat)), .int .i64 ((es.length : Int) - ((usedD (es.map Own.dat) 0).length : Nat))]) ∧ Below W.heap.size W w' := by
  have hu := Tryz.underlying179
  have HF1 : Hid (∀ {W' : World}, Bk W W' → _) := fun {W'} hb => free_ (h.bm1.keep hb.below) hx1 hn
  have HF2 : Hid (∀ {W' : World}, Bk W W' → _) := fun {W'} hb => free_ (h.bm2.keep hb.below) hx2 hn
  have HU : Hid (∀ {W' : World}, Bk W W' → Calls Tryz.prog 57 #[.pointer (some ⟨q, 0, none⟩)] W' fun e w' => ∃ A c, e = .returned (.slice A (usedD (es.map Own.dat) 0).length c) ∧ Below W'.heap.size W' w') := fun {W'} hb => by
    refine (used_ (h.keep hb.below) hl).mono ?_
    rintro e w' ⟨v, rfl, ho, hb'⟩
    obtain ⟨A, c, rfl⟩ := own_slice ho
    exact ⟨A, c, rfl, hb'⟩
  have hul := usedD_len (es.map Own.dat) 0
  rw [List.length_map] at hul
  have HCL : Hid (∀ W', Bk W W' → W'.cell? ⟨q, 0, none⟩ = some (.slice LA es.length lc) ∧ W'.cell? ⟨q, 1, none⟩ = some (.pointer (some ⟨b1, 0, none⟩)) ∧ W'.cell? ⟨q, 2, none⟩ = some (.pointer (some ⟨b2, 0, none⟩)) ∧ Bk W W') := fun W' hb => ⟨cell_of (blk_bl h.blk hb.below) 0, cell_of (blk_bl h.blk hb.below) 1, cell_of (blk_bl h.blk hb.below) 2, hb⟩
  have HB0 : Hid (Bk W W.drew) := ⟨bl_drew (Below.refl _ _)⟩
  generalize (usedD (es.map Own.dat) 0).length = ul at *
  generalize es.length = m at *
  generalize (n : Int) - (cnt (bitsOf x1 n) : Nat) = f1 at *
  generalize (n : Int) - (cnt (bitsOf x2 n) : Nat) = f2 at *
  have hw : IntKind.i64.wrap ((m : Int) - (ul : Int)) = (m : Int) - (ul : Int) := wi64 _ (by omega) (by omega)
  clear h
  go_enter Tryz.func56, Tryz.ntmps56
  go_wp2_with fail
  go_region_held3 (fun W' => W'.cell? ⟨q, 0, none⟩ = some (.slice LA m lc) ∧ W'.cell? ⟨q, 1, none⟩ = some (.pointer (some ⟨b1, 0, none⟩)) ∧ W'.cell? ⟨q, 2, none⟩ = some (.pointer (some ⟨b2, 0, none⟩)) ∧ Bk W W')
    (first | exact HCL.out _ HB0.out | exact HCL.out _ HC5.out | exact HCL.out _ HC6.out | exact HCL.out _ HC7.out)
    (first | (go_at_call 97; refine (HF1.out HB0.out).mono ?_; rintro e w5 ⟨rfl, hb5⟩; (have HC5 : Hid (Bk W w5) := ⟨bl_then HB0.out.below hb5⟩); clear hb5) |
      (go_at_call 97; refine (HF2.out HC5.out).mono ?_; rintro e w6 ⟨rfl, hb6⟩; (have HC6 : Hid (Bk W w6) := ⟨bl_then HC5.out.below hb6⟩); clear hb6) |
      (go_at_call 57; refine (HU.out HC6.out).mono ?_; rintro e w7 ⟨A7, c7, rfl, hb7⟩; (have HC7 : Hid (Bk W w7) := ⟨bl_then HC6.out.below hb7⟩); clear hb7))
  go_wp2_with fail
  go_ret3
  exact ⟨rfl, HC7.out.below⟩

end Go.Proofs.YtgnagbbdnlmgeaaGreat.Cm
end
