/- Parts of the proof, one behind the other: Tr, Rs, Ck, Cb, Cg, Ch. -/
import Derived.Test.YtgnagbbdnlmgeaaGreatL05
import Derived.Test.YtgnagbbdnlmgeaaGreatL12
import Derived.Test.YtgnagbbdnlmgeaaGreatL10
import Derived.Test.YtgnagbbdnlmgeaaGreatL08
set_option linter.unusedVariables false
set_option linter.unusedSimpArgs false
set_option linter.unusedSectionVars false
section
set_option maxHeartbeats 2000000
set_option maxRecDepth 100000
namespace Go.Proofs.YtgnagbbdnlmgeaaGreat.Tr
open Go Go.RowKit
open Ob Ba Oc Pk Ge Ko Dv Vo Ra Su Lo Je
abbrev Tri := Int × Int × Int
def tvs (l : List Tri) : List Value := l.flatMap fun p => [.int .i64 p.1, .int .i64 p.2.1, .int .i64 p.2.2]
theorem tvs_length (l : List Tri) : (tvs l).length = l.length * 3 := by
  induction l with
  | nil => rfl
  | cons a r ih => simp [tvs] at ih ⊢; omega
theorem tvs_append (a b : List Tri) : tvs (a ++ b) = tvs a ++ tvs b := by simp [tvs]
theorem tvs_get {l : List Tri} {i : Nat} {p : Tri} (h : l[i]? = some p) : (tvs l)[i * 3]? = some (.int .i64 p.1) ∧ (tvs l)[i * 3 + 1]? = some (.int .i64 p.2.1) ∧ (tvs l)[i * 3 + 2]? = some (.int .i64 p.2.2) := by
  induction l generalizing i with
  | nil => simp at h
  | cons a r ih =>
    have e : tvs (a :: r) = .int .i64 a.1 :: .int .i64 a.2.1 :: .int .i64 a.2.2 :: tvs r := rfl
    cases i with
    | zero => simp at h; subst h; exact ⟨rfl, rfl, rfl⟩
    | succ j =>
      obtain ⟨h1, h2, h3⟩ := ih (i := j) (by simpa using h)
      rw [e]
      refine ⟨?_, ?_, ?_⟩
      · rw [show (j + 1) * 3 = j * 3 + 1 + 1 + 1 from by omega]; simpa using h1
      · rw [show (j + 1) * 3 + 1 = j * 3 + 1 + 1 + 1 + 1 from by omega]; simpa using h2
      · rw [show (j + 1) * 3 + 2 = j * 3 + 2 + 1 + 1 + 1 from by omega]; simpa using h3
def TR (w : World) (A : Option Addr) (l : List Tri) : Prop := ∀ (i : Nat) p, l[i]? = some p → ∃ q off, A = some ⟨q, off, none⟩ ∧ q < w.heap.size ∧ w.cell? ⟨q, off + i * 3, none⟩ = some (.int .i64 p.1) ∧ w.cell? ⟨q, off + i * 3 + 1, none⟩ = some (.int .i64 p.2.1) ∧ w.cell? ⟨q, off + i * 3 + 2, none⟩ = some (.int .i64 p.2.2)
theorem TR.below {w w' : World} {A : Option Addr} {l : List Tri} (h : TR w A l) (hb : Below w.heap.size w w') : TR w' A l := by
  intro i p hi
  obtain ⟨q, off, rfl, h0, h1, h2, h3⟩ := h i p hi
  exact ⟨q, off, rfl, Nat.lt_of_lt_of_le h0 hb.size, (hb.cell (p := ⟨q, off + i * 3, none⟩) h0).trans h1, (hb.cell (p := ⟨q, off + i * 3 + 1, none⟩) h0).trans h2, (hb.cell (p := ⟨q, off + i * 3 + 2, none⟩) h0).trans h3⟩
theorem own_tr {w : World} {B T n : Nat} {A : Option Addr} {c : Nat} {l : List Tri} (h : w.ownsRow B T 3 (.slice A n c) n (tvs l)) : TR w A l ∧ l.length = n := by
  have hl : l.length = n := by
    have := h.1
    rw [tvs_length] at this
    omega
  refine ⟨?_, hl⟩
  obtain ⟨h1, ⟨h2, h3⟩ | ⟨g, cap, cur, hv, hg, hb, hn, hm, hs, ht⟩⟩ := h
  · intro i p hp
    have := (List.getElem?_eq_some_iff.1 hp).1
    rw [h3] at h1
    simp at h2
    omega
  · simp only [Value.slice.injEq, true_and] at hv
    obtain ⟨rfl, rfl⟩ := hv
    intro i p hp
    obtain ⟨g1, g2, g3⟩ := tvs_get hp
    refine ⟨g, 0, rfl, lt_of hb, ?_, ?_, ?_⟩
    · rw [cell_of hb, Nat.zero_add]
      rw [← ht, List.getElem?_take] at g1
      split at g1
      · simpa using g1
      · cases g1
    · rw [cell_of hb, Nat.zero_add]
      rw [← ht, List.getElem?_take] at g2
      split at g2
      · simpa using g2
      · cases g2
    · rw [cell_of hb, Nat.zero_add]
      rw [← ht, List.getElem?_take] at g3
      split at g3
      · simpa using g3
      · cases g3
def slF (ws : List Nat) (n m : Nat) (i : Int) : Option Tri :=
  if 0 ≤ i ∧ i < n then (if ok7 (ws.getD (16 + 8 * m + i.toNat) 0) then some (s7 (ws.getD (16 + 8 * m + i.toNat) 0)) else none) else none
def slV (o : Option Tri) : Tri := o.getD (0, 0, 0)
theorem ok7_may {x : Nat} (h : ok7 x = true) : sMay (s7 x).1 (s7 x).2.1 (s7 x).2.2 = true := by
  unfold s7
  rw [if_pos h]
  unfold ok7 at h
  rw [Bool.and_eq_true] at h
  exact h.1
theorem slF_may {ws : List Nat} {n m : Nat} {i : Int} {t : Tri} (h : slF ws n m i = some t) : sMay t.1 t.2.1 t.2.2 = true ∧ 0 ≤ i ∧ i < n := by
  unfold slF at h
  split at h
  · rename_i hi
    split at h
    · rename_i hk
      obtain rfl := Option.some.inj h
      exact ⟨ok7_may hk, hi⟩
    · cases h
  · cases h
theorem slot_callD {W : World} {v b n m s : Nat} {d : Dev} {g : Lay} {ws : List Nat} (hv : VolIs W v b n m s d g) (hwd : Pm.wordsOf d = ints ws) (hlt : ∀ x ∈ ws, x < 18446744073709551616) (hfit : 16 + 8 * m + n ≤ ws.length) (i : Int) :
    Calls Tryz.prog 21 #[.pointer (some ⟨v, 0, none⟩), .int .i64 i] W fun o w' => ∃ e : Int, o = .returned (.tuple #[.agg #[.int .i64 (slV (slF ws n m i)).1, .int .i64 (slV (slF ws n m i)).2.1, .int .i64 (slV (slF ws n m i)).2.2], .int .i64 e]) ∧ (e != 0) = (slF ws n m i).isNone ∧ Below W.heap.size W w' := by
  by_cases hi : i < 0 ∨ (n : Int) ≤ i
  · have hs : slF ws n m i = none := by unfold slF; rw [if_neg (by omega)]
    rw [hs]
    exact (slot_out hv i hi).mono fun e w' ⟨h1, h2⟩ => ⟨9, h1, rfl, h2⟩
  · obtain ⟨k, hk⟩ : ∃ k : Nat, (k : Int) = 16 + 8 * m + i := ⟨(16 + 8 * m + i).toNat, by omega⟩
    have hkT : k < ws.length := by omega
    obtain ⟨x, hx⟩ := some_at (l := ws) (i := k) (by omega)
    have hld : d.load k = (x : Int) := by
      have e1 : d.las.length = ws.length := by rw [← Pm.wordsOf_length, hwd, ints_length]
      have e2 := Pm.wordsOf_get d k (by omega)
      rw [hwd, ints_get hx] at e2
      exact (Option.some.inj e2).symm
    have hx9 := hlt x (List.mem_of_getElem? hx)
    have hxe : ws.getD (16 + 8 * m + i.toNat) 0 = x := by
      rw [List.getD_eq_getElem?_getD, show 16 + 8 * m + i.toNat = k from by omega, hx]
      rfl
    have hs : slF ws n m i = if ok7 x then some (s7 x) else none := by
      unfold slF
      rw [if_pos (by omega), hxe]
    have hs7 : slV (slF ws n m i) = s7 x := by
      rw [hs]
      by_cases h9 : ok7 x = true
      · rw [if_pos h9]
        exact Option.getD_some
      · rw [if_neg h9]
        unfold s7
        rw [if_neg h9]
        exact Option.getD_none
    obtain ⟨S0, g0⟩ : ∃ S0, S0 = (s7 x).1 := ⟨_, rfl⟩
    obtain ⟨S1, g1⟩ : ∃ S1, S1 = (s7 x).2.1 := ⟨_, rfl⟩
    obtain ⟨S2, g2⟩ : ∃ S2, S2 = (s7 x).2.2 := ⟨_, rfl⟩
    obtain ⟨S3, g3⟩ : ∃ S3 : Int, S3 = if ok7 x then 0 else 2 := ⟨_, rfl⟩
    have hS : ∀ e, SDec x (pa x) (pb x) (pc x) e → e = .returned (.tuple #[.agg #[.int .i64 S0, .int .i64 S1, .int .i64 S2], .int .i64 S3]) := by
      intro e he
      rw [g0, g1, g2, g3]
      exact sdec_is he
    rw [hs7, ← g0, ← g1, ← g2]
    refine (slot_get hv i (by omega) k hk x hx9 hld (S0, S1, S2, S3) hS).mono ?_
    rintro e w' ⟨h1, h2⟩
    refine ⟨S3, h1, ?_, h2⟩
    rw [g3, hs]
    by_cases h9 : ok7 x = true
    · rw [if_pos h9, if_pos h9]
      rfl
    · rw [if_neg h9, if_neg h9]
      rfl
theorem end_ (a b c : Int) (h : sMay a b c = true) (w : World) :
    Calls Tryz.prog 101 #[.agg #[.int .i64 a, .int .i64 b, .int .i64 c]] w fun e w' => e = .returned (.int .i64 (a + b)) ∧ Below w.heap.size w w' := by
  have hu := Tryz.underlying51
  have hm := of_decide_eq_true h
  obtain ⟨h1, h2, h3, h4, -, -⟩ := hm
  have HM : Hid (∀ w, Calls Tryz.prog 147 #[.agg #[.int .i64 a, .int .i64 b, .int .i64 c]] w fun e w' => e = .returned (.bool true) ∧ Below w.heap.size w w') := fun w => by
    have := Lo.may_ a b c w
    rw [h] at this
    exact this
  have hq := alloc_new w (.cells #[.int .i64 a, .int .i64 b, .int .i64 c] 51)
  have HQ := Lib.hid hq
  clear h hq
  go_enter Tryz.func101, Tryz.ntmps101
  go_wp2_with fail
  refine (HM.out _).mono ?_
  rintro e w1 ⟨rfl, hb1⟩
  have hq1 := blk_bl HQ.out hb1
  have l0 := cell_of hq1 0
  have l1 := cell_of hq1 1
  have HB1 := Lib.hid (bl_then (bl_alloc (Below.refl _ _) _) hb1)
  clear hq1 hb1
  go_wp2_with fail
  go_ret
  exact ⟨rfl, HB1.out⟩
end Go.Proofs.YtgnagbbdnlmgeaaGreat.Tr
end
section
set_option maxHeartbeats 2000000
set_option maxRecDepth 100000
namespace Go.Proofs.YtgnagbbdnlmgeaaGreat.Rr
open Go Go.RowKit
open Ob Ba Oc Pk Bm
theorem two_new (w : World) (o p : Obj) : ((w.alloc o).alloc p).heap[w.heap.size + 1]? = some p := by
  have := alloc_new (w.alloc o) p
  rw [World.size_alloc] at this
  exact this
theorem put2 {W : World} {k T : Nat} {x0 x1 : Value} (h : W.heap[k]? = some (.cells #[x0, x1] T (0, 0))) (y0 y1 : Value) :
    ((W.setCell ⟨k, 0, none⟩ y0).setCell ⟨k, 1, none⟩ y1).heap[k]? = some (.cells #[y0, y1] T (0, 0)) := by
  have h1 := set_same h 0 y0
  have h2 := set_same h1 1 y1
  exact h2
def fitF (rs : List (Int × Int)) (c : Int) : Option Int := (rs.find? fun r => decide (c ≤ r.2)).map Prod.fst
theorem fit_cons (p : Int × Int) (rs : List (Int × Int)) (c : Int) : fitF (p :: rs) c = if c ≤ p.2 then some p.1 else fitF rs c := by
  unfold fitF
  by_cases h : c ≤ p.2
  · simp [h]
  · simp [h]
theorem freeG_in (n : Nat) (l : List Nat) : ∀ k o, (∀ s, o = some s → s < n) → ∀ p ∈ freeG n l k o, 0 ≤ p.1 ∧ 0 ≤ p.2 ∧ p.1 + p.2 ≤ n
  | 0, _, _, p, hp => by simp [freeG] at hp
  | _ + 1, none, _, p, hp => by simp [freeG] at hp
  | k + 1, some s, hs, p, hp => by
    rw [freeG_step] at hp
    rcases List.mem_cons.1 hp with rfl | hp
    · have := hs s rfl
      cases hq : nextF n l s true with
      | none => simp; omega
      | some j =>
        have := nextF_some hq
        simp
        omega
    · exact freeG_in n l k _ (fun u hu => (nextF_some hu).2.1) p hp
theorem frees_in {n : Nat} {l : List Nat} {p : Int × Int} (h : p ∈ frees n l) : 0 ≤ p.1 ∧ 0 ≤ p.2 ∧ p.1 + p.2 ≤ n := freeG_in n l _ _ (fun u hu => (nextF_some hu).2.1) p h
theorem freeG_len (n : Nat) (l : List Nat) : ∀ k o, (freeG n l k o).length ≤ k
  | 0, _ => by simp [freeG]
  | _ + 1, none => by simp [freeG]
  | k + 1, some s => by rw [freeG_step, List.length_cons]; have := freeG_len n l k (nextF n l ((nextF n l s true).getD n) false); omega
theorem fit_ {W : World} {B b n : Nat} {l : List Nat} {A : Option Addr} {c : Nat} (h : Bm W B b n l A c) (k : Int) :
    Calls Tryz.prog 190 #[.pointer (some ⟨b, 0, none⟩), .int .i64 k] W fun e w' =>
      (∀ s, (if k < 1 then none else fitF (frees n l) k) = some s → e = .returned (.tuple #[.agg #[.int .i64 s, .int .i64 k], .bool true])) ∧ ((if k < 1 then none else fitF (frees n l) k) = none → e = .returned (.tuple #[.agg #[.int .i64 0, .int .i64 0], .bool false])) ∧ Below W.heap.size W w' := by
  have hu := Tryz.underlying93
  have hn9 := h.le
  by_cases hk : k < 1
  · rw [if_pos hk]
    clear h
    go_enter Tryz.func190, Tryz.ntmps190
    go_wp2_with fail
    exact bodyPost_ret (res_ct (u := 5) rfl _ _ W.heap.size 93 #[.int .i64 0, .int .i64 0] (0, 0) _ rfl (alloc_new _ _) hu rfl (by kernel_rfl)) rfl ⟨fun s hs => (by cases hs), fun _ => rfl, bl_alloc (Below.refl _ _) _⟩
  rw [if_neg hk]
  have HF : Hid (∀ {W' : World}, Below W.heap.size W W' → _) := fun {W'} hb => free_run (h.keep hb)
  have hlen : (frees n l).length ≤ n + 1 := freeG_len n l _ _
  have hall : ∀ p ∈ frees n l, 0 ≤ p.1 ∧ 0 ≤ p.2 ∧ p.1 + p.2 ≤ n := fun p hp => frees_in hp
  generalize frees n l = R at *
  have HALL := Lib.hid hall
  obtain ⟨m, hm⟩ : ∃ m, m = R.length := ⟨_, rfl⟩
  rw [← hm] at hlen HF
  have HM := Lib.hid hm
  have hm9 : m ≤ 65535 := by omega
  clear h hall hm hlen
  go_enter Tryz.func190, Tryz.ntmps190
  go_wp2_with fail
  refine (HF.out (bl_alloc (Below.refl _ _) _)).mono ?_
  rintro e w1 ⟨v, rfl, hown, hb1⟩
  obtain ⟨A1, c1, rfl⟩ := own_slice hown
  have HR1 := Lib.hid (own_rr hown).1
  have HB1 := Lib.hid (bl_then (bl_alloc (Below.refl _ _) _) hb1)
  have HQ1 := Lib.hid (blk_bl (alloc_new W (.cells #[.int .i64 0, .int .i64 0] 93)) hb1)
  clear hown hb1
  go_wp2_with fail
  go_loopw [14] (fun c14 wr => ∃ i : Nat, i ≤ m ∧ c14 = .int .i64 i ∧ Hid (Below w1.heap.size w1 wr ∧ fitF R k = fitF (R.drop i) k)) (fun c14 _ => m - (intOf c14).toNat)
  case atStart => exact ⟨0, Nat.zero_le _, rfl, Below.refl _ _, by rw [List.drop_zero]⟩
  case round =>
    obtain ⟨i, hi, rfl, HR⟩ := hrel
    by_cases hlt : i < m
    · obtain ⟨p, hp⟩ := some_at (l := R) (i := i) (by rw [← HM.out]; exact hlt)
      obtain ⟨q, off, rfl, hq, g1, g2⟩ := (HR1.out.below HR.out.1) i p hp
      have hdr : R.drop i = p :: R.drop (i + 1) := by
        obtain ⟨h1, h2⟩ := List.getElem?_eq_some_iff.1 hp
        rw [List.drop_eq_getElem_cons h1, h2]
      have HFI : Hid (fitF R k = if k ≤ p.2 then some p.1 else fitF (R.drop (i + 1)) k) := by
        show _ = _
        rw [HR.out.2, hdr, fit_cons]
      have HQR := Lib.hid (blk_bl HQ1.out HR.out.1)
      have hqlt := lt_of HQR.out
      have hqr := HQR.out
      have l0 := cell_of hqr 0
      have l1 := cell_of hqr 1
      have f0 := free_of hqr 0
      have f1 := free_of hqr 1
      obtain ⟨x, y⟩ := p
      clear hp hdr hqr
      by_cases hky : k ≤ y
      · rw [if_pos hky] at HFI
        go_wp2_with fail
        exact bodyPost_ret (res_ct (u := 5) rfl _ _ W.heap.size 93 #[.int .i64 x, .int .i64 k] (0, 0) _ rfl (alloc_old (put2 HQR.out _ _) _) hu rfl (by kernel_rfl)) rfl ⟨fun s hs => (by rw [HFI.out] at hs; cases hs; rfl), fun hn => (by rw [HFI.out] at hn; cases hn), bl_alloc (bl_set (bl_set (bl_then HB1.out HR.out.1) (Nat.le_refl _) _) (Nat.le_refl _) _) _⟩
      · rw [if_neg hky] at HFI
        go_wp2_with fail
        go_roundw
        case rel => exact ⟨i + 1, by omega, by go_num, bl_alloc HR.out.1 _, HFI.out⟩
        case measure => simp [intOf]; omega
    · obtain rfl : i = m := by omega
      have hnn : fitF R k = none := by rw [HR.out.2, List.drop_of_length_le (by rw [← HM.out]; exact Nat.le_refl _)]; rfl
      have HNN := Lib.hid hnn
      have HQR := Lib.hid (blk_bl HQ1.out HR.out.1)
      have hqr := HQR.out
      have l0 := cell_of hqr 0
      have l1 := cell_of hqr 1
      have f0 := free_of hqr 0
      have f1 := free_of hqr 1
      clear hnn hqr
      go_wp2_with fail
      exact bodyPost_ret (res_ct (u := 5) rfl _ _ W.heap.size 93 #[.int .i64 0, .int .i64 0] (0, 0) _ rfl (put2 HQR.out _ _) hu rfl (by kernel_rfl)) rfl ⟨fun s hs => (by rw [HNN.out] at hs; cases hs), fun _ => rfl, bl_set (bl_set (bl_then HB1.out HR.out.1) (Nat.le_refl _) _) (Nat.le_refl _) _⟩
end Go.Proofs.YtgnagbbdnlmgeaaGreat.Rr
end
section
set_option maxRecDepth 100000
namespace Go.Proofs.YtgnagbbdnlmgeaaGreat.Tr
def chainF (n : Nat) (sl : Int → Option Tri) : Nat → Int → Option (List (Int × Tri))
  | 0, s => if s = -1 then some [] else none
  | k + 1, s => if s = -1 then some [] else match sl s with
    | none => none
    | some t => if (n : Int) < t.1 + t.2.1 then none else (chainF n sl k t.2.2).map ((s, t) :: ·)
theorem chainF_stop (n : Nat) (sl : Int → Option Tri) (k : Nat) : chainF n sl k (-1) = some [] := by cases k <;> rfl
theorem chainF_bad {n : Nat} {sl : Int → Option Tri} {k : Nat} {s : Int} (h1 : s ≠ -1) (h2 : sl s = none ∨ (∃ t, sl s = some t ∧ (n : Int) < t.1 + t.2.1) ∨ k = 0) : chainF n sl k s = none := by
  cases k with
  | zero => show (if _ then _ else _) = _; rw [if_neg h1]
  | succ k =>
    unfold chainF
    rw [if_neg h1]
    rcases h2 with h | ⟨t, h, h3⟩ | h
    · rw [h]
    · rw [h]; simp only; rw [if_pos h3]
    · cases h
theorem chainF_step {n : Nat} {sl : Int → Option Tri} {k : Nat} {s : Int} {t : Tri} (h1 : s ≠ -1) (h2 : sl s = some t) (h3 : ¬ (n : Int) < t.1 + t.2.1) : chainF n sl (k + 1) s = (chainF n sl k t.2.2).map ((s, t) :: ·) := by
  show (if _ then _ else _) = _
  rw [if_neg h1, h2]
  simp only
  rw [if_neg h3]
theorem chainF_mono {n : Nat} {sl : Int → Option Tri} : ∀ (k : Nat) (s : Int) (L : List (Int × Tri)), chainF n sl k s = some L → chainF n sl (k + 1) s = some L
  | 0, s, L, h => by
    by_cases hs : s = -1
    · subst hs; rw [chainF_stop] at h ⊢; exact h
    · rw [chainF_bad hs (.inr (.inr rfl))] at h; cases h
  | k + 1, s, L, h => by
    by_cases hs : s = -1
    · subst hs; rw [chainF_stop] at h ⊢; exact h
    · cases ht : sl s with
      | none => rw [chainF_bad hs (.inl ht)] at h; cases h
      | some t =>
        by_cases hn : (n : Int) < t.1 + t.2.1
        · rw [chainF_bad hs (.inr (.inl ⟨t, ht, hn⟩))] at h; cases h
        · rw [chainF_step hs ht hn] at h ⊢
          cases hc : chainF n sl k t.2.2 with
          | none => rw [hc] at h; cases h
          | some L' =>
            rw [hc] at h
            rw [chainF_mono k _ L' hc]
            exact h
theorem chainF_more {n : Nat} {sl : Int → Option Tri} {k : Nat} {s : Int} {L : List (Int × Tri)} (h : chainF n sl k s = some L) : ∀ j, chainF n sl (k + j) s = some L
  | 0 => h
  | j + 1 => chainF_mono _ _ _ (chainF_more h j)
def Path (n : Nat) (sl : Int → Option Tri) : Int → List (Int × Tri) → Int → Prop
  | s, [], e => s = e
  | s, x :: r, e => x.1 = s ∧ s ≠ -1 ∧ sl s = some x.2 ∧ ¬ (n : Int) < x.2.1 + x.2.2.1 ∧ Path n sl x.2.2.2 r e
theorem Path.snoc {n : Nat} {sl : Int → Option Tri} : ∀ {s : Int} {l : List (Int × Tri)} {e : Int} {t : Tri}, Path n sl s l e → e ≠ -1 → sl e = some t → ¬ (n : Int) < t.1 + t.2.1 → Path n sl s (l ++ [(e, t)]) t.2.2
  | s, [], e, t, h, h1, h2, h3 => by
    have h : s = e := h
    subst h
    exact ⟨rfl, h1, h2, h3, rfl⟩
  | s, x :: r, e, t, h, h1, h2, h3 => by
    obtain ⟨a, b, c, d, p⟩ := h
    exact ⟨a, b, c, d, Path.snoc p h1 h2 h3⟩
theorem Path.run {n : Nat} {sl : Int → Option Tri} : ∀ {s : Int} {l : List (Int × Tri)} {e : Int}, Path n sl s l e → ∀ k, chainF n sl (k + l.length) s = (chainF n sl k e).map (l ++ ·)
  | s, [], e, h, k => by
    have h : s = e := h
    subst h
    show chainF n sl k s = _
    cases chainF n sl k s <;> rfl
  | s, x :: r, e, h, k => by
    obtain ⟨a, b, c, d, p⟩ := h
    rw [List.length_cons, ← Nat.add_assoc, chainF_step b c d, Path.run p k]
    cases chainF n sl k e with
    | none => rfl
    | some L =>
      simp only [Option.map_some, List.cons_append]
      rw [← a]
theorem Path.mid {n : Nat} {sl : Int → Option Tri} : ∀ {s : Int} {l : List (Int × Tri)} {e : Int} {x : Int × Tri}, Path n sl s l e → x ∈ l → ∃ r, r ≠ [] ∧ Path n sl x.1 r e
  | s, y :: r, e, x, h, hx => by
    have h0 := h
    obtain ⟨a, b, c, d, p⟩ := h
    rcases List.mem_cons.1 hx with rfl | hx
    · exact ⟨x :: r, by simp, by rw [a]; exact h0⟩
    · exact Path.mid p hx
theorem Path.loop {n : Nat} {sl : Int → Option Tri} {s : Int} {l : List (Int × Tri)} (h : Path n sl s l s) (hl : l ≠ []) (k : Nat) : chainF n sl k s = none := by
  cases hc : chainF n sl k s with
  | none => rfl
  | some L =>
    have h1 := Path.run h k
    rw [hc, chainF_more hc l.length] at h1
    have h2 := congrArg List.length (Option.some.inj h1)
    simp only [List.length_append] at h2
    have := List.length_pos_iff.2 hl
    omega
theorem pigeon : ∀ (n : Nat) (l : List Int), l.Nodup → (∀ x ∈ l, 0 ≤ x ∧ x < n) → l.length ≤ n
  | 0, l, _, h => by
    cases l with
    | nil => simp
    | cons a r => have := h a (by simp); omega
  | n + 1, l, hd, h => by
    by_cases hm : (n : Int) ∈ l
    · have h9 := pigeon n (l.erase (n : Int)) (hd.erase _) (fun x hx => by
        have h1 := List.mem_of_mem_erase hx
        have h2 := h x h1
        have hne : x ≠ (n : Int) := ((List.Nodup.mem_erase_iff hd).1 hx).1
        omega)
      rw [List.length_erase_of_mem hm] at h9
      omega
    · have h9 := pigeon n l hd (fun x hx => by
        have h2 := h x hx
        have hne : x ≠ (n : Int) := fun e => hm (e ▸ hx)
        omega)
      omega
end Go.Proofs.YtgnagbbdnlmgeaaGreat.Tr
end
section
set_option maxHeartbeats 2000000
set_option maxRecDepth 100000
namespace Go.Proofs.YtgnagbbdnlmgeaaGreat.Tr
open Go Go.RowKit
open Ob Ba Oc Pk Rr
def sumR : List (Int × Int) → Int
  | [] => 0
  | p :: r => max 0 p.2 + sumR r
theorem sumR_append (a b : List (Int × Int)) : sumR (a ++ b) = sumR a + sumR b := by
  induction a with
  | nil => simp [sumR]
  | cons x r ih => simp only [List.cons_append, sumR, ih]; omega
theorem sumR_in (l : List (Int × Int)) (h : ∀ p ∈ l, p.2 ≤ 65534) : 0 ≤ sumR l ∧ sumR l ≤ 65534 * l.length := by
  induction l with
  | nil => simp [sumR]
  | cons x r ih =>
    have h1 := h x (by simp)
    have h2 := ih (fun p hp => h p (by simp [hp]))
    simp only [sumR, List.length_cons]
    omega
theorem total_ {w : World} {A : Option Addr} {l : List (Int × Int)} (h : RR w A l) (c : Nat) (hl : l.length ≤ 65534) (hc : ∀ p ∈ l, p.2 ≤ 65534) :
    Calls Tryz.prog 105 #[.slice A l.length c] w fun e w' => e = .returned (.int .i64 (sumR l)) ∧ Below w.heap.size w w' := by
  have hu := Tryz.underlying93
  have H := Lib.hid h
  have HC := Lib.hid hc
  obtain ⟨n, hn⟩ : ∃ n, n = l.length := ⟨_, rfl⟩
  rw [← hn] at hl
  rw [← hn]
  have HN := Lib.hid hn
  clear h hc hn
  go_enter Tryz.func105, Tryz.ntmps105
  go_wp2_with fail
  go_loopw [8, 3] (fun c8 c3 wr => ∃ (i : Nat) (q : Int), i ≤ n ∧ c8 = .int .i64 i ∧ c3 = .int .i64 q ∧ 0 ≤ q ∧ q ≤ 65534 * i ∧ Hid (q = sumR (l.take i) ∧ Below w.heap.size w wr)) (fun c8 _ _ => n - (intOf c8).toNat)
  case atStart => exact ⟨0, 0, Nat.zero_le _, rfl, rfl, Int.le_refl _, by omega, rfl, Below.refl _ _⟩
  case round =>
    obtain ⟨i, q, hi, rfl, rfl, hq0, hq1, HR⟩ := hrel
    by_cases hlt : i < n
    · obtain ⟨p, hp⟩ := some_at (l := l) (i := i) (by rw [← HN.out]; exact hlt)
      obtain ⟨g, off, rfl, -, g1, g2⟩ := (H.out.below HR.out.2) i p hp
      have hpc := HC.out p (List.mem_of_getElem? hp)
      have HS : Hid (sumR (l.take (i + 1)) = q + max 0 p.2) := by
        show _ = _
        rw [take_next hp, sumR_append, ← HR.out.1]
        simp [sumR]
      obtain ⟨x, y⟩ := p
      simp only at hpc HS
      clear hp
      have hmx : (0 < y ∧ max 0 y = y) ∨ (y ≤ 0 ∧ max 0 y = 0) := by omega
      rcases hmx with ⟨hy, e⟩ | ⟨hy, e⟩
      all_goals
        rw [e] at HS
        clear e
        go_wp2_with fail
        go_roundw
        case rel => exact ⟨i + 1, _, by omega, by go_num, rfl, by omega, by omega, by first | exact HS.out.symm | (rw [HS.out]; simp), bl_alloc HR.out.2 _⟩
        case measure => simp [intOf]; omega
    · obtain rfl : i = n := by omega
      go_wp2_with fail
      go_ret
      refine ⟨?_, HR.out.2⟩
      have := HR.out.1
      rw [List.take_of_length_le (by rw [← HN.out]; exact Nat.le_refl _)] at this
      rw [← this]
      rfl
def runsOf (l : List Tri) : List (Int × Int) := l.map fun t => (t.1, t.2.1)
theorem runsOf_snoc (l : List Tri) (t : Tri) : runsOf (l ++ [t]) = runsOf l ++ [(t.1, t.2.1)] := by simp [runsOf]
theorem runs_ {w : World} {A B : Option Addr} {l : List Tri} (h : TR w B l) (ln ca c : Nat) (hl : l.length ≤ 65534) :
    Calls Tryz.prog 40 #[.agg #[.slice A ln ca, .slice B l.length c]] w fun e w' => ∃ v, e = .returned v ∧ w'.ownsRow w.heap.size 93 2 v l.length (rvs (runsOf l)) ∧ Below w.heap.size w w' := by
  have hu := Tryz.underlying82
  have hu2 := Tryz.underlying51
  have hu3 := Tryz.underlying93
  obtain ⟨z0, hinf, hz0, hz1, hz2⟩ := info_parts (show (Tryz.prog.info? 93).map (fun i => (i.zero, i.size, i.bytes)) = some (some (.agg #[.int .i64 0, .int .i64 0]), 2, 16) by kernel_rfl)
  have H := Lib.hid h
  obtain ⟨n, hn⟩ : ∃ n, n = l.length := ⟨_, rfl⟩
  rw [← hn] at hl
  rw [← hn]
  have HN := Lib.hid hn
  clear h hn
  go_enter Tryz.func40, Tryz.ntmps40
  go_wp2_with fail
  go_loopw [9, 3] (fun c9 c3 wr => ∃ i : Nat, i ≤ n ∧ c9 = .int .i64 i ∧ Hid (wr.ownsRow w.heap.size 93 2 c3 i (rvs (runsOf (l.take i))) ∧ Below w.heap.size w wr)) (fun c9 _ _ => n - (intOf c9).toNat)
  case atStart => exact ⟨0, Nat.zero_le _, rfl, own_nil0 _ _ _ _, bl_alloc (Below.refl _ _) _⟩
  case round =>
    obtain ⟨i, hi, rfl, HR⟩ := hrel
    by_cases hlt : i < n
    · obtain ⟨p, hp⟩ := some_at (l := l) (i := i) (by rw [← HN.out]; exact hlt)
      obtain ⟨g, off, rfl, -, g1, g2, g3⟩ := (H.out.below HR.out.2) i p hp
      have HS : Hid (runsOf (l.take (i + 1)) = runsOf (l.take i) ++ [(p.1, p.2.1)]) := by show _ = _; rw [take_next hp, runsOf_snoc]
      obtain ⟨x, y, z⟩ := p
      have HOW : Hid (∀ o o', ((wr.alloc o).alloc o').ownsRow w.heap.size 93 2 u3 i (rvs (runsOf (l.take i)))) := fun o o' => own_kp (own_kp (W' := wr.alloc o) HR.out.1 (fun k _ hk => Below.heap_alloc _ _ k hk)) (fun k _ hk => Below.heap_alloc _ _ k hk)
      have HLO := Lib.hid (own_lo HR.out.1)
      have HPN : Hid (∀ o, ∀ j u, [Value.int .i64 x, .int .i64 y][j]? = some u → ((wr.alloc o).alloc (.cells #[.int .i64 x, .int .i64 y] 93)).cell? ((⟨wr.heap.size + 1, 0, none⟩ : Addr).add j) = some u) := fun o => by
        have h9 := pair_news (wr.alloc o) (.int .i64 x) (.int .i64 y) 93
        rw [World.size_alloc] at h9
        exact h9
      have hsz : Hid (w.heap.size ≤ wr.heap.size + 2) := by show _ ≤ _; have := HR.out.2.size; omega
      clear hp
      simp only at g1 g2 g3 HS
      go_wp2_with (at_builtin; refine wpList_append_own _ rfl (.tmp 13) (.tmp 19) 87 rfl w.heap.size 93 z0 (.agg #[.int .i64 0, .int .i64 0]) 2 16 Tryz.underlying87 hinf hz0 hz1 hz2 rfl (by decide) _ i _ rfl (HOW.out _ _) ⟨wr.heap.size + 1, 0, none⟩ 1 1 [.int .i64 x, .int .i64 y] rfl rfl (HPN.out _) (by intro u hu; simp at hu; rcases hu with rfl | rfl <;> rfl) (by unfold maxLen; omega) (by omega) (by have h1 := hsz.out; simp; omega) ?_; intro v' w7 hown' hgrow _; (have HO := Lib.hid hown'); (have HG := Lib.hid hgrow); clear hown' hgrow)
      go_roundw
      case rel =>
        refine ⟨i + 1, by omega, by go_num, ?_, bl_grown (bl_alloc (bl_alloc HR.out.2 _) _) HG.out HLO.out⟩
        rw [HS.out, rvs_append]
        exact HO.out
      case measure => simp [intOf]; omega
    · obtain rfl : i = n := by omega
      go_wp2_with fail
      go_ret
      have := HR.out.1
      rw [List.take_of_length_le (by rw [← HN.out]; exact Nat.le_refl _)] at this
      exact ⟨_, rfl, this, HR.out.2⟩
theorem count_ {w : World} {A B : Option Addr} {l : List Tri} (h : TR w B l) (ln ca c : Nat) (hl : l.length ≤ 65534) (hc : ∀ t ∈ l, t.2.1 ≤ 65534) :
    Calls Tryz.prog 42 #[.agg #[.slice A ln ca, .slice B l.length c]] w fun e w' => e = .returned (.int .i64 (sumR (runsOf l))) ∧ Below w.heap.size w w' := by
  have hu := Tryz.underlying82
  have HR : Hid (∀ {W : World}, Below w.heap.size w W → _) := fun {W} hb => runs_ (A := A) (h.below hb) ln ca c hl
  have HT : Hid (∀ {W : World} {D : Option Addr} (cd : Nat), RR W D (runsOf l) → Calls Tryz.prog 105 #[.slice D l.length cd] W fun e w' => e = .returned (.int .i64 (sumR (runsOf l))) ∧ Below W.heap.size W w') := fun {W} {D} cd hd => by
    have h9 := total_ hd cd (by simp [runsOf]; exact hl) (fun p hp => by
      simp only [runsOf, List.mem_map] at hp
      obtain ⟨t, ht, rfl⟩ := hp
      exact hc t ht)
    rw [show (runsOf l).length = l.length from by simp [runsOf]] at h9
    exact h9
  generalize sumR (runsOf l) = S at *
  generalize l.length = n at *
  clear h hc
  go_enter Tryz.func42, Tryz.ntmps42
  go_wp2_with fail
  refine (HR.out (bl_alloc (Below.refl _ _) _)).mono ?_
  rintro e w1 ⟨v, rfl, hown, hb⟩
  obtain ⟨D, cd, rfl⟩ := own_slice hown
  have HD := Lib.hid (own_rr hown).1
  have HB := Lib.hid (bl_then (bl_alloc (Below.refl _ _) _) hb)
  clear hown hb
  go_wp2_with fail
  refine (HT.out _ HD.out).mono ?_
  rintro e w2 ⟨rfl, hb2⟩
  have HB2 := Lib.hid (bl_then HB.out hb2)
  clear hb2
  go_wp2_with fail
  go_ret
  exact ⟨rfl, HB2.out⟩
end Go.Proofs.YtgnagbbdnlmgeaaGreat.Tr
end
section
set_option maxHeartbeats 2000000
set_option maxRecDepth 100000
namespace Go.Proofs.YtgnagbbdnlmgeaaGreat.Tr
open Go Go.RowKit
open Ob Ba Oc Pk Rr
def run1 (a : Int) (k : Nat) : List Int := (List.range k).map fun (j : Nat) => a + (j : Int)
theorem run1_len (a : Int) (k : Nat) : (run1 a k).length = k := by simp [run1]
theorem run1_snoc (a : Int) (k : Nat) : run1 a (k + 1) = run1 a k ++ [a + k] := by simp [run1, List.range_succ]
def blocksOf (l : List Tri) : List Int := l.flatMap fun t => run1 t.1 t.2.1.toNat
theorem blocksOf_snoc (l : List Tri) (t : Tri) : blocksOf (l ++ [t]) = blocksOf l ++ run1 t.1 t.2.1.toNat := by simp [blocksOf]
theorem info_int : (Tryz.prog.info? 3).map (fun i => (i.zero, i.size, i.bytes)) = some (some (.int .i64 0), 1, 8) := by kernel_rfl
theorem blocks_ {w : World} {A B : Option Addr} {l : List Tri} (h : TR w B l) (ln ca c : Nat) (hl : l.length ≤ 65534) (hc : ∀ t ∈ l, 0 ≤ t.1 ∧ t.1 ≤ 65534 ∧ 0 ≤ t.2.1 ∧ t.2.1 ≤ 65534) :
    Calls Tryz.prog 47 #[.agg #[.slice A ln ca, .slice B l.length c]] w fun e w' => ∃ v, e = .returned v ∧ w'.ownsRow w.heap.size 3 1 v (blocksOf l).length (ivs .i64 (blocksOf l)) ∧ Below w.heap.size w w' := by
  have hu := Tryz.underlying82
  have hu2 := Tryz.underlying51
  obtain ⟨z0, hinf, hz0, hz1, hz2⟩ := info_parts info_int
  have H := Lib.hid h
  have HC := Lib.hid hc
  obtain ⟨n, hn⟩ : ∃ n, n = l.length := ⟨_, rfl⟩
  rw [← hn] at hl
  rw [← hn]
  have HN := Lib.hid hn
  clear h hn hc
  go_enter Tryz.func47, Tryz.ntmps47
  go_wp2_with fail
  go_loopw [10, 3] (fun c10 c3 wr => ∃ i d : Nat, i ≤ n ∧ d ≤ 65534 * i ∧ c10 = .int .i64 i ∧ Hid ((blocksOf (l.take i)).length = d ∧ wr.ownsRow w.heap.size 3 1 c3 d (ivs .i64 (blocksOf (l.take i))) ∧ Below w.heap.size w wr)) (fun c10 _ _ => n - (intOf c10).toNat)
  case atStart => exact ⟨0, 0, Nat.zero_le _, Nat.zero_le _, rfl, rfl, own_nil0 _ _ _ _, bl_alloc (Below.refl _ _) _⟩
  case round =>
    obtain ⟨i, d, hi, hd, rfl, HR⟩ := hrel
    by_cases hlt : i < n
    · obtain ⟨p, hp⟩ := some_at (l := l) (i := i) (by rw [← HN.out]; exact hlt)
      obtain ⟨g, off, rfl, -, g1, g2, g3⟩ := (H.out.below HR.out.2.2) i p hp
      have hpc := HC.out p (List.mem_of_getElem? hp)
      have HS : Hid (blocksOf (l.take (i + 1)) = blocksOf (l.take i) ++ run1 p.1 p.2.1.toNat) := by show _ = _; rw [take_next hp, blocksOf_snoc]
      obtain ⟨x, y, z⟩ := p
      simp only at g1 g2 g3 HS hpc
      obtain ⟨hx0, hx1, hy0, hy1⟩ := hpc
      obtain ⟨k, rfl⟩ : ∃ k : Nat, y = k := ⟨y.toNat, by omega⟩
      rw [Int.toNat_natCast] at HS
      have HA5 : Hid ((wr.alloc (.cells #[.int .i64 x, .int .i64 k, .int .i64 z] 51)).heap[wr.heap.size]? = some (.cells #[.int .i64 x, .int .i64 k, .int .i64 z] 51 (0, 0))) := alloc_new _ _
      have HW5 : Hid (Below wr.heap.size wr (wr.alloc (.cells #[.int .i64 x, .int .i64 k, .int .i64 z] 51))) := bl_alloc (Below.refl _ _) _
      clear hp
      generalize wr = wA at *
      go_wp2_with fail
      go_loopw [6, 3] (fun cb c3 wq => ∃ j : Nat, j ≤ k ∧ cb = .int .i64 (x + (j : Int)) ∧ Hid (wq.ownsRow w.heap.size 3 1 c3 (d + j) (ivs .i64 (blocksOf (l.take i) ++ run1 x j)) ∧ Below w.heap.size w wq ∧ wq.heap[wA.heap.size]? = some (.cells #[.int .i64 x, .int .i64 k, .int .i64 z] 51 (0, 0)))) (fun cb _ _ => x.toNat + k - (intOf cb).toNat)
      case atStart =>
        refine ⟨0, Nat.zero_le _, by simp, ?_, bl_then HR.out.2.2 HW5.out, HA5.out⟩
        · have := own_bl HR.out.2.1 HW5.out
          simpa [run1] using this
      case round =>
        obtain ⟨j, hj, rfl, HQ⟩ := hrel
        have hq := HQ.out.2.2
        have k0 := cell_of hq 0
        have k1 := cell_of hq 1
        clear hq
        by_cases hjk : j < k
        · have HOW := Lib.hid (fun o => own_kp (W' := wr.alloc o) HQ.out.1 (fun k _ hk => Below.heap_alloc _ _ k hk))
          have HLO := Lib.hid (own_lo HQ.out.1)
          have hsz : Hid (w.heap.size ≤ wr.heap.size + 1) := by show _ ≤ _; have := HQ.out.2.1.size; omega
          have HNE : Hid (∀ b, Value.ownBlock u3 = some b → b ≠ wA.heap.size) := by
            intro b hb e
            subst e
            obtain ⟨cur, hcur⟩ := Bm.own_blk' HQ.out.1 hb
            rw [HQ.out.2.2] at hcur
            simp at hcur
          have HAL : Hid (wA.heap.size < wr.heap.size) := lt_of HQ.out.2.2
          go_wp2_with (at_builtin; refine wpList_append_own _ rfl (.tmp 25) (.tmp 27) 79 rfl w.heap.size 3 z0 (.int .i64 0) 1 8 Tryz.underlying79 hinf hz0 hz1 hz2 rfl (by decide) _ (d + j) _ rfl (HOW.out _) ⟨wr.heap.size, 0, none⟩ 1 1 [.int .i64 (x + (j : Int))] rfl rfl (one_at _ _ _) (by intro u hu; simp at hu; subst hu; rfl) (by unfold maxLen; omega) (by omega) (by have h1 := hsz.out; simp; omega) ?_; intro v' w7 hown' hgrow _; (have HO := Lib.hid hown'); (have HG := Lib.hid hgrow); clear hown' hgrow)
          go_roundw
          case rel =>
            refine ⟨j + 1, by omega, by go_num, ?_, bl_grown (bl_alloc HQ.out.2.1 _) HG.out HLO.out, ?_⟩
            · rw [run1_snoc, ← List.append_assoc, ivs_append]
              exact HO.out
            · have hb := HG.out.block wA.heap.size (by have := HAL.out; simp; omega) (fun e => HNE.out _ e.symm rfl)
              exact hb.trans (alloc_old HQ.out.2.2 _)
          case measure => simp [intOf]; omega
        · obtain rfl : j = k := by omega
          go_wp2_with fail
          go_roundw
          case rel =>
            refine ⟨i + 1, d + j, by omega, by omega, by go_num, ?_, ?_, HQ.out.2.1⟩
            · rw [HS.out, List.length_append, run1_len, HR.out.1]
            · rw [HS.out]; exact HQ.out.1
          case measure => simp [intOf]; omega
    · obtain rfl : i = n := by omega
      go_wp2_with fail
      go_ret
      obtain ⟨h1, h2, h3⟩ := HR.out
      rw [List.take_of_length_le (by rw [← HN.out]; exact Nat.le_refl _)] at h1 h2
      rw [h1]
      exact ⟨_, rfl, h2, h3⟩
theorem rblocks_ {w : World} {A B : Option Addr} {l : List Tri} (h : TR w B l) (ln ca c : Nat) (hl : l.length ≤ 65534) (hc : ∀ t ∈ l, 0 ≤ t.1 ∧ t.1 ≤ 65534 ∧ 0 ≤ t.2.1 ∧ t.2.1 ≤ 65534) :
    Calls Tryz.prog 45 #[.agg #[.slice A ln ca, .slice B l.length c]] w fun e w' => ∃ v, e = .returned v ∧ w'.ownsRow w.heap.size 3 1 v (blocksOf l).length (ivs .i64 (blocksOf l)) ∧ Below w.heap.size w w' := by
  have hu := Tryz.underlying100
  have hu2 := Tryz.underlying54
  obtain ⟨z0, hinf, hz0, hz1, hz2⟩ := info_parts info_int
  have H := Lib.hid h
  have HC := Lib.hid hc
  obtain ⟨n, hn⟩ : ∃ n, n = l.length := ⟨_, rfl⟩
  rw [← hn] at hl
  rw [← hn]
  have HN := Lib.hid hn
  clear h hn hc
  go_enter Tryz.func45, Tryz.ntmps45
  go_wp2_with fail
  go_loopw [10, 3] (fun c10 c3 wr => ∃ i d : Nat, i ≤ n ∧ d ≤ 65534 * i ∧ c10 = .int .i64 i ∧ Hid ((blocksOf (l.take i)).length = d ∧ wr.ownsRow w.heap.size 3 1 c3 d (ivs .i64 (blocksOf (l.take i))) ∧ Below w.heap.size w wr)) (fun c10 _ _ => n - (intOf c10).toNat)
  case atStart => exact ⟨0, 0, Nat.zero_le _, Nat.zero_le _, rfl, rfl, own_nil0 _ _ _ _, bl_alloc (Below.refl _ _) _⟩
  case round =>
    obtain ⟨i, d, hi, hd, rfl, HR⟩ := hrel
    by_cases hlt : i < n
    · obtain ⟨p, hp⟩ := some_at (l := l) (i := i) (by rw [← HN.out]; exact hlt)
      obtain ⟨g, off, rfl, -, g1, g2, g3⟩ := (H.out.below HR.out.2.2) i p hp
      have hpc := HC.out p (List.mem_of_getElem? hp)
      have HS : Hid (blocksOf (l.take (i + 1)) = blocksOf (l.take i) ++ run1 p.1 p.2.1.toNat) := by show _ = _; rw [take_next hp, blocksOf_snoc]
      obtain ⟨x, y, z⟩ := p
      simp only at g1 g2 g3 HS hpc
      obtain ⟨hx0, hx1, hy0, hy1⟩ := hpc
      obtain ⟨k, rfl⟩ : ∃ k : Nat, y = k := ⟨y.toNat, by omega⟩
      rw [Int.toNat_natCast] at HS
      have HA5 : Hid ((wr.alloc (.cells #[.int .i64 x, .int .i64 k, .int .i64 z] 54)).heap[wr.heap.size]? = some (.cells #[.int .i64 x, .int .i64 k, .int .i64 z] 54 (0, 0))) := alloc_new _ _
      have HW5 : Hid (Below wr.heap.size wr (wr.alloc (.cells #[.int .i64 x, .int .i64 k, .int .i64 z] 54))) := bl_alloc (Below.refl _ _) _
      clear hp
      generalize wr = wA at *
      go_wp2_with fail
      go_loopw [16, 3] (fun cb c3 wq => ∃ j : Nat, j ≤ k ∧ cb = .int .i64 ((j : Int)) ∧ Hid (wq.ownsRow w.heap.size 3 1 c3 (d + j) (ivs .i64 (blocksOf (l.take i) ++ run1 x j)) ∧ Below w.heap.size w wq ∧ wq.heap[wA.heap.size]? = some (.cells #[.int .i64 x, .int .i64 k, .int .i64 z] 54 (0, 0)))) (fun cb _ _ => 0 + k - (intOf cb).toNat)
      case atStart =>
        refine ⟨0, Nat.zero_le _, by simp, ?_, bl_then HR.out.2.2 HW5.out, HA5.out⟩
        · have := own_bl HR.out.2.1 HW5.out
          simpa [run1] using this
      case round =>
        obtain ⟨j, hj, rfl, HQ⟩ := hrel
        have hq := HQ.out.2.2
        have k0 := cell_of hq 0
        have k1 := cell_of hq 1
        clear hq
        by_cases hjk : j < k
        · have HOW := Lib.hid (fun o => own_kp (W' := wr.alloc o) HQ.out.1 (fun k _ hk => Below.heap_alloc _ _ k hk))
          have HLO := Lib.hid (own_lo HQ.out.1)
          have hsz : Hid (w.heap.size ≤ wr.heap.size + 1) := by show _ ≤ _; have := HQ.out.2.1.size; omega
          have HNE : Hid (∀ b, Value.ownBlock u3 = some b → b ≠ wA.heap.size) := by
            intro b hb e
            subst e
            obtain ⟨cur, hcur⟩ := Bm.own_blk' HQ.out.1 hb
            rw [HQ.out.2.2] at hcur
            simp at hcur
          have HAL : Hid (wA.heap.size < wr.heap.size) := lt_of HQ.out.2.2
          go_wp2_with (at_builtin; refine wpList_append_own _ rfl (.tmp 19) (.tmp 24) 79 rfl w.heap.size 3 z0 (.int .i64 0) 1 8 Tryz.underlying79 hinf hz0 hz1 hz2 rfl (by decide) _ (d + j) _ rfl (HOW.out _) ⟨wr.heap.size, 0, none⟩ 1 1 [.int .i64 (x + (j : Int))] rfl rfl (one_at _ _ _) (by intro u hu; simp at hu; subst hu; rfl) (by unfold maxLen; omega) (by omega) (by have h1 := hsz.out; simp; omega) ?_; intro v' w7 hown' hgrow _; (have HO := Lib.hid hown'); (have HG := Lib.hid hgrow); clear hown' hgrow)
          go_roundw
          case rel =>
            refine ⟨j + 1, by omega, by go_num, ?_, bl_grown (bl_alloc HQ.out.2.1 _) HG.out HLO.out, ?_⟩
            · rw [run1_snoc, ← List.append_assoc, ivs_append]
              exact HO.out
            · have hb := HG.out.block wA.heap.size (by have := HAL.out; simp; omega) (fun e => HNE.out _ e.symm rfl)
              exact hb.trans (alloc_old HQ.out.2.2 _)
          case measure => simp [intOf]; omega
        · obtain rfl : j = k := by omega
          go_wp2_with fail
          go_roundw
          case rel =>
            refine ⟨i + 1, d + j, by omega, by omega, by go_num, ?_, ?_, HQ.out.2.1⟩
            · rw [HS.out, List.length_append, run1_len, HR.out.1]
            · rw [HS.out]; exact HQ.out.1
          case measure => simp [intOf]; omega
    · obtain rfl : i = n := by omega
      go_wp2_with fail
      go_ret
      obtain ⟨h1, h2, h3⟩ := HR.out
      rw [List.take_of_length_le (by rw [← HN.out]; exact Nat.le_refl _)] at h1 h2
      rw [h1]
      exact ⟨_, rfl, h2, h3⟩
end Go.Proofs.YtgnagbbdnlmgeaaGreat.Tr
end
section
set_option maxHeartbeats 2000000
set_option maxRecDepth 100000
namespace Go.Proofs.YtgnagbbdnlmgeaaGreat.Tr
open Go Go.RowKit
open Ob Ba Oc Pk
theorem in_ {w : World} {A : Option Addr} {l : List Int} (h : Rk .i64 w A l) (c : Nat) (hl : l.length ≤ 1000000000) (x : Int) :
    Calls Tryz.prog 106 #[.slice A l.length c, .int .i64 x] w fun e w' => e = .returned (.bool (decide (x ∈ l))) ∧ w' = w := by
  have H := Lib.hid h
  obtain ⟨n, hn⟩ : ∃ n, n = l.length := ⟨_, rfl⟩
  rw [← hn] at hl
  rw [← hn]
  have HN := Lib.hid hn
  have fin : ∀ b : Bool, (b = true ↔ x ∈ l) → (Ending.returned (.bool b) = .returned (.bool (decide (x ∈ l)))) := fun b hb => by
    congr 2
    cases b with
    | true => exact (decide_eq_true (hb.1 rfl)).symm
    | false => exact (decide_eq_false (fun h => by cases hb.2 h)).symm
  have FIN := Lib.hid fin
  clear h hn fin
  go_enter Tryz.func106, Tryz.ntmps106
  go_wp2_with fail
  go_loop [9] (fun c9 => ∃ i : Nat, i ≤ n ∧ c9 = .int .i64 i ∧ Hid (x ∉ l.take i)) (fun c9 => n - (intOf c9).toNat)
  case atStart => exact ⟨0, Nat.zero_le _, rfl, by show _ ∉ _; simp⟩
  case round =>
    obtain ⟨i, hi, rfl, HR⟩ := hrel
    by_cases hlt : i < n
    · obtain ⟨y, hy⟩ := some_at (l := l) (i := i) (by rw [← HN.out]; exact hlt)
      obtain ⟨a, rfl, -, ha⟩ := H.out i y hy
      have HY := Lib.hid hy
      clear hy
      by_cases hxy : x = y
      · have e1 : (x == y) = true := beq_iff_eq.2 hxy
        have HM : Hid (x ∈ l) := by show _ ∈ _; rw [hxy]; exact List.mem_of_getElem? HY.out
        clear hxy
        go_wp2_with fail
        go_ret
        exact ⟨FIN.out true ⟨fun _ => HM.out, fun _ => rfl⟩, rfl⟩
      · have e1 : (x == y) = false := beq_eq_false_iff_ne.2 hxy
        have HM : Hid (x ∉ l.take (i + 1)) := by
          show _ ∉ _
          rw [take_next HY.out]
          simp only [List.mem_append, List.mem_singleton, not_or]
          exact ⟨HR.out, hxy⟩
        clear hxy
        go_wp2_with fail
        go_round
        case rel => exact ⟨i + 1, by omega, by go_num, HM⟩
        case measure => simp [intOf]; omega
    · obtain rfl : i = n := by omega
      have HM : Hid (x ∉ l) := by
        have := HR.out
        rw [List.take_of_length_le (by rw [← HN.out]; exact Nat.le_refl _)] at this
        exact this
      go_wp2_with fail
      go_ret
      exact ⟨FIN.out false ⟨fun h => (by cases h), fun h => absurd h HM.out⟩, rfl⟩
theorem rsame_ {w : World} {A B : Option Addr} {l m : List Int} (h : Rk .i64 w A l) (k : Rk .i64 w B m) (c1 c2 : Nat) (hl : l.length ≤ 9223372036854775807) (hm : m.length ≤ 9223372036854775807) :
    Calls Tryz.prog 35 #[.slice A l.length c1, .slice B m.length c2] w fun e w' => e = .returned (.bool (decide (l = m))) ∧ ∃ n, w' = w.drewN n := by
  have H := Lib.hid h
  have K := Lib.hid k
  clear h k
  by_cases he : l.length = m.length
  · obtain ⟨n, hn⟩ : ∃ n, n = l.length := ⟨_, rfl⟩
    rw [← he, ← hn]
    rw [← hn] at hl
    have HN : Hid (n = l.length ∧ n = m.length) := ⟨hn, by rw [hn, he]⟩
    clear hn he hm
    go_enter Tryz.func35, Tryz.ntmps35
    go_wp2_with fail
    go_loopw [13] (fun c13 wr => ∃ i : Nat, i ≤ n ∧ c13 = .int .i64 i ∧ ∃ q, Hid (wr = w.drewN q ∧ l.take i = m.take i)) (fun c13 _ => n - (intOf c13).toNat)
    case atStart => exact ⟨0, Nat.zero_le _, rfl, 0, rfl, rfl⟩
    case round =>
      obtain ⟨i, hi, rfl, q, HR⟩ := hrel
      by_cases hlt : i < n
      · obtain ⟨x, hx⟩ : ∃ x, l[i]? = some x := ⟨_, List.getElem?_eq_getElem (by rw [← HN.out.1]; exact hlt)⟩
        obtain ⟨y, hy⟩ : ∃ y, m[i]? = some y := ⟨_, List.getElem?_eq_getElem (by rw [← HN.out.2]; exact hlt)⟩
        have hl2 : Rk .i64 wr A l := by rw [HR.out.1]; exact Iq.rk_drewN H.out q
        have hm2 : Rk .i64 wr B m := by rw [HR.out.1]; exact Iq.rk_drewN K.out q
        obtain ⟨a, rfl, -, ha⟩ := hl2 i x hx
        obtain ⟨b, rfl, -, hb⟩ := hm2 i y hy
        have HX := Lib.hid (And.intro hx hy)
        clear hx hy hl2 hm2
        by_cases hxy : x = y
        · have e1 : (x != y) = false := by simp [hxy]
          have EX := Lib.hid hxy
          clear hxy
          go_wp2
          go_quiet (fail)
          go_wp2
          go_roundw
          case rel => exact ⟨i + 1, by omega, by go_num, q + nq, by show _ ∧ _; rw [HR.out.1]; exact ⟨Pm.drewN_two _ _ _, Pm.eq_step HX.out.1 HX.out.2 HR.out.2 EX.out⟩⟩
          case measure => simp [intOf]; omega
        · have e1 : (x != y) = true := bne_iff_ne.2 hxy
          have EX := Lib.hid hxy
          clear hxy
          go_wp2
          go_quiet (fail)
          go_wp2
          go_ret
          have hd : decide (l = m) = false := by
            apply decide_eq_false
            rintro rfl
            have := HX.out.1.symm.trans HX.out.2
            simp at this
            exact EX.out this
          rw [hd]
          exact ⟨rfl, _, by rw [HR.out.1]; exact Pm.drewN_two _ _ _⟩
      · obtain rfl : i = n := by omega
        go_wp2
        go_ret
        have hd : decide (l = m) = true := by
          apply decide_eq_true
          have h1 := HR.out.2
          rw [List.take_of_length_le (by rw [← HN.out.1]; omega), List.take_of_length_le (by rw [← HN.out.2]; omega)] at h1
          exact h1
        rw [hd]
        exact ⟨rfl, q, HR.out.1⟩
  · have hd : decide (l = m) = false := by
      apply decide_eq_false
      intro e
      exact he (by rw [e])
    rw [hd]
    have e1 : ((l.length : Int) != (m.length : Int)) = true := by rw [bne_iff_ne]; omega
    clear hd he
    generalize l.length = x at *
    generalize m.length = y at *
    go_enter Tryz.func35, Tryz.ntmps35
    go_wp2
    go_ret
    exact ⟨rfl, 0, rfl⟩
end Go.Proofs.YtgnagbbdnlmgeaaGreat.Tr
end
