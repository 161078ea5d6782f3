/- Parts of the proof, one behind the other: Eu, Ev, Ya. -/
import Derived.Test.YtgnagbbdnlmgeaaGreatL19
import Derived.Test.YtgnagbbdnlmgeaaGreatL13
import Derived.Test.YtgnagbbdnlmgeaaGreatL14
import Derived.Test.YtgnagbbdnlmgeaaGreatL18
set_option linter.unusedVariables false
set_option linter.unusedSimpArgs false
set_option linter.unusedSectionVars false
section
set_option maxHeartbeats 4000000
set_option maxRecDepth 100000
namespace Go.Proofs.YtgnagbbdnlmgeaaGreat.Cm
open Go Go.RowKit
open Rr Ob Ba Ko Ge Oc Pk Su Rf Dv Vo Ra Jh Tr Iq Bm In Je Lo
def cvs (l : List Own) : List Value := l.flatMap fun p => [.slice p.sa p.L.length p.sc, .slice p.pa p.L.length p.pc]
theorem cvs_length (l : List Own) : (cvs l).length = l.length * 2 := by
  induction l with
  | nil => rfl
  | cons a r ih => simp [cvs] at ih ⊢; omega
theorem cvs_append (a b : List Own) : cvs (a ++ b) = cvs a ++ cvs b := by simp [cvs]
theorem cvs_get {l : List Own} {i : Nat} {p : Own} (h : l[i]? = some p) : (cvs l)[i * 2]? = some (.slice p.sa p.L.length p.sc) ∧ (cvs l)[i * 2 + 1]? = some (.slice p.pa p.L.length p.pc) := by
  induction l generalizing i with
  | nil => simp at h
  | cons a r ih =>
    have e : cvs (a :: r) = .slice a.sa a.L.length a.sc :: .slice a.pa a.L.length a.pc :: cvs r := rfl
    cases i with
    | zero => simp at h; subst h; exact ⟨rfl, rfl⟩
    | succ j =>
      obtain ⟨h1, h2⟩ := ih (i := j) (by simpa using h)
      rw [e, show (j + 1) * 2 = j * 2 + 2 by omega]
      exact ⟨h1, h2⟩
def PR (w : World) (A : Option Addr) (l : List Own) : Prop := ∀ (i : Nat) p, l[i]? = some p → ∃ q off, A = some ⟨q, off, none⟩ ∧ q < w.heap.size ∧ w.cell? ⟨q, off + i * 2, none⟩ = some (.slice p.sa p.L.length p.sc) ∧ w.cell? ⟨q, off + i * 2 + 1, none⟩ = some (.slice p.pa p.L.length p.pc)
theorem PR.below {w w' : World} {A : Option Addr} {l : List Own} (h : PR w A l) (hb : Below w.heap.size w w') : PR w' A l := by
  intro i p hi
  obtain ⟨q, off, rfl, h0, h1, h2⟩ := h i p hi
  exact ⟨q, off, rfl, Nat.lt_of_lt_of_le h0 hb.size, (hb.cell (p := ⟨q, _, none⟩) h0).trans h1, (hb.cell (p := ⟨q, _, none⟩) h0).trans h2⟩
theorem own_pr {w : World} {B T n : Nat} {A : Option Addr} {c : Nat} {l : List Own} (h : w.ownsRow B T 2 (.slice A n c) n (cvs l)) : PR w A l := by
  obtain ⟨h1, ⟨h2, h3⟩ | ⟨g, cap, cur, hv, hg, hb, hn, hm, hs, ht⟩⟩ := h
  · intro i p hi
    have hl : (cvs l).length = 0 := by simp only [Value.slice.injEq] at h2; omega
    rw [cvs_length] at hl
    have : l = [] := by cases l with | nil => rfl | cons a r => simp at hl
    subst this
    simp at hi
  · intro i p hi
    simp only [Value.slice.injEq] at hv
    obtain ⟨rfl, -, -⟩ := hv
    obtain ⟨g1, g2⟩ := cvs_get hi
    have key : ∀ {j : Nat} {v : Value}, (cvs l)[j]? = some v → w.cell? ⟨g, 0 + j, none⟩ = some v := fun {j} {v} hj => by
      rw [cell_of hb, Nat.zero_add]
      rw [← ht, List.getElem?_take] at hj
      split at hj
      · simpa using hj
      · cases hj
    exact ⟨g, 0, rfl, lt_of hb, key g1, key g2⟩
def Own.tri (e : Own) : Tri := (e.k, e.h, e.z)
structure Dm (W : World) (IA CA : Option Addr) (ds : List Own) : Prop where
  inos : TR W IA (ds.map Own.tri)
  chs : PR W CA ds
  each : ∀ e ∈ ds, Rk .i64 W e.sa (e.L.map Prod.fst) ∧ TR W e.pa (e.L.map Prod.snd)
theorem Dm.keep {W W' : World} {IA CA : Option Addr} {ds : List Own} (h : Dm W IA CA ds) (hb : Below W.heap.size W W') : Dm W' IA CA ds := ⟨h.inos.below hb, h.chs.below hb, fun e he => ⟨(h.each e he).1.below hb, (h.each e he).2.below hb⟩⟩
def slD : List Dat → Int → Bool
  | [], _ => false
  | d :: r, x => decide (x ∈ d.2.map Prod.fst) || slD r x
theorem r17slot_ {W : World} {IA CA : Option Addr} {ds : List Own} (h : Dm W IA CA ds) (hl : ds.length ≤ 65534) (hall : ∀ e ∈ ds, e.L.length ≤ 65534) (n : Int) (il ic cc : Nat) (x : Int) :
    Calls Tryz.prog 65 #[.agg #[.int .i64 n, .slice IA il ic, .slice CA ds.length cc], .int .i64 x] W fun e w' => e = .returned (.bool (slD (ds.map Own.dat) x)) ∧ Below W.heap.size W w' := by
  have hu := Tryz.underlying125
  have hu2 := Tryz.underlying100
  have H := Lib.hid h.chs
  have HE := Lib.hid h.each
  have HA := Lib.hid hall
  obtain ⟨m, hm⟩ : ∃ m, m = ds.length := ⟨_, rfl⟩
  rw [← hm] at hl
  rw [← hm]
  have HN := Lib.hid hm
  obtain ⟨R, hR⟩ : ∃ R, R = slD (ds.map Own.dat) x := ⟨_, rfl⟩
  rw [← hR]
  have HR0 : Hid (R = slD ((ds.drop 0).map Own.dat) x) := hR
  clear h hm hR hall
  go_enter Tryz.func65, Tryz.ntmps65
  go_wp2_with fail
  go_loopw [10] (fun c10 wr => ∃ i : Nat, i ≤ m ∧ c10 = .int .i64 i ∧ Hid (R = slD ((ds.drop i).map Own.dat) x ∧ Below W.heap.size W wr)) (fun c10 _ => m - (intOf c10).toNat)
  case atStart => exact ⟨0, Nat.zero_le _, rfl, HR0.out, bl_alloc (Below.refl _ _) _⟩
  case round =>
    obtain ⟨i, hi, rfl, HR⟩ := hrel
    by_cases hlt : i < m
    · obtain ⟨p, hp⟩ := some_at (l := ds) (i := i) (by rw [← HN.out]; exact hlt)
      obtain ⟨g, off, rfl, -, a1, a2⟩ := (H.out.below HR.out.2) i p hp
      have hdr : ds.drop i = p :: ds.drop (i + 1) := by
        obtain ⟨h1, h2⟩ := List.getElem?_eq_some_iff.1 hp
        rw [List.drop_eq_getElem_cons h1, h2]
      have HD : Hid (R = (decide (x ∈ p.L.map Prod.fst) || slD ((ds.drop (i + 1)).map Own.dat) x)) := by
        show _ = _
        rw [HR.out.1, hdr]
        rfl
      have hpm := List.mem_of_getElem? hp
      have HBW : Hid (Below W.heap.size W (wr.alloc (.cells #[.slice p.sa p.L.length p.sc, .slice p.pa p.L.length p.pc] 100))) := bl_alloc HR.out.2 _
      have hC := rhas_ ((HE.out p hpm).1.below HBW.out) p.sc (by rw [List.length_map]; have := HA.out p hpm; omega) x
      rw [List.length_map] at hC
      have HC := Lib.hid hC
      obtain ⟨k, h, z, sa, sc, pa, pc, L⟩ := p
      simp only at a1 a2 HC HD HBW
      clear hp hdr hpm hC
      generalize decide (x ∈ L.map Prod.fst) = bb at *
      generalize L.length = ll at *
      go_wp2_with fail
      refine HC.out.mono ?_
      rintro e w2 ⟨rfl, hw2⟩
      have HB2 : Hid (Below W.heap.size W w2) := by rw [hw2]; exact HBW.out
      clear hw2
      cases bb with
      | true =>
        go_wp2_with fail
        go_ret
        exact ⟨by rw [HD.out]; rfl, HB2.out⟩
      | false =>
        go_wp2_with fail
        go_roundw
        case rel => exact ⟨i + 1, by omega, by go_num, HD.out, HB2.out⟩
        case measure => simp [intOf]; omega
    · obtain rfl : i = m := by omega
      have HD : Hid (R = false) := by
        show _ = _
        rw [HR.out.1, List.drop_of_length_le (by rw [← HN.out]; exact Nat.le_refl _)]
        rfl
      go_wp2_with fail
      go_ret
      exact ⟨by rw [HD.out]; rfl, HR.out.2⟩
theorem r17owner_ {W : World} {IA CA : Option Addr} {ds : List Own} (h : Dm W IA CA ds) (hl : ds.length ≤ 65534)
    (hall : ∀ e ∈ ds, e.L.length ≤ 65534 ∧ ∀ t ∈ e.L.map Prod.snd, 0 ≤ t.1 ∧ t.1 ≤ 65534 ∧ 0 ≤ t.2.1 ∧ t.2.1 ≤ 65534) (hbl : ∀ e ∈ ds, (blocksOf (e.L.map Prod.snd)).length ≤ 1000000000) (n : Int) (il ic cc : Nat) (b : Int) :
    Calls Tryz.prog 121 #[.agg #[.int .i64 n, .slice IA il ic, .slice CA ds.length cc], .int .i64 b] W fun e w' => e = .returned (.tuple #[.int .i64 (owD (ds.map Own.dat) b 0).1, .int .i64 (owD (ds.map Own.dat) b 0).2]) ∧ Below W.heap.size W w' := by
  have hu := Tryz.underlying125
  have hu2 := Tryz.underlying100
  have H := Lib.hid h.chs
  have HBK : Hid (∀ {W' : World} (p : Own), p ∈ ds → Below W.heap.size W W' → Calls Tryz.prog 45 #[.agg #[.slice p.sa p.L.length p.sc, .slice p.pa p.L.length p.pc]] W' fun e w' => ∃ A c, e = .returned (.slice A (blocksOf (p.L.map Prod.snd)).length c) ∧ Rk .i64 w' A (blocksOf (p.L.map Prod.snd)) ∧ Below W'.heap.size W' w') := fun {W'} p hp hb => by
    have h9 := rblocks_ (A := p.sa) ((h.each p hp).2.below hb) p.L.length p.sc p.pc (by rw [List.length_map]; exact (hall p hp).1) (hall p hp).2
    rw [List.length_map] at h9
    refine h9.mono ?_
    rintro e w' ⟨v', rfl, ho, hb'⟩
    obtain ⟨A, c, rfl⟩ := own_slice ho
    exact ⟨A, c, rfl, (own_rk (k := .i64) ho).1, hb'⟩
  have HBL := Lib.hid hbl
  obtain ⟨m, hm⟩ : ∃ m, m = ds.length := ⟨_, rfl⟩
  rw [← hm] at hl
  rw [← hm]
  have HN := Lib.hid hm
  obtain ⟨R, hR⟩ : ∃ R, R = owD (ds.map Own.dat) b 0 := ⟨_, rfl⟩
  rw [← hR]
  have HR0 : Hid (R = owD ((ds.drop 0).map Own.dat) b 0) := hR
  clear h hm hR hall hbl
  go_enter Tryz.func121, Tryz.ntmps121
  go_wp2_with fail
  go_loopw [13] (fun c13 wr => ∃ i : Nat, i ≤ m ∧ c13 = .int .i64 i ∧ Hid (R = owD ((ds.drop i).map Own.dat) b i ∧ Below W.heap.size W wr)) (fun c13 _ => m - (intOf c13).toNat)
  case atStart => exact ⟨0, Nat.zero_le _, rfl, HR0.out, bl_alloc (Below.refl _ _) _⟩
  case round =>
    obtain ⟨i, hi, rfl, HR⟩ := hrel
    generalize wr = wA at *
    by_cases hlt : i < m
    · obtain ⟨p, hp⟩ := some_at (l := ds) (i := i) (by rw [← HN.out]; exact hlt)
      obtain ⟨g, off, rfl, -, a1, a2⟩ := (H.out.below HR.out.2) i p hp
      have hdr : ds.drop i = p :: ds.drop (i + 1) := by
        obtain ⟨h1, h2⟩ := List.getElem?_eq_some_iff.1 hp
        rw [List.drop_eq_getElem_cons h1, h2]
      obtain ⟨x, hx⟩ : ∃ x, x = ixI (blocksOf (p.L.map Prod.snd)) b 0 := ⟨_, rfl⟩
      have HD : Hid (R = if 0 ≤ x then ((i : Int), x) else owD ((ds.drop (i + 1)).map Own.dat) b (i + 1)) := by
        show _ = _
        rw [HR.out.1, hdr, hx]
        rfl
      have HBW : Hid (Below W.heap.size W (wA.alloc (.cells #[.slice p.sa p.L.length p.sc, .slice p.pa p.L.length p.pc] 100))) := bl_alloc HR.out.2 _
      have HC := Lib.hid (HBK.out p (List.mem_of_getElem? hp) HBW.out)
      have HL := Lib.hid (HBL.out p (List.mem_of_getElem? hp))
      obtain ⟨k, h, z, sa, sc, pa, pc, L⟩ := p
      simp only at a1 a2 HC HD HBW HL hx
      clear hp hdr
      generalize blocksOf (L.map Prod.snd) = bl at *
      generalize L.length = ll at *
      have HX : Hid (x = ixI (bl.drop 0) b 0) := hx
      clear hx
      go_wp2_with fail
      refine HC.out.mono ?_
      rintro e w2 ⟨A2, c2', rfl, hr2, hb2⟩
      have HB2 := Lib.hid (bl_then HBW.out hb2)
      have HR2 := Lib.hid hr2
      have hbl9 := HL.out
      obtain ⟨bn, hbn⟩ : ∃ bn, bn = bl.length := ⟨_, rfl⟩
      rw [← hbn] at hbl9
      rw [← hbn]
      have HBN := Lib.hid hbn
      clear hb2 hr2 hbn
      go_wp2_with fail
      go_loopw [21] (fun c21 wr => ∃ j : Nat, j ≤ bn ∧ c21 = .int .i64 j ∧ Hid (x = ixI (bl.drop j) b j ∧ Below w2.heap.size w2 wr)) (fun c21 _ => bn - (intOf c21).toNat)
      case atStart => exact ⟨0, Nat.zero_le _, rfl, HX.out, Below.refl _ _⟩
      case round =>
        obtain ⟨j, hj, rfl, HJ⟩ := hrel
        by_cases hjl : j < bn
        · obtain ⟨y, hy⟩ := some_at (l := bl) (i := j) (by rw [← HBN.out]; exact hjl)
          obtain ⟨a, rfl, -, ha⟩ := (HR2.out.below HJ.out.2) j y hy
          have hdr : bl.drop j = y :: bl.drop (j + 1) := by
            obtain ⟨h1, h2⟩ := List.getElem?_eq_some_iff.1 hy
            rw [List.drop_eq_getElem_cons h1, h2]
          have HDJ : Hid (x = if b = y then (j : Int) else ixI (bl.drop (j + 1)) b (j + 1)) := by
            show _ = _
            rw [HJ.out.1, hdr]
            rfl
          clear hy hdr
          by_cases hk : b = y
          · have e1 : (y == b) = true := beq_iff_eq.2 hk.symm
            rw [if_pos hk] at HDJ
            clear hk
            go_wp2_with fail
            go_ret2
            have hxj := HDJ.out
            have hd := HD.out
            rw [if_pos (by omega), hxj] at hd
            exact ⟨by rw [hd]; rfl, bl_then HB2.out HJ.out.2⟩
          · have e1 : (y == b) = false := beq_eq_false_iff_ne.2 (fun h => hk h.symm)
            rw [if_neg hk] at HDJ
            clear hk
            go_wp2_with fail
            go_roundw
            case rel => exact ⟨j + 1, by omega, by go_num, HDJ.out, HJ.out.2⟩
            case measure => simp [intOf]; omega
        · obtain rfl : j = bn := by omega
          have HX2 : Hid (x = -1) := by
            show _ = _
            rw [HJ.out.1, List.drop_of_length_le (by rw [← HBN.out]; exact Nat.le_refl _)]
            rfl
          have HD2 : Hid (R = owD ((ds.drop (i + 1)).map Own.dat) b (i + 1)) := by
            have hd := HD.out
            rw [if_neg (by rw [HX2.out]; omega)] at hd
            exact hd
          have HB3 := Lib.hid (bl_then HB2.out HJ.out.2)
          clear hj
          go_wp2_with fail
          go_roundw
          case rel => exact ⟨i + 1, by omega, by go_num, HD2.out, HB3.out⟩
          case measure => simp [intOf]; omega
    · obtain rfl : i = m := by omega
      have HD : Hid (R = (-1, -1)) := by
        show _ = _
        rw [HR.out.1, List.drop_of_length_le (by rw [← HN.out]; exact Nat.le_refl _)]
        rfl
      go_wp2_with fail
      go_ret2
      exact ⟨by rw [HD.out]; rfl, HR.out.2⟩
end Go.Proofs.YtgnagbbdnlmgeaaGreat.Cm
end
section
set_option maxHeartbeats 4000000
set_option maxRecDepth 100000
namespace Go.Proofs.YtgnagbbdnlmgeaaGreat.Cm
open Go Go.RowKit
open Rr Ob Ba Ko Ge Oc Pk Su Rf Dv Vo Ra Jh Tr Iq Bm In Je Lo
def addR (S : List Int) : List Int → Option (List Int)
  | [] => some S
  | x :: r => if x ∈ S then none else addR (S ++ [x]) r
abbrev Rt := List Int × List Int × List Dat
def stepR (n s : Nat) (sl : Int → Option Tri) (inf : Int → Option (Int × Int × Int)) (i : Nat) (st : Rt) : Option Rt :=
  match inf i with
  | none => none
  | some t => match chainF n sl n t.2.1 with
    | none => none
    | some L => if (s : Int) * (n : Int) < t.2.2 then none else
      if ((blocksOf (L.map Prod.snd)).length : Int) ≠ needF s t.2.2 then none else
      match addR st.1 (L.map Prod.fst) with
      | none => none
      | some S => match addR st.2.1 (blocksOf (L.map Prod.snd)) with
        | none => none
        | some B => some (S, B, st.2.2 ++ [(t, L)])
def scanR (n s : Nat) (sl : Int → Option Tri) (inf : Int → Option (Int × Int × Int)) : Nat → Nat → Rt → Option Rt
  | 0, _, st => some st
  | k + 1, i, st => match stepR n s sl inf i st with
    | none => none
    | some st' => scanR n s sl inf k (i + 1) st'
theorem rin_call {W : World} {a8 : Addr} {ws : List Nat} {T c8 n m : Nat} (hr : Rk .u64 W (some a8) (Oc.ints ws)) (hT : ws.length = T) (hc : T ≤ c8) (hlt : ∀ x ∈ ws, x < 18446744073709551616) (hT9 : T ≤ 1000000) (hfit : 16 + 8 * m + n ≤ T) (z p3 p4 p5 : Int) (i : Nat) (hi : i < m) :
    Calls Tryz.prog 20 #[.agg #[.int .i64 n, .int .i64 m, .int .i64 z, .int .i64 16, .int .i64 (16 + 8 * (m : Int)), .int .i64 p3, .int .i64 p4, .int .i64 p5, .slice (some a8) T c8], .int .i64 i] W fun o w' => o = .returned (.tuple #[.agg #[.int .i64 (inV (inF ws m i)).1, .int .i64 (inV (inF ws m i)).2.1, .int .i64 (inV (inF ws m i)).2.2], .bool (inF ws m i).isSome]) ∧ Below W.heap.size W w' := by
  refine (r15inode_get hr hT hc hlt n m z (16 + 8 * m) p3 p4 p5 i (by omega) (16 + 8 * i) (by omega) (by omega) (by omega)).mono ?_
  rintro o w' ⟨h1, h2⟩
  refine ⟨?_, h2⟩
  unfold R6 at h1
  rw [h1]
  have e0 : (ws.drop (16 + 8 * i)).take 8 = inL ws i := rfl
  rw [e0]
  have e1 : inF ws m i = if ok6 (inL ws i) then some (n6 (inL ws i)) else none := by
    unfold inF
    rw [if_pos (by omega), Int.toNat_natCast]
  rw [e1]
  cases h9 : ok6 (inL ws i) with
  | true => rfl
  | false =>
    unfold n6
    rw [h9]
    rfl
def apart (u v : Value) : Prop := ∀ k, u.ownBlock = some k → v.ownBlock ≠ some k
theorem apart.symm {u v : Value} (h : apart u v) : apart v u := fun k hk e => h k e hk
theorem ap_grow {w w7 : World} {B T s n : Nat} {u v v' : Value} {xs : List Value} (hu : w.ownsRow B T s u n xs) (ha : apart u v) (hg : w.grownBy w7 v.ownBlock) (hat : v'.ownBlock = v.ownBlock ∨ v'.ownBlock = some w.heap.size) : w7.ownsRow B T s u n xs ∧ apart u v' := by
  refine ⟨own_grown hg hu fun k hk => ha k hk, fun k hk => ?_⟩
  rcases hat with e | e
  · rw [e]; exact ha k hk
  · rw [e]
    intro he
    simp only [Option.some.injEq] at he
    obtain ⟨cur, hc⟩ := Bm.own_blk' hu hk
    have := lt_of hc
    omega
structure Ea (w : World) (B : Nat) (c5 c6 : Value) (e : Own) : Prop where
  sl : w.ownsRow B 3 1 (.slice e.sa e.L.length e.sc) e.L.length (ivs .i64 (e.L.map Prod.fst))
  pt : w.ownsRow B 54 3 (.slice e.pa e.L.length e.pc) e.L.length (tvs (e.L.map Prod.snd))
  a5 : apart (.slice e.sa e.L.length e.sc) c5
  a6 : apart (.slice e.sa e.L.length e.sc) c6
theorem Ea.keep {w w' : World} {B : Nat} {c5 c6 : Value} {e : Own} (h : Ea w B c5 c6 e) (hb : Below w.heap.size w w') : Ea w' B c5 c6 e := ⟨own_bl h.sl hb, own_bl h.pt hb, h.a5, h.a6⟩
structure Zw (W wr : World) (n : Nat) (V : Array Value) (c5 c6 v1 v2 : Value) (S B : List Int) (di dc es : List Own) : Prop where
  bl : Below W.heap.size W wr
  vol : wr.heap[W.heap.size]? = some (.cells V 30 (0, 0))
  res : wr.heap[W.heap.size + 1]? = some (.cells #[.int .i64 0, .slice none 0 0, .slice none 0 0] 125 (0, 0))
  box : wr.heap[W.heap.size + 2]? = some (.cells #[.int .i64 n, v1, v2] 125 (0, 0))
  s : wr.ownsRow (W.heap.size + 3) 3 1 c6 S.length (ivs .i64 S)
  b : wr.ownsRow (W.heap.size + 3) 3 1 c5 B.length (ivs .i64 B)
  ap : apart c5 c6
  ins : wr.ownsRow (W.heap.size + 3) 47 3 v1 di.length (tvs (di.map Own.tri))
  chs : wr.ownsRow (W.heap.size + 3) 100 2 v2 dc.length (cvs dc)
  each : ∀ e ∈ es, Ea wr (W.heap.size + 3) c5 c6 e
section
variable {W wr w7 : World} {n : Nat} {V : Array Value} {c5 c6 v1 v2 : Value} {S B : List Int} {di dc es : List Own}
theorem Zw.lt (h : Zw W wr n V c5 c6 v1 v2 S B di dc es) : W.heap.size + 3 ≤ wr.heap.size := lt_of h.box
theorem Zw.keep {w' : World} (h : Zw W wr n V c5 c6 v1 v2 S B di dc es) (hb : Below wr.heap.size wr w') : Zw W w' n V c5 c6 v1 v2 S B di dc es :=
  ⟨bl_then h.bl hb, blk_bl h.vol hb, blk_bl h.res hb, blk_bl h.box hb, own_bl h.s hb, own_bl h.b hb, h.ap, own_bl h.ins hb, own_bl h.chs hb, fun e he => (h.each e he).keep hb⟩
theorem Zw.app6 (h : Zw W wr n V c5 c6 v1 v2 S B di dc es) {c6' : Value} {x : Int} (hg : wr.grownBy w7 c6.ownBlock)
    (ho : w7.ownsRow (W.heap.size + 3) 3 1 c6' (S.length + 1) (ivs .i64 S ++ [.int .i64 x])) (hat : c6'.ownBlock = c6.ownBlock ∨ c6'.ownBlock = some wr.heap.size) :
    Zw W w7 n V c5 c6' v1 v2 (S ++ [x]) B di dc es := by
  have hall : ∀ {k : Nat} {cur : Array Value} {T' : Nat} {fr : Nat × Nat}, wr.heap[k]? = some (.cells cur T' fr) → 3 ≠ T' → w7.heap[k]? = some (.cells cur T' fr) := fun hk hT => grown_blk hg hk (ne_type h.s hk hT)
  have hb := ap_grow h.b h.ap hg hat
  refine ⟨bl_grown h.bl hg (fun k hk => by have := own_lo h.s k hk; omega), hall h.vol (by decide), hall h.res (by decide), hall h.box (by decide), ?_, hb.1, hb.2, own_grownT h.s hg h.ins (by decide), own_grownT h.s hg h.chs (by decide), fun e he => ?_⟩
  · rw [ivs_append, List.length_append]; exact ho
  · have h9 := h.each e he
    have h8 := ap_grow h9.sl h9.a6 hg hat
    exact ⟨h8.1, own_grownT h.s hg h9.pt (by decide), h9.a5, h8.2⟩
theorem Zw.app5 (h : Zw W wr n V c5 c6 v1 v2 S B di dc es) {c5' : Value} {x : Int} (hg : wr.grownBy w7 c5.ownBlock)
    (ho : w7.ownsRow (W.heap.size + 3) 3 1 c5' (B.length + 1) (ivs .i64 B ++ [.int .i64 x])) (hat : c5'.ownBlock = c5.ownBlock ∨ c5'.ownBlock = some wr.heap.size) :
    Zw W w7 n V c5' c6 v1 v2 S (B ++ [x]) di dc es := by
  have hall : ∀ {k : Nat} {cur : Array Value} {T' : Nat} {fr : Nat × Nat}, wr.heap[k]? = some (.cells cur T' fr) → 3 ≠ T' → w7.heap[k]? = some (.cells cur T' fr) := fun hk hT => grown_blk hg hk (ne_type h.b hk hT)
  have hb := ap_grow h.s h.ap.symm hg hat
  refine ⟨bl_grown h.bl hg (fun k hk => by have := own_lo h.b k hk; omega), hall h.vol (by decide), hall h.res (by decide), hall h.box (by decide), hb.1, ?_, hb.2.symm, own_grownT h.b hg h.ins (by decide), own_grownT h.b hg h.chs (by decide), fun e he => ?_⟩
  · rw [ivs_append, List.length_append]; exact ho
  · have h9 := h.each e he
    have h8 := ap_grow h9.sl h9.a5 hg hat
    exact ⟨h8.1, own_grownT h.b hg h9.pt (by decide), h8.2, h9.a6⟩
theorem Zw.far6 (h : Zw W wr n V c5 c6 v1 v2 S B di dc es) (hg : wr.grownBy w7 c6.ownBlock) {k : Nat} {cur : Array Value} {T' : Nat} {fr : Nat × Nat} (hk : wr.heap[k]? = some (.cells cur T' fr)) (hT : 3 ≠ T') : w7.heap[k]? = some (.cells cur T' fr) := grown_blk hg hk (ne_type h.s hk hT)
theorem Zw.far5 (h : Zw W wr n V c5 c6 v1 v2 S B di dc es) (hg : wr.grownBy w7 c5.ownBlock) {k : Nat} {cur : Array Value} {T' : Nat} {fr : Nat × Nat} (hk : wr.heap[k]? = some (.cells cur T' fr)) (hT : 3 ≠ T') : w7.heap[k]? = some (.cells cur T' fr) := grown_blk hg hk (ne_type h.b hk hT)
theorem own_set1 {w : World} {Bs T s m q o : Nat} {v y : Value} {xs : List Value} (h : w.ownsRow Bs T s v m xs) (hq : q < Bs) : (w.setCell ⟨q, o, none⟩ y).ownsRow Bs T s v m xs :=
  own_kp h fun k hk _ => Below.heap_setCell _ _ _ k (fun e => by have : q = k := e.symm; omega)
theorem Zw.appI (h : Zw W wr n V c5 c6 v1 v2 S B di dc es) {v1' : Value} {e : Own} (hg : wr.grownBy w7 v1.ownBlock)
    (ho : w7.ownsRow (W.heap.size + 3) 47 3 v1' (di.length + 1) (tvs (di.map Own.tri) ++ [.int .i64 e.k, .int .i64 e.h, .int .i64 e.z])) :
    w7.heap[W.heap.size + 2]? = some (.cells #[.int .i64 n, v1, v2] 125 (0, 0)) ∧
    (∀ {q : Nat} {cs : Array Value} {T' : Nat}, wr.heap[q]? = some (.cells cs T' (0, 0)) → 47 ≠ T' → T' ≠ 125 → (w7.setCell ⟨W.heap.size + 2, 1, none⟩ v1').heap[q]? = some (.cells cs T' (0, 0))) ∧
    Zw W (w7.setCell ⟨W.heap.size + 2, 1, none⟩ v1') n V c5 c6 v1' v2 S B (di ++ [e]) dc es := by
  have hall : ∀ {k : Nat} {cur : Array Value} {T' : Nat} {fr : Nat × Nat}, wr.heap[k]? = some (.cells cur T' fr) → 47 ≠ T' → w7.heap[k]? = some (.cells cur T' fr) := fun hk hT => grown_blk hg hk (ne_type h.ins hk hT)
  have hbx := hall h.box (by decide)
  refine ⟨hbx, fun {q} {cs} {T'} hq hT hT2 => set_blk (hall hq hT) (fun e9 => ?_), ?_⟩
  · have h9 := h.box
    rw [e9, hq] at h9
    simp only [Option.some.injEq, Obj.cells.injEq] at h9
    exact hT2 h9.2.1
  refine ⟨bl_set (bl_grown h.bl hg (fun k hk => by have := own_lo h.ins k hk; omega)) (by omega) _, set_blk (hall h.vol (by decide)) (by omega), set_blk (hall h.res (by decide)) (by omega), set_same hbx 1 _, own_set1 (own_grownT h.ins hg h.s (by decide)) (by omega), own_set1 (own_grownT h.ins hg h.b (by decide)) (by omega), h.ap, ?_, own_set1 (own_grownT h.ins hg h.chs (by decide)) (by omega), fun e he => ?_⟩
  · rw [List.map_append, tvs_append, List.length_append]
    exact own_set1 ho (by omega)
  · have h9 := h.each e he
    exact ⟨own_set1 (own_grownT h.ins hg h9.sl (by decide)) (by omega), own_set1 (own_grownT h.ins hg h9.pt (by decide)) (by omega), h9.a5, h9.a6⟩
theorem Zw.appC (h : Zw W wr n V c5 c6 v1 v2 S B di dc es) {v2' : Value} {e : Own} (hg : wr.grownBy w7 v2.ownBlock)
    (ho : w7.ownsRow (W.heap.size + 3) 100 2 v2' (dc.length + 1) (cvs dc ++ [.slice e.sa e.L.length e.sc, .slice e.pa e.L.length e.pc])) :
    w7.heap[W.heap.size + 2]? = some (.cells #[.int .i64 n, v1, v2] 125 (0, 0)) ∧
    Zw W (w7.setCell ⟨W.heap.size + 2, 2, none⟩ v2') n V c5 c6 v1 v2' S B di (dc ++ [e]) es := by
  have hall : ∀ {k : Nat} {cur : Array Value} {T' : Nat} {fr : Nat × Nat}, wr.heap[k]? = some (.cells cur T' fr) → 100 ≠ T' → w7.heap[k]? = some (.cells cur T' fr) := fun hk hT => grown_blk hg hk (ne_type h.chs hk hT)
  have hbx := hall h.box (by decide)
  refine ⟨hbx, ?_⟩
  refine ⟨bl_set (bl_grown h.bl hg (fun k hk => by have := own_lo h.chs k hk; omega)) (by omega) _, set_blk (hall h.vol (by decide)) (by omega), set_blk (hall h.res (by decide)) (by omega), set_same hbx 2 _, own_set1 (own_grownT h.chs hg h.s (by decide)) (by omega), own_set1 (own_grownT h.chs hg h.b (by decide)) (by omega), h.ap, own_set1 (own_grownT h.chs hg h.ins (by decide)) (by omega), ?_, fun e he => ?_⟩
  · rw [cvs_append, List.length_append]
    exact own_set1 ho (by omega)
  · have h9 := h.each e he
    exact ⟨own_set1 (own_grownT h.chs hg h9.sl (by decide)) (by omega), own_set1 (own_grownT h.chs hg h9.pt (by decide)) (by omega), h9.a5, h9.a6⟩
end
theorem Ea.new {w w' : World} {Bs n5 n6 : Nat} {c5 c6 : Value} {x5 x6 : List Value} {e : Own} (h5 : w.ownsRow Bs 3 1 c5 n5 x5) (h6 : w.ownsRow Bs 3 1 c6 n6 x6) (hB : Bs ≤ w.heap.size)
    (h1 : w'.ownsRow w.heap.size 3 1 (.slice e.sa e.L.length e.sc) e.L.length (ivs .i64 (e.L.map Prod.fst))) (h2 : w'.ownsRow w.heap.size 54 3 (.slice e.pa e.L.length e.pc) e.L.length (tvs (e.L.map Prod.snd))) : Ea w' Bs c5 c6 e :=
  ⟨own_base h1 hB, own_base h2 hB, fun k hk h9 => by
    obtain ⟨cur, hc⟩ := Bm.own_blk' h5 h9
    have := lt_of hc
    have := own_lo h1 k hk
    omega, fun k hk h9 => by
    obtain ⟨cur, hc⟩ := Bm.own_blk' h6 h9
    have := lt_of hc
    have := own_lo h1 k hk
    omega⟩
theorem apart_new {w w' : World} {Bs T s n5 n : Nat} {v c5 : Value} {x5 xs : List Value} (h5 : w.ownsRow Bs 3 1 c5 n5 x5) (h1 : w'.ownsRow w.heap.size T s v n xs) : apart v c5 := fun k hk h9 => by
  obtain ⟨cur, hc⟩ := Bm.own_blk' h5 h9
  have := lt_of hc
  have := own_lo h1 k hk
  omega
theorem many_at (w : World) (cs : Array Value) (T : TypeId) : ∀ j u, cs.toList[j]? = some u → (w.alloc (.cells cs T)).cell? ((⟨w.heap.size, 0, none⟩ : Addr).add j) = some u :=
  World.news_of_block (cs := cs) (t := T) (fr := (0, 0)) (heap_alloc_new w _)
theorem many_set (w : World) (q o : Nat) (v : Value) (cs : Array Value) (T : TypeId) : ∀ j u, cs.toList[j]? = some u → ((w.setCell ⟨q, o, none⟩ v).alloc (.cells cs T)).cell? ((⟨w.heap.size, 0, none⟩ : Addr).add j) = some u := by
  have h := many_at (w.setCell ⟨q, o, none⟩ v) cs T
  have e : (w.setCell ⟨q, o, none⟩ v).heap.size = w.heap.size := by simp
  rw [e] at h
  exact h
theorem Zw.dm {W wr w' : World} {n : Nat} {V : Array Value} {c5 c6 : Value} {IA CA : Option Addr} {ic cc : Nat} {S B : List Int} {ds : List Own} (h : Zw W wr n V c5 c6 (.slice IA ds.length ic) (.slice CA ds.length cc) S B ds ds ds)
    (hk : ∀ k, W.heap.size + 3 ≤ k → w'.heap[k]? = wr.heap[k]?) : Dm w' IA CA ds :=
  ⟨(own_tr (own_kp h.ins (fun k h1 _ => hk k h1))).1, own_pr (own_kp h.chs (fun k h1 _ => hk k h1)), fun e he => ⟨(own_rk (k := .i64) (own_kp (h.each e he).sl (fun k h1 _ => hk k h1))).1, (own_tr (own_kp (h.each e he).pt (fun k h1 _ => hk k h1))).1⟩⟩
end Go.Proofs.YtgnagbbdnlmgeaaGreat.Cm
end
section
set_option maxRecDepth 100000
namespace Go.Proofs.YtgnagbbdnlmgeaaGreat.Cm
open Go Go.RowKit
open Rr Ob Ba Ko Ge Oc Pk Su Rf Dv Vo Ra Jh Tr Iq Bm In Je Lo Ho Jd
def bitIn (n x : Nat) (S : List Int) : Prop := ∀ j : Nat, j < n → (x.testBit j = true ↔ (j : Int) ∈ S)
theorem turn_addR {n : Nat} (hn : n ≤ 24) : ∀ (xs : List Int) (x k : Nat) (S : List Int), x < 2 ^ n → bitIn n x S → (∀ u ∈ xs, 0 ≤ u ∧ u < (n : Int)) →
    ∃ y c, xs.foldl (turnF n false) ([x], k) = ([y], k + c) ∧ y < 2 ^ n ∧ c ≤ xs.length ∧ (addR S xs = none → c < xs.length) ∧ (∀ S', addR S xs = some S' → c = xs.length ∧ S' = S ++ xs ∧ bitIn n y S')
  | [], x, k, S, hx, hb, _ => ⟨x, 0, rfl, hx, Nat.le_refl _, (fun h => by cases h), fun S' h => by
      have e : S = S' := Option.some.inj h
      subst e
      exact ⟨rfl, (List.append_nil _).symm, hb⟩⟩
  | u :: r, x, k, S, hx, hb, hr => by
    obtain ⟨hu0, hu1⟩ := hr u (by simp)
    have hj : u.toNat < n := by omega
    have huc : ((u.toNat : Nat) : Int) = u := by omega
    have hbu := hb u.toNat hj
    rw [huc] at hbu
    by_cases hm : u ∈ S
    · have ht := hbu.2 hm
      have e0 : turnF n false ([x], k) u = ([x], k) := by
        unfold turnF
        rw [if_neg]
        rw [bget_one (by omega), ht]
        rintro ⟨-, -, h⟩
        cases h
      obtain ⟨y, c, h1, h2, h3, h4, h5⟩ := turn_addR hn r x k S hx hb (fun v hv => hr v (by simp [hv]))
      have ea : addR S (u :: r) = none := by
        show (if u ∈ S then none else addR (S ++ [u]) r) = none
        rw [if_pos hm]
      refine ⟨y, c, by rw [List.foldl_cons, e0, h1], h2, by simp; omega, fun _ => by simp; omega, fun S' h => ?_⟩
      rw [ea] at h
      cases h
    · have ht : x.testBit u.toNat = false := by
        cases h : x.testBit u.toNat with
        | false => rfl
        | true => exact absurd (hbu.1 h) hm
      have e0 : turnF n false ([x], k) u = ([x ^^^ 2 ^ u.toNat], k + 1) := by
        unfold turnF
        rw [if_pos ⟨hu0, hu1, by rw [bget_one (by omega), ht]⟩]
        unfold bturn
        rw [show u.toNat / 64 = 0 by omega, show u.toNat % 64 = u.toNat by omega]
        rfl
      have hx' : x ^^^ 2 ^ u.toNat < 2 ^ n := Nat.xor_lt_two_pow hx (Nat.pow_lt_pow_right (by decide) hj)
      have hb' : bitIn n (x ^^^ 2 ^ u.toNat) (S ++ [u]) := by
        intro j hjn
        rw [Nat.testBit_xor, Nat.testBit_two_pow]
        by_cases hju : u.toNat = j
        · subst hju
          rw [ht, huc]
          simp
        · have hne : ¬ (j : Int) = u := by omega
          have := hb j hjn
          simp [hju, hne, this]
      obtain ⟨y, c, h1, h2, h3, h4, h5⟩ := turn_addR hn r (x ^^^ 2 ^ u.toNat) (k + 1) (S ++ [u]) hx' hb' (fun v hv => hr v (by simp [hv]))
      have ea : addR S (u :: r) = addR (S ++ [u]) r := by
        show (if u ∈ S then none else addR (S ++ [u]) r) = _
        rw [if_neg hm]
      refine ⟨y, c + 1, by rw [List.foldl_cons, e0, h1]; simp [Nat.add_assoc, Nat.add_comm 1], h2, by simp; omega, fun h => ?_, fun S' h => ?_⟩
      · rw [ea] at h
        have := h4 h
        simp; omega
      · rw [ea] at h
        obtain ⟨g1, g2, g3⟩ := h5 S' h
        exact ⟨by simp; omega, by rw [g2]; simp, g3⟩
theorem turn_addL {n x : Nat} (hn : n ≤ 24) (xs : List Int) (S : List Int) (hx : x < 2 ^ n) (hb : bitIn n x S) (hr : ∀ u ∈ xs, 0 ≤ u ∧ u < (n : Int)) :
    ∃ y, (turnL n false [x] xs).1 = [y] ∧ y < 2 ^ n ∧ (addR S xs = none → (turnL n false [x] xs).2 < xs.length) ∧ (∀ S', addR S xs = some S' → (turnL n false [x] xs).2 = xs.length ∧ S' = S ++ xs ∧ bitIn n y S') := by
  obtain ⟨y, c, h1, h2, h3, h4, h5⟩ := turn_addR hn xs x 0 S hx hb hr
  have e : turnL n false [x] xs = ([y], c) := by unfold turnL; rw [h1, Nat.zero_add]
  rw [e]
  exact ⟨y, rfl, h2, h4, h5⟩
structure Lk (n : Nat) (st : St) (rt : Rt) : Prop where
  ds : st.2.2 = rt.2.2
  s : rt.1 = rt.2.2.flatMap fun d => d.2.map Prod.fst
  b : rt.2.1 = rt.2.2.flatMap fun d => blocksOf (d.2.map Prod.snd)
  xb : ∃ x, st.1 = [x] ∧ x < 2 ^ n ∧ bitIn n x rt.2.1
  xs : ∃ x, st.2.1 = [x] ∧ x < 2 ^ n ∧ bitIn n x rt.1
  all : ∀ d ∈ rt.2.2, d.2.length ≤ n ∧ ∀ t ∈ d.2.map Prod.snd, 0 ≤ t.1 ∧ t.1 ≤ 65534 ∧ 0 ≤ t.2.1 ∧ t.2.1 ≤ 65534
theorem need_big {n s : Nat} {z : Int} (hs : s = 64 ∨ s = 128) : (s : Int) * (n : Int) < z ↔ (n : Int) < needF s z := by
  unfold needF
  split
  · rcases hs with rfl | rfl <;> omega
  · rcases hs with rfl | rfl <;> omega
theorem lk_step {n m s : Nat} {ws : List Nat} (hn : n ≤ 24) (hs : s = 64 ∨ s = 128) {st : St} {rt : Rt} (h : Lk n st rt) (i : Nat) :
    (stepG n s (slF ws n m) (inF ws m) i st = none ∧ stepR n s (slF ws n m) (inF ws m) i rt = none) ∨
    ∃ st' rt', stepG n s (slF ws n m) (inF ws m) i st = some st' ∧ stepR n s (slF ws n m) (inF ws m) i rt = some rt' ∧ Lk n st' rt' := by
  obtain ⟨st1, st2, sd⟩ := st
  obtain ⟨rt1, rt2, rd⟩ := rt
  obtain ⟨hds, hs1, hb1, ⟨xb, hxb, hxb1, hxb2⟩, ⟨xs, hxs, hxs1, hxs2⟩, hall⟩ := h
  simp only at hds hs1 hb1 hxb hxb1 hxb2 hxs hxs1 hxs2
  subst hds hxb hxs
  unfold stepG stepR takeF
  simp only
  cases ht : inF ws m i with
  | none => exact .inl ⟨rfl, rfl⟩
  | some t =>
    simp only
    cases hc : chainF n (slF ws n m) n t.2.1 with
    | none => exact .inl ⟨rfl, rfl⟩
    | some L =>
      simp only
      rw [blocks_lenC]
      have hat : ∀ p ∈ L, 0 ≤ p.1 ∧ p.1 < (n : Int) ∧ 0 ≤ p.2.1 ∧ 1 ≤ p.2.2.1 ∧ p.2.1 + p.2.2.1 ≤ (n : Int) := fun p hp => by
        obtain ⟨j, hjl, rfl⟩ := List.mem_iff_getElem.1 hp
        obtain ⟨-, h2, h3, -⟩ := chainF_at n t.2.1 L hc j _ (List.getElem?_eq_getElem hjl)
        obtain ⟨q1, q2, q3⟩ := slF_may h2
        have := of_decide_eq_true q1
        omega
      have hr1 : ∀ u ∈ L.map Prod.fst, 0 ≤ u ∧ u < (n : Int) := fun u hu => by
        obtain ⟨p, hp, rfl⟩ := List.mem_map.1 hu
        have := hat p hp
        omega
      have hr2 : ∀ u ∈ blocksOf (L.map Prod.snd), 0 ≤ u ∧ u < (n : Int) := fun u hu => by
        unfold blocksOf at hu
        obtain ⟨q, hq, hu⟩ := List.mem_flatMap.1 hu
        obtain ⟨p, hp, rfl⟩ := List.mem_map.1 hq
        unfold run1 at hu
        obtain ⟨j, hj, rfl⟩ := List.mem_map.1 hu
        have := hat p hp
        rw [List.mem_range] at hj
        omega
      obtain ⟨ys, y1, y2, y3, y4⟩ := turn_addL hn _ rt1 hxs1 hxs2 hr1
      obtain ⟨yb, z1, z2, z3, z4⟩ := turn_addL hn _ rt2 hxb1 hxb2 hr2
      obtain ⟨nb, hnb⟩ : ∃ nb, nb = (blocksOf (L.map Prod.snd)).length := ⟨_, rfl⟩
      rw [List.length_map] at y3 y4
      rw [← hnb] at z3 z4
      rw [← hnb]
      by_cases hne : (nb : Int) = needF s t.2.2
      rotate_left
      · rw [if_pos hne, if_pos hne]
        refine .inl ⟨rfl, ?_⟩
        split
        · rfl
        · rfl
      have hnn : ¬ ((nb : Int) ≠ needF s t.2.2) := fun h => h hne
      rw [if_neg hnn, if_neg hnn]
      by_cases hbig : (s : Int) * (n : Int) < t.2.2
      · rw [if_pos hbig]
        refine .inl ⟨?_, rfl⟩
        have hlt : n < nb := by
          have := (need_big (n := n) hs).1 hbig
          omega
        have hne2 : ((turnL n false [xb] (blocksOf (L.map Prod.snd))).2 : Int) ≠ (nb : Int) := by
          obtain ⟨y, a1, a2, a3⟩ := turn_all hn hxb1 (blocksOf (L.map Prod.snd))
          have := cnt_le (bitsOf y n)
          rw [bitsOf_length] at this
          omega
        by_cases hA : ((turnL n false [xs] (L.map Prod.fst)).2 : Int) ≠ (L.length : Int)
        · rw [if_pos hA]
        · rw [if_neg hA, if_pos hne2]
      rw [if_neg hbig]
      cases ha1 : addR rt1 (L.map Prod.fst) with
      | none =>
        have := y3 ha1
        rw [if_pos (by omega)]
        exact .inl ⟨rfl, rfl⟩
      | some S' =>
        obtain ⟨a1, a2, a3⟩ := y4 S' ha1
        rw [if_neg (by omega)]
        simp only
        cases ha2 : addR rt2 (blocksOf (L.map Prod.snd)) with
        | none =>
          have := z3 ha2
          rw [if_pos (by omega)]
          exact .inl ⟨rfl, rfl⟩
        | some B' =>
          obtain ⟨b1, b2, b3⟩ := z4 B' ha2
          rw [if_neg (by omega)]
          refine .inr ⟨_, _, rfl, rfl, ⟨rfl, ?_, ?_, ⟨yb, z1, z2, b3⟩, ⟨ys, y1, y2, a3⟩, fun d hd => ?_⟩⟩
          · show S' = (sd ++ [(t, L)]).flatMap _
            rw [List.flatMap_append, ← hs1, a2]
            simp
          · show B' = (sd ++ [(t, L)]).flatMap _
            rw [List.flatMap_append, ← hb1, b2]
            simp
          · rcases List.mem_append.1 hd with h9 | h9
            · exact hall d h9
            · have e : d = (t, L) := by simpa using h9
              subst e
              refine ⟨chainF_len n _ L hc, fun u hu => ?_⟩
              obtain ⟨p, hp, rfl⟩ := List.mem_map.1 hu
              have := hat p hp
              omega
theorem lk_run {n m s : Nat} {ws : List Nat} (hn : n ≤ 24) (hs : s = 64 ∨ s = 128) : ∀ (k i : Nat) {st : St} {rt : Rt}, Lk n st rt →
    (scanG n s (slF ws n m) (inF ws m) k i st = none ∧ scanR n s (slF ws n m) (inF ws m) k i rt = none) ∨
    ∃ st' rt', scanG n s (slF ws n m) (inF ws m) k i st = some st' ∧ scanR n s (slF ws n m) (inF ws m) k i rt = some rt' ∧ Lk n st' rt'
  | 0, i, st, rt, h => .inr ⟨st, rt, rfl, rfl, h⟩
  | k + 1, i, st, rt, h => by
    unfold scanG scanR
    rcases lk_step hn hs h i with ⟨e1, e2⟩ | ⟨st', rt', e1, e2, h'⟩
    · rw [e1, e2]
      exact .inl ⟨rfl, rfl⟩
    · rw [e1, e2]
      exact lk_run hn hs k (i + 1) h'
theorem lk_scan {n m s : Nat} {ws : List Nat} (hn1 : 1 ≤ n) (hn : n ≤ 24) (hs : s = 64 ∨ s = 128) :
    (scanF n m s ws = none ∧ scanR n s (slF ws n m) (inF ws m) m 0 ([], [], []) = none) ∨
    ∃ st' rt', scanF n m s ws = some st' ∧ scanR n s (slF ws n m) (inF ws m) m 0 ([], [], []) = some rt' ∧ Lk n st' rt' := by
  unfold scanF
  have e : List.replicate ((n + 63) / 64) 0 = [0] := by rw [show (n + 63) / 64 = 1 by omega]; rfl
  rw [e]
  refine lk_run hn hs m 0 ⟨rfl, rfl, rfl, ⟨0, rfl, Nat.two_pow_pos n, ?_⟩, ⟨0, rfl, Nat.two_pow_pos n, ?_⟩, fun d hd => (by cases hd)⟩
  · intro j hj; simp
  · intro j hj; simp
theorem ixI_neg : ∀ (l : List Int) (x : Int) (i : Nat), x ∉ l → ixI l x i = -1
  | [], _, _, _ => rfl
  | y :: r, x, i, h => by
    show (if x = y then (i : Int) else ixI r x (i + 1)) = -1
    rw [if_neg (fun e => h (by simp [e]))]
    exact ixI_neg r x (i + 1) (fun e => h (by simp [e]))
theorem ixI_pos : ∀ (l : List Int) (x : Int) (i : Nat), x ∈ l → 0 ≤ ixI l x i
  | [], _, _, h => by cases h
  | y :: r, x, i, h => by
    show 0 ≤ (if x = y then (i : Int) else ixI r x (i + 1))
    split
    · omega
    · rename_i hne
      rcases List.mem_cons.1 h with e | e
      · exact absurd e hne
      · exact ixI_pos r x (i + 1) e
theorem owD_neg : ∀ (ds : List Dat) (b : Int) (i : Nat), (b ∉ ds.flatMap fun d => blocksOf (d.2.map Prod.snd)) → owD ds b i = (-1, -1)
  | [], _, _, _ => rfl
  | d :: r, b, i, h => by
    rw [List.flatMap_cons, List.mem_append, not_or] at h
    unfold owD
    rw [if_neg (by rw [ixI_neg _ _ _ h.1]; omega)]
    exact owD_neg r b (i + 1) h.2
theorem owD_pos : ∀ (ds : List Dat) (b : Int) (i : Nat), (b ∈ ds.flatMap fun d => blocksOf (d.2.map Prod.snd)) → 0 ≤ (owD ds b i).1
  | [], _, _, h => by cases h
  | d :: r, b, i, h => by
    rw [List.flatMap_cons, List.mem_append] at h
    unfold owD
    split
    · show (0 : Int) ≤ (i : Int); omega
    · rename_i hne
      rcases h with e | e
      · exact absurd (ixI_pos _ _ _ e) hne
      · exact owD_pos r b (i + 1) e
theorem slD_is : ∀ (ds : List Dat) (x : Int), slD ds x = true ↔ x ∈ ds.flatMap fun d => d.2.map Prod.fst
  | [], _ => by simp [slD]
  | d :: r, x => by
    have ih := slD_is r x
    unfold slD
    rw [Bool.or_eq_true, decide_eq_true_iff, ih, List.flatMap_cons, List.mem_append]
theorem lk_bits {n : Nat} (hn : n ≤ 24) {st : St} {rt : Rt} (h : Lk n st rt) : ∃ x1 x2, st.1 = [x1] ∧ st.2.1 = [x2] ∧ x1 < 2 ^ n ∧ x2 < 2 ^ n ∧
    (∀ b : Nat, b < n → x1.testBit b = decide (0 ≤ (owD st.2.2 b 0).1)) ∧ (∀ b : Nat, b < n → x1.testBit b = false → owD st.2.2 b 0 = (-1, -1)) ∧ (∀ b : Nat, b < n → x2.testBit b = slD st.2.2 b) := by
  obtain ⟨hds, hs1, hb1, ⟨x1, e1, e2, e3⟩, ⟨x2, f1, f2, f3⟩, -⟩ := h
  rw [hds]
  refine ⟨x1, x2, e1, f1, e2, f2, fun b hb => ?_, fun b hb h0 => ?_, fun b hb => ?_⟩
  · have := e3 b hb
    rw [hb1] at this
    cases h : x1.testBit b with
    | true => exact (decide_eq_true (owD_pos _ _ _ (this.1 h))).symm
    | false =>
      rw [owD_neg _ _ _ (fun h9 => by rw [this.2 h9] at h; cases h)]
      rfl
  · have := e3 b hb
    rw [hb1] at this
    exact owD_neg _ _ _ (fun h9 => by rw [this.2 h9] at h0; cases h0)
  · have := f3 b hb
    rw [hs1] at this
    rw [Bool.eq_iff_iff, slD_is]
    exact this
end Go.Proofs.YtgnagbbdnlmgeaaGreat.Cm
end
