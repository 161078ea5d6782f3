/- Parts of the proof, one behind the other: Tk, Ea, Hp, Ec. -/
import Derived.Test.YtgnagbbdnlmgeaaGreatL15
import Derived.Test.YtgnagbbdnlmgeaaGreatL12
import Derived.Test.YtgnagbbdnlmgeaaGreatL11
import Derived.Test.YtgnagbbdnlmgeaaGreatL13
set_option linter.unusedVariables false
set_option linter.unusedSimpArgs false
set_option linter.unusedSectionVars false
section
set_option maxHeartbeats 2000000
set_option maxRecDepth 100000
namespace Go.Proofs.YtgnagbbdnlmgeaaGreat.Rr
open Go Go.RowKit
open Ob Ba Oc Pk Bm Jd Li
theorem own_upd {W W' : World} {B T s n : Nat} {v : Value} {xs : List Value} {F : List Nat} (h : W.ownsRow B T s v n xs) (hu : Upd F W W') (hF : ∀ k ∈ F, k < B) : W'.ownsRow B T s v n xs :=
  own_kp h fun k hk hlt => hu.block k hlt (fun hm => by have := hF k hm; omega)
def setRs (n : Nat) (l : List Nat) (rs : List (Int × Int)) : List Nat := rs.foldl (fun l r => (rangeF n l r.1 r.2).2) l
theorem setRs_snoc (n : Nat) (l : List Nat) (rs : List (Int × Int)) (r : Int × Int) : setRs n l (rs ++ [r]) = (rangeF n (setRs n l rs) r.1 r.2).2 := by simp [setRs]
theorem cutL_in (N : Int) : ∀ (rs : List (Int × Int)) (k : Int), 0 ≤ k → (∀ p ∈ rs, 0 ≤ p.1 ∧ 0 ≤ p.2 ∧ p.1 + p.2 ≤ N) → ∀ p ∈ cutL rs k, 0 ≤ p.1 ∧ p.1 ≤ N
  | [], k, _, _, p, hp => by simp [cutL] at hp
  | r :: rs, k, hk, h, p, hp => by
    unfold cutL at hp
    split at hp
    · simp at hp
    · have hr := h r (by simp)
      rcases List.mem_cons.1 hp with rfl | hp
      · simp only; omega
      · exact cutL_in N rs _ (by rw [min_int]; split <;> omega) (fun p hp => h p (by simp [hp])) p hp
theorem fit_in {rs : List (Int × Int)} {k s : Int} (h : fitF rs k = some s) : ∃ p ∈ rs, p.1 = s := by
  unfold fitF at h
  cases hq : rs.find? (fun r => decide (k ≤ r.2)) with
  | none => rw [hq] at h; cases h
  | some p => rw [hq] at h; exact ⟨p, List.mem_of_find?_eq_some hq, by simpa using h⟩
theorem pick_in {n : Nat} {l : List Nat} {k : Int} (hk : 0 ≤ k) : ∀ p ∈ pickF (frees n l) k, 0 ≤ p.1 ∧ p.1 ≤ n := by
  intro p hp
  unfold pickF at hp
  cases ho : (if k < 1 then none else fitF (frees n l) k) with
  | some s =>
    rw [ho] at hp
    simp at hp
    subst hp
    split at ho
    · cases ho
    · obtain ⟨q, hq, rfl⟩ := fit_in ho
      have := frees_in hq
      simp only
      omega
  | none =>
    rw [ho] at hp
    exact cutL_in n _ k hk (fun p hp => frees_in hp) p hp
theorem cutL_len : ∀ (rs : List (Int × Int)) (k : Int), (cutL rs k).length ≤ rs.length
  | [], k => by simp [cutL]
  | r :: rs, k => by
    unfold cutL
    split
    · simp
    · have := cutL_len rs (k - min r.2 k)
      simp
      omega
theorem pick_len (n : Nat) (l : List Nat) (k : Int) : (pickF (frees n l) k).length ≤ n + 1 := by
  unfold pickF
  split
  · simp
  · exact Nat.le_trans (cutL_len _ _) (freeG_len n l _ _)
theorem take_yes {W : World} {B b n x : Nat} {g c : Nat} (h : Bm W B b n [x] (some ⟨g, 0, none⟩) c) (hx : x < 2 ^ n) (hn : n ≤ 24) (hg : g < W.heap.size) (k : Int) (hk0 : 0 ≤ k) (hk1 : k ≤ (n : Int) - (cnt (bitsOf x n) : Nat)) :
    Calls Tryz.prog 146 #[.pointer (some ⟨b, 0, none⟩), .int .i64 k] W fun e w' => ∃ v, e = .returned (.tuple #[v, .bool true]) ∧ w'.ownsRow W.heap.size 93 2 v (pickF (frees n [x]) k).length (rvs (pickF (frees n [x]) k)) ∧ Bm w' B b n (setRs n [x] (pickF (frees n [x]) k)) (some ⟨g, 0, none⟩) c ∧ Upd [g] W w' := by
  have HF := Lib.hid (free_ h hx hn)
  have H : Hid (∀ {W' : World}, Below W.heap.size W W' → Bm W' B b n [x] (some ⟨g, 0, none⟩) c) := fun {W'} hb => h.keep hb
  have HP : Hid (∀ {W' : World}, Below W.heap.size W W' → _) := fun {W'} hb => pick_ (h.keep hb) k hk0 (by have := cnt_le (bitsOf x n); rw [bitsOf_length] at this; omega)
  have hin := pick_in (n := n) (l := [x]) hk0
  have hlen := pick_len n [x] k
  generalize pickF (frees n [x]) k = R at *
  obtain ⟨m, hm⟩ : ∃ m, m = R.length := ⟨_, rfl⟩
  rw [← hm] at hlen HP
  rw [← hm]
  have HM := Lib.hid hm
  have HIN := Lib.hid hin
  have HG := Lib.hid hg
  have hm9 : m ≤ 25 := by omega
  have HN := Lib.hid hn
  generalize (n : Int) - (cnt (bitsOf x n) : Nat) = f at *
  clear h hx hin hlen hm hg hn
  go_enter Tryz.func146, Tryz.ntmps146
  go_wp2_with (go_at_call 97; refine HF.out.mono ?_; rintro e w1 ⟨rfl, hb1⟩; (have HB1 := Lib.hid hb1); clear hb1)
  refine (HP.out HB1.out).mono ?_
  rintro e w2 ⟨v, rfl, hown, hb2⟩
  obtain ⟨A2, c2, rfl⟩ := own_slice hown
  have HO2 := Lib.hid hown
  have HB2 := Lib.hid (bl_then HB1.out hb2)
  clear hown hb2
  go_wp2_with fail
  go_loopw [22] (fun c22 wr => ∃ i : Nat, i ≤ m ∧ c22 = .int .i64 i ∧ Hid (Bm wr B b n (setRs n [x] (R.take i)) (some ⟨g, 0, none⟩) c ∧ Upd [g] w2 wr)) (fun c22 _ => m - (intOf c22).toNat)
  case atStart => exact ⟨0, Nat.zero_le _, rfl, H.out HB2.out, Upd.refl _ _⟩
  case round =>
    obtain ⟨i, hi, rfl, HR⟩ := hrel
    by_cases hlt : i < m
    · obtain ⟨p, hp⟩ := some_at (l := R) (i := i) (by rw [← HM.out]; exact hlt)
      have hpi := HIN.out p (List.mem_of_getElem? hp)
      have hgB : ∀ k ∈ [g], k < w1.heap.size := fun k hk => by
        have e : k = g := by simpa using hk
        have := HG.out
        have := HB1.out.size
        omega
      obtain ⟨q, off, rfl, hq, g1, g2⟩ := (own_rr (own_upd HO2.out HR.out.2 hgB)).1 i p hp
      have hsn : setRs n [x] (R.take (i + 1)) = (rangeF n (setRs n [x] (R.take i)) p.1 p.2).2 := by rw [take_next hp, setRs_snoc]
      obtain ⟨y, z⟩ := p
      have hgw : g < wr.heap.size := by have := HG.out; have := HB2.out.size; have := HR.out.2.size; omega
      have HRG : Hid (∀ {W' : World}, Below wr.heap.size wr W' → _) := fun {W'} hb => range_ (HR.out.1.keep hb) (Nat.lt_of_lt_of_le hgw hb.size) y z (by have := HN.out; simp only at hpi; omega)
      rw [← hsn] at HRG
      clear hp hpi hgB hsn hgw
      go_wp2_with (go_at_call 180; refine (HRG.out (bl_alloc (Below.refl _ _) _)).mono ?_; rintro e w7 ⟨rfl, q1, q2⟩; (have HQ := Lib.hid (And.intro q1 q2)); clear q1 q2)
      go_roundw
      case rel => exact ⟨i + 1, by omega, by go_num, HQ.out.1, (HR.out.2.alloc _).trans HQ.out.2 (fun x hx => .inl hx)⟩
      case measure => simp [intOf]; omega
    · obtain rfl : i = m := by omega
      go_wp2_with fail
      go_ret2
      have h9 := HR.out.1
      rw [List.take_of_length_le (by rw [← HM.out]; exact Nat.le_refl _)] at h9
      refine ⟨_, rfl, own_upd (own_base HO2.out HB1.out.size) HR.out.2 (fun k hk => ?_), h9, (Upd.of_below HB2.out).trans HR.out.2 (fun x hx => .inl hx)⟩
      have e : k = g := by simpa using hk
      have := HG.out
      omega
theorem lives11 (w : World) : Calls Tryz.prog 100 #[] w fun e w' => e = .returned (.bool true) ∧ Below w.heap.size w w' := by
  have hu := Tryz.underlying93
  go_enter Tryz.func100, Tryz.ntmps100
  go_wp2_with fail
  refine (show Calls _ _ #[.int .i64 6] _ _ from new_ 6 (by decide) w).mono ?_
  rintro e w1 ⟨b, rfl, hm1, hb1⟩
  have HM1 := Lib.hid hm1
  have HB1 := Lib.hid hb1
  clear hm1 hb1
  go_wp2_with fail
  refine (lives10 w1).mono ?_
  rintro e w2 ⟨rfl, hb2⟩
  have HM2 := Lib.hid (HM1.out.keep hb2)
  have HB2 := Lib.hid (bl_then HB1.out hb2)
  have HS2 : Hid (w.heap.size < w2.heap.size) := by have := lt_of HM1.out.box; have := HM1.out.lo; have := hb2.size; show _ < _; omega
  clear hb2
  have HPUT : Hid (Calls Tryz.prog 61 #[.pointer (some ⟨b, 0, none⟩), .slice (some ⟨w2.heap.size, 0, none⟩) 2 2] (w2.alloc (.cells #[.int .i64 1, .int .i64 4] 3)) fun e w' => e = .returned (.int .i64 2) ∧ Bm w' w.heap.size b 6 [18] (some ⟨w.heap.size, 0, none⟩) 1 ∧ Upd [w.heap.size] (w2.alloc (.cells #[.int .i64 1, .int .i64 4] 3)) w') := by
    have h9 := put_ (HM2.out.keep (bl_alloc (Below.refl _ _) (.cells #[.int .i64 1, .int .i64 4] 3))) (two_rk (alloc_new w2 _)) (fun a a' ha ha' => by
      cases ha; cases ha'
      have := HS2.out
      show w.heap.size ≠ w2.heap.size
      omega) 2 (show (2 : Nat) ≤ 1000000000 by decide)
    have e9 : turnL 6 false (List.replicate ((6 + 63) / 64) 0) [1, 4] = ([18], 2) := by decide
    rw [e9] at h9
    refine (show Calls _ _ _ _ _ from h9).mono ?_
    rintro e w' ⟨rfl, q1, q2⟩
    exact ⟨rfl, q1, only_upd q2⟩
  go_wp2_with (go_at_call 61; refine HPUT.out.mono ?_; rintro e w3 ⟨rfl, q1, q2⟩; (have HQ3 := Lib.hid (And.intro q1 q2)); clear q1 q2)
  have HT : Hid (Calls Tryz.prog 146 #[.pointer (some ⟨b, 0, none⟩), .int .i64 3] w3 fun e w' => ∃ A c, e = .returned (.tuple #[.slice A 2 c, .bool true]) ∧ RR w' A [(0, 1), (2, 2)] ∧ Upd [w.heap.size] w3 w') := by
    have h9 := take_yes HQ3.out.1 (by decide) (by decide) (by have := HS2.out; have := HQ3.out.2.size; rw [World.size_alloc] at this; omega) 3 (by decide) (by decide)
    have e9 : pickF (frees 6 [18]) 3 = [(0, 1), (2, 2)] := by decide
    rw [e9] at h9
    refine h9.mono ?_
    rintro e w' ⟨v, rfl, q1, -, q2⟩
    obtain ⟨A, c, rfl⟩ := own_slice q1
    exact ⟨A, c, rfl, (own_rr q1).1, q2⟩
  refine HT.out.mono ?_
  rintro e w4 ⟨A, c, rfl, hr, hu4⟩
  obtain ⟨q, off, rfl, -, g1, g2⟩ := hr 0 _ rfl
  obtain ⟨q', off', e9, -, g3, g4⟩ := hr 1 _ rfl
  simp only [Option.some.injEq, Addr.mk.injEq, and_true] at e9
  obtain ⟨rfl, rfl⟩ := e9
  have g1 : w4.cell? ⟨q, off, none⟩ = some (.int .i64 0) := g1
  have g2 : w4.cell? ⟨q, off + 1, none⟩ = some (.int .i64 1) := g2
  have g3 : w4.cell? ⟨q, off + 2, none⟩ = some (.int .i64 2) := g3
  have g4 : w4.cell? ⟨q, off + 2 + 1, none⟩ = some (.int .i64 2) := g4
  have HB4 : Hid (Below w.heap.size w w4) := (((Upd.of_below (F := [w.heap.size]) HB2.out).alloc _).trans HQ3.out.2 (fun x hx => .inl hx)).trans hu4 (fun x hx => .inl hx) |>.below (fun k hk => by
    have e : k = w.heap.size := by simpa using hk
    omega)
  clear hr hu4
  go_wp2_with fail
  go_ret
  exact ⟨rfl, HB4.out⟩
end Go.Proofs.YtgnagbbdnlmgeaaGreat.Rr
end
section
set_option maxHeartbeats 2000000
set_option maxRecDepth 100000
namespace Go.Proofs.YtgnagbbdnlmgeaaGreat.Cm
open Go Go.RowKit
open Rr Ob Ba Ko Ge Oc Pk Su Rf Dv Vo Ra Jh Tr Iq Bm In Je
def needF (s : Nat) (z : Int) : Int := if z ≤ 0 then 0 else (z - 1) / s + 1
theorem need_ (n m s : Nat) (h : geoOk n m s = true) (hs : 1 ≤ s) (z : Int) (hz : z ≤ 9223372036854775807) (w : World) :
    Calls Tryz.prog 158 #[.agg #[.int .i64 n, .int .i64 m, .int .i64 s], .int .i64 z] w fun e w' => e = .returned (.int .i64 (needF s z)) ∧ Below w.heap.size w w' := by
  have hu := Tryz.underlying34
  have HMY : Hid (∀ w, Calls Tryz.prog 140 #[.agg #[.int .i64 n, .int .i64 m, .int .i64 s]] w fun e w' => e = .returned (.bool true) ∧ Below w.heap.size w w') := fun w => by
    have := Ge.may_ n m s w
    rw [h] at this
    exact this
  by_cases h0 : z ≤ 0
  · have e : needF s z = 0 := by unfold needF; rw [if_pos h0]
    rw [e]
    clear h e
    go_enter Tryz.func158, Tryz.ntmps158
    go_wp2_with fail
    go_ret
    exact ⟨rfl, bl_alloc (Below.refl _ _) _⟩
  · have HE : Hid (needF s z = (z - 1) / s + 1) := by show _ = _; unfold needF; rw [if_neg h0]
    rw [HE.out]
    have hsz : ((s : Int) == 0) = false := by rw [beq_eq_false_iff_ne]; omega
    have HD : Hid (0 ≤ (z - 1) / (s : Int) ∧ (z - 1) / (s : Int) ≤ z - 1) := ⟨Int.ediv_nonneg (by omega) (by omega), Int.ediv_le_self _ (by omega)⟩
    have hd1 := HD.out.1
    have hd2 := HD.out.2
    have hq := alloc_new w (.cells #[.int .i64 n, .int .i64 m, .int .i64 s] 34)
    have HQ := Lib.hid hq
    have ht : (z - 1).tdiv (s : Int) = (z - 1) / (s : Int) := Int.tdiv_eq_ediv_of_nonneg (by omega)
    clear h hq
    go_enter Tryz.func158, Tryz.ntmps158
    go_wp2_with fail
    refine (HMY.out _).mono ?_
    rintro e w1 ⟨rfl, hb1⟩
    have HB1 := Lib.hid (bl_then (bl_alloc (Below.refl _ _) _) hb1)
    have hq1 := blk_bl HQ.out hb1
    have k2 := cell_of hq1 2
    clear hq1 hb1
    go_wp2_with fail
    go_ret
    exact ⟨rfl, HB1.out⟩
def inL (ws : List Nat) (i : Nat) : List Nat := (ws.drop (16 + 8 * i)).take 8
def inF (ws : List Nat) (m : Nat) (i : Int) : Option (Int × Int × Int) := if 0 ≤ i ∧ i < m then (if ok6 (inL ws i.toNat) then some (n6 (inL ws i.toNat)) else none) else none
def inV (o : Option (Int × Int × Int)) : Int × Int × Int := o.getD (0, -1, 0)
theorem lds_any {d : Dev} {ws : List Nat} (hwd : Pm.wordsOf d = ints ws) {k n : Nat} (h : k + n ≤ ws.length) : lds d k n = ints ((ws.drop k).take n) := by
  have e : d.las.length = ws.length := by rw [← Pm.wordsOf_length, hwd, ints_length]
  rw [Md.lds_drop (by rw [e]; exact h), hwd, ints_dt]
theorem inode_call {W : World} {v b n m s : Nat} {d : Dev} {g : Lay} {ws : List Nat} (hv : VolIs W v b n m s d g) (hwd : Pm.wordsOf d = ints ws) (hlt : ∀ x ∈ ws, x < 18446744073709551616) (hfit : 16 + 8 * m ≤ ws.length) (i : Int) :
    Calls Tryz.prog 19 #[.pointer (some ⟨v, 0, none⟩), .int .i64 i] W fun o w' => ∃ e : Int, o = .returned (.tuple #[.agg #[.int .i64 (inV (inF ws m i)).1, .int .i64 (inV (inF ws m i)).2.1, .int .i64 (inV (inF ws m i)).2.2], .int .i64 e]) ∧ (e != 0) = (inF ws m i).isNone ∧ Below W.heap.size W w' := by
  by_cases hi : i < 0 ∨ (m : Int) ≤ i
  · have hs : inF ws m i = none := by unfold inF; rw [if_neg (by omega)]
    rw [hs]
    exact (inode_out hv i hi).mono fun e w' ⟨h1, h2⟩ => ⟨9, h1, rfl, h2⟩
  · have hk : ((16 + 8 * i.toNat : Nat) : Int) = 16 + 8 * i := by omega
    have hl := lds_any hwd (k := 16 + 8 * i.toNat) (n := 8) (by omega)
    have hs : inF ws m i = if ok6 (inL ws i.toNat) then some (n6 (inL ws i.toNat)) else none := by unfold inF; rw [if_pos (by omega)]
    refine (inode_get hv i (by omega) _ hk _ hl (fun x hx => hlt x (List.mem_of_mem_drop (List.mem_of_mem_take hx)))).mono ?_
    rintro e w' ⟨h1, h2⟩
    unfold D6 at h1
    rw [hs]
    cases h9 : ok6 (inL ws i.toNat) with
    | true => 
      refine ⟨0, ?_, rfl, h2⟩
      rw [h1, show (ws.drop (16 + 8 * i.toNat)).take 8 = inL ws i.toNat from rfl, h9]
      rfl
    | false =>
      refine ⟨2, ?_, rfl, h2⟩
      rw [h1, show (ws.drop (16 + 8 * i.toNat)).take 8 = inL ws i.toNat from rfl, h9]
      unfold n6
      rw [h9]
      rfl
structure Own where
  k : Int
  h : Int
  z : Int
  sa : Option Addr
  sc : Nat
  pa : Option Addr
  pc : Nat
  L : List (Int × Tri)
def Own.vs (e : Own) : List Value := [.int .i64 e.k, .int .i64 e.h, .int .i64 e.z, .slice e.sa e.L.length e.sc, .slice e.pa e.L.length e.pc]
def ovs (l : List Own) : List Value := l.flatMap Own.vs
theorem ovs_length (l : List Own) : (ovs l).length = l.length * 5 := by
  induction l with
  | nil => rfl
  | cons a r ih => simp [ovs, Own.vs] at ih ⊢; omega
theorem ovs_append (a b : List Own) : ovs (a ++ b) = ovs a ++ ovs b := by simp [ovs]
theorem ovs_get {l : List Own} {i : Nat} {p : Own} (h : l[i]? = some p) : (ovs l)[i * 5]? = some (.int .i64 p.k) ∧ (ovs l)[i * 5 + 1]? = some (.int .i64 p.h) ∧ (ovs l)[i * 5 + 2]? = some (.int .i64 p.z) ∧ (ovs l)[i * 5 + 3]? = some (.slice p.sa p.L.length p.sc) ∧ (ovs l)[i * 5 + 4]? = some (.slice p.pa p.L.length p.pc) := by
  induction l generalizing i with
  | nil => simp at h
  | cons a r ih =>
    have e : ovs (a :: r) = .int .i64 a.k :: .int .i64 a.h :: .int .i64 a.z :: .slice a.sa a.L.length a.sc :: .slice a.pa a.L.length a.pc :: ovs r := rfl
    cases i with
    | zero => simp at h; subst h; exact ⟨rfl, rfl, rfl, rfl, rfl⟩
    | succ i =>
      simp at h
      obtain ⟨h1, h2, h3, h4, h5⟩ := ih h
      rw [e, show (i + 1) * 5 = i * 5 + 5 by omega]
      exact ⟨h1, h2, h3, h4, h5⟩
structure Ch (W : World) (B : Nat) (e : Own) : Prop where
  slots : W.ownsRow B 3 1 (.slice e.sa e.L.length e.sc) e.L.length (ivs .i64 (e.L.map Prod.fst))
  parts : W.ownsRow B 51 3 (.slice e.pa e.L.length e.pc) e.L.length (tvs (e.L.map Prod.snd))
theorem Ch.keep {W W' : World} {B : Nat} {e : Own} (h : Ch W B e) (hb : Below W.heap.size W W') : Ch W' B e := ⟨own_bl h.slots hb, own_bl h.parts hb⟩
structure Cl (W : World) (B q b1 b2 n : Nat) (l1 l2 : List Nat) (g1 g2 c1 c2 : Nat) (es : List Own) (LA : Option Addr) (lc : Nat) : Prop where
  blk : W.heap[q]? = some (.cells #[.slice LA es.length lc, .pointer (some ⟨b1, 0, none⟩), .pointer (some ⟨b2, 0, none⟩)] 179 (0, 0))
  lo : B ≤ q
  row : W.ownsRow B 185 5 (.slice LA es.length lc) es.length (ovs es)
  chs : ∀ e ∈ es, Ch W B e
  bm1 : Bm W B b1 n l1 (some ⟨g1, 0, none⟩) c1
  bm2 : Bm W B b2 n l2 (some ⟨g2, 0, none⟩) c2
  neb : b1 ≠ b2
  neg : g1 ≠ g2
theorem Cl.keep {W W' : World} {B q b1 b2 n : Nat} {l1 l2 : List Nat} {g1 g2 c1 c2 : Nat} {es : List Own} {LA : Option Addr} {lc : Nat} (h : Cl W B q b1 b2 n l1 l2 g1 g2 c1 c2 es LA lc) (hb : Below W.heap.size W W') : Cl W' B q b1 b2 n l1 l2 g1 g2 c1 c2 es LA lc :=
  ⟨blk_bl h.blk hb, h.lo, own_bl h.row hb, fun e he => (h.chs e he).keep hb, h.bm1.keep hb, h.bm2.keep hb, h.neb, h.neg⟩
end Go.Proofs.YtgnagbbdnlmgeaaGreat.Cm
end
section
namespace Go.Proofs.YtgnagbbdnlmgeaaGreat.Tr
open Go Go.RowKit
open Ob Ba Oc Pk Ge Ko Dv Vo Ra Su Lo Je
theorem chainF_cases {n : Nat} {sl : Int → Option Tri} {k : Nat} {s : Int} {L : List (Int × Tri)} (h : chainF n sl k s = some L) :
    (s = -1 ∧ L = []) ∨ ∃ j t r, k = j + 1 ∧ s ≠ -1 ∧ sl s = some t ∧ ¬ (n : Int) < t.1 + t.2.1 ∧ chainF n sl j t.2.2 = some r ∧ L = (s, t) :: r := by
  by_cases hs : s = -1
  · subst hs
    rw [chainF_stop] at h
    exact .inl ⟨rfl, (Option.some.inj h).symm⟩
  · cases k with
    | zero => rw [chainF_bad hs (.inr (.inr rfl))] at h; cases h
    | succ j =>
      cases ht : sl s with
      | none => rw [chainF_bad hs (.inl ht)] at h; cases h
      | some t =>
        by_cases hb : (n : Int) < t.1 + t.2.1
        · rw [chainF_bad hs (.inr (.inl ⟨t, ht, hb⟩))] at h; cases h
        · rw [chainF_step hs ht hb] at h
          cases hc : chainF n sl j t.2.2 with
          | none => rw [hc] at h; cases h
          | some r =>
            rw [hc] at h
            exact .inr ⟨j, t, r, rfl, hs, rfl, hb, hc, (Option.some.inj h).symm⟩
theorem chainF_at {n : Nat} {sl : Int → Option Tri} : ∀ (k : Nat) (s : Int) (L : List (Int × Tri)), chainF n sl k s = some L → ∀ (i : Nat) x, L[i]? = some x →
    chainF n sl k x.1 = some (L.drop i) ∧ sl x.1 = some x.2 ∧ ¬ (n : Int) < x.2.1 + x.2.2.1 ∧ (L.length = i + 1 → x.2.2.2 = -1)
  | k, s, L, h, i, x, hx => by
    rcases chainF_cases h with ⟨-, rfl⟩ | ⟨j, t, r, rfl, hs, ht, hb, hc, rfl⟩
    · simp at hx
    · cases i with
      | zero =>
        simp at hx
        subst hx
        refine ⟨h, ht, hb, fun hl => ?_⟩
        have : r = [] := by simpa using hl
        subst this
        rcases chainF_cases hc with ⟨e, -⟩ | ⟨_, _, _, -, -, -, -, -, e⟩
        · exact e
        · cases e
      | succ i =>
        rw [List.getElem?_cons_succ] at hx
        obtain ⟨h1, h2, h3, h4⟩ := chainF_at j t.2.2 r hc i x hx
        exact ⟨chainF_mono _ _ _ h1, h2, h3, fun hl => h4 (by simp at hl; omega)⟩
theorem chainF_len {n : Nat} {sl : Int → Option Tri} : ∀ (k : Nat) (s : Int) (L : List (Int × Tri)), chainF n sl k s = some L → L.length ≤ k
  | k, s, L, h => by
    rcases chainF_cases h with ⟨-, rfl⟩ | ⟨j, t, r, rfl, hs, ht, hb, hc, rfl⟩
    · simp
    · have := chainF_len j t.2.2 r hc
      simp; omega
def nxS : List (Int × (Int × Int)) → Int
  | [] => -1
  | x :: _ => x.1
def wrW (m : Nat) (ws : List Nat) : List (Int × (Int × Int)) → List Nat
  | [] => ws
  | x :: r => (wrW m ws r).set (16 + 8 * m + x.1.toNat) (sEnc x.2.1 x.2.2 (nxS r))
def triS : List (Int × (Int × Int)) → List (Int × Tri)
  | [] => []
  | x :: r => (x.1, x.2.1, x.2.2, nxS r) :: triS r
theorem triS_fst : ∀ z, (triS z).map Prod.fst = z.map Prod.fst
  | [] => rfl
  | x :: r => by show x.1 :: _ = x.1 :: _; rw [triS_fst r]
theorem wrW_len (m : Nat) (ws : List Nat) : ∀ z, (wrW m ws z).length = ws.length
  | [] => rfl
  | x :: r => by show ((wrW m ws r).set _ _).length = _; rw [List.length_set, wrW_len m ws r]
def GoodS (n : Nat) (z : List (Int × (Int × Int))) : Prop := ∀ x ∈ z, 0 ≤ x.1 ∧ x.1 < n ∧ 0 ≤ x.2.1 ∧ x.2.1 < n ∧ 1 ≤ x.2.2 ∧ x.2.2 ≤ n - x.2.1
theorem GoodS.tail {n : Nat} {x : Int × (Int × Int)} {r : List (Int × (Int × Int))} (h : GoodS n (x :: r)) : GoodS n r := fun y hy => h y (List.mem_cons_of_mem _ hy)
theorem nxS_in {n : Nat} {z : List (Int × (Int × Int))} (h : GoodS n z) : -1 ≤ nxS z ∧ nxS z < (n : Int) ∨ nxS z = -1 := by
  cases z with
  | nil => exact .inr rfl
  | cons x r => have := h x (by simp); exact .inl ⟨by show -1 ≤ x.1; omega, this.2.1⟩
theorem GoodS.may {n : Nat} (hn : n ≤ 65534) {x : Int × (Int × Int)} {r : List (Int × (Int × Int))} (h : GoodS n (x :: r)) : sMay x.2.1 x.2.2 (nxS r) = true := by
  have h1 := h x (by simp)
  have h2 := nxS_in h.tail
  exact decide_eq_true (by omega)
theorem wrW_lt {n m : Nat} (hn : n ≤ 65534) {ws : List Nat} (hlt : ∀ x ∈ ws, x < 18446744073709551616) : ∀ {z : List (Int × (Int × Int))}, GoodS n z → ∀ x ∈ wrW m ws z, x < 18446744073709551616
  | [], _ => hlt
  | x :: r, h => fun y hy => by
    rcases List.mem_or_eq_of_mem_set hy with h1 | h1
    · exact wrW_lt hn hlt h.tail y h1
    · rw [h1]; exact sEnc_lt _ _ _ (h.may hn)
theorem slF_hit {ws : List Nat} {n m : Nat} {s a b c : Int} (hs : 0 ≤ s ∧ s < n) (hfit : 16 + 8 * m + n ≤ ws.length) (hm : sMay a b c = true) : slF (ws.set (16 + 8 * m + s.toNat) (sEnc a b c)) n m s = some (a, b, c) := by
  have hk : 16 + 8 * m + s.toNat < ws.length := by omega
  have e : (ws.set (16 + 8 * m + s.toNat) (sEnc a b c)).getD (16 + 8 * m + s.toNat) 0 = sEnc a b c := by
    rw [List.getD_eq_getElem?_getD, List.getElem?_set_self hk]
    rfl
  obtain ⟨h1, h2, h3, h4, h5, h6⟩ := of_decide_eq_true hm
  obtain ⟨q1, q2, q3⟩ := sEnc_parts a b c hm
  have e1 : ((a.toNat : Nat) : Int) = a := by omega
  have e2 : ((b.toNat : Nat) : Int) = b := by omega
  have e3 := nxt_nx c h5 h6
  have ho : ok7 (sEnc a b c) = true := by
    unfold ok7
    rw [q1, q2, q3, e1, e2, e3, hm, decide_eq_true rfl]
    rfl
  unfold slF
  rw [if_pos hs, e, if_pos ho]
  unfold s7
  rw [if_pos ho, q1, q2, q3, e1, e2, e3]
theorem slF_miss {ws : List Nat} {n m y : Nat} {s s' : Int} (hs : 0 ≤ s) (hne : s' ≠ s) : slF (ws.set (16 + 8 * m + s.toNat) y) n m s' = slF ws n m s' := by
  unfold slF
  by_cases h : 0 ≤ s' ∧ s' < n
  · have e : (ws.set (16 + 8 * m + s.toNat) y).getD (16 + 8 * m + s'.toNat) 0 = ws.getD (16 + 8 * m + s'.toNat) 0 := by
      rw [List.getD_eq_getElem?_getD, List.getD_eq_getElem?_getD, List.getElem?_set_ne (by omega)]
    rw [if_pos h, if_pos h, e]
  · rw [if_neg h, if_neg h]
theorem wrW_slF {n m : Nat} (hn : n ≤ 65534) {ws : List Nat} (hfit : 16 + 8 * m + n ≤ ws.length) : ∀ {z : List (Int × (Int × Int))}, GoodS n z → (z.map Prod.fst).Nodup → ∀ x ∈ triS z, slF (wrW m ws z) n m x.1 = some x.2
  | [], _, _ => fun x hx => by cases hx
  | y :: r, h, hd => fun x hx => by
    have hy := h y (by simp)
    rw [List.map_cons, List.nodup_cons] at hd
    rcases List.mem_cons.1 hx with rfl | hx
    · exact slF_hit ⟨hy.1, hy.2.1⟩ (by rw [wrW_len]; exact hfit) (h.may hn)
    · have hne : x.1 ≠ y.1 := fun e => hd.1 (by rw [← triS_fst, ← e]; exact List.mem_map_of_mem hx)
      show slF ((wrW m ws r).set _ _) n m x.1 = _
      rw [slF_miss hy.1 hne]
      exact wrW_slF hn hfit h.tail hd.2 x hx
theorem chainF_tri {n : Nat} {sl : Int → Option Tri} : ∀ {z : List (Int × (Int × Int))}, GoodS n z → (∀ x ∈ triS z, sl x.1 = some x.2) → ∀ k, z.length ≤ k → chainF n sl k (nxS z) = some (triS z)
  | [], _, _, k, _ => chainF_stop _ _ _
  | y :: r, h, hs, k, hk => by
    obtain ⟨j, rfl⟩ : ∃ j, k = j + 1 := ⟨k - 1, by simp at hk; omega⟩
    have hy := h y (by simp)
    have h1 := hs (y.1, y.2.1, y.2.2, nxS r) (by simp [triS])
    have h2 := chainF_tri h.tail (fun x hx => hs x (by simp [triS, hx])) j (by simp at hk; omega)
    show chainF n sl (j + 1) y.1 = _
    rw [chainF_step (by omega) h1 (by show ¬ _ < y.2.1 + y.2.2; omega)]
    show (chainF n sl j (nxS r)).map _ = _
    rw [h2]
    rfl
theorem wrW_chain {n m : Nat} (hn : n ≤ 65534) {ws : List Nat} (hfit : 16 + 8 * m + n ≤ ws.length) {z : List (Int × (Int × Int))} (h : GoodS n z) (hd : (z.map Prod.fst).Nodup) : chainF n (slF (wrW m ws z) n m) n (nxS z) = some (triS z) := by
  refine chainF_tri h (wrW_slF hn hfit h hd) n ?_
  have := pigeon n (z.map Prod.fst) hd (fun x hx => by
    obtain ⟨y, hy, rfl⟩ := List.mem_map.1 hx
    have := h y hy
    exact ⟨this.1, this.2.1⟩)
  simpa using this
end Go.Proofs.YtgnagbbdnlmgeaaGreat.Tr
end
section
namespace Go.Proofs.YtgnagbbdnlmgeaaGreat.Cm
open Go Go.RowKit
open Rr Ob Ba Ko Ge Oc Pk Su Rf Dv Vo Ra Jh Tr Iq Bm In Je
theorem own_grownT {w w' : World} {B B' T T' s s' n n' : Nat} {v v' : Value} {xs xs' : List Value} (hr : w.ownsRow B T s v n xs) (hg : w.grownBy w' v.ownBlock) (h : w.ownsRow B' T' s' v' n' xs') (hT : T ≠ T') : w'.ownsRow B' T' s' v' n' xs' :=
  own_grown hg h fun k hk => by
    obtain ⟨cur, hc⟩ := Bm.own_blk' h hk
    exact ne_type hr hc hT
theorem own_setT {w : World} {B T s n q o : Nat} {v y : Value} {xs : List Value} {cur : Array Value} {T' : Nat} {fr : Nat × Nat} (h : w.ownsRow B T s v n xs) (hq : w.heap[q]? = some (.cells cur T' fr)) (hT : T ≠ T') : (w.setCell ⟨q, o, none⟩ y).ownsRow B T s v n xs :=
  Vo.own_kq h fun k hk => Below.heap_setCell w _ _ k (fun e => ne_type h hq hT (by rw [hk]; exact congrArg some e))
theorem bm_grown {w w' : World} {B B' T s n b m : Nat} {v : Value} {xs : List Value} {l : List Nat} {g c : Nat} (hr : w.ownsRow B T s v n xs) (hg : w.grownBy w' v.ownBlock) (h : Bm w B' b m l (some ⟨g, 0, none⟩) c) (h1 : T ≠ 182) (h2 : T ≠ 94) : Bm w' B' b m l (some ⟨g, 0, none⟩) c :=
  ⟨grown_blk hg h.box (ne_type hr h.box h1), own_grownT hr hg h.row h2, h.lo, h.apart, h.len, h.lt, h.le⟩
theorem bm_setT {w : World} {B b m q o : Nat} {y : Value} {l : List Nat} {g c : Nat} {cur : Array Value} {T' : Nat} {fr : Nat × Nat} (h : Bm w B b m l (some ⟨g, 0, none⟩) c) (hq : w.heap[q]? = some (.cells cur T' fr)) (h1 : T' ≠ 182) (h2 : 94 ≠ T') : Bm (w.setCell ⟨q, o, none⟩ y) B b m l (some ⟨g, 0, none⟩) c :=
  ⟨set_blk h.box (fun e => by
      have h9 := h.box
      rw [← e, hq] at h9
      simp only [Option.some.injEq, Obj.cells.injEq] at h9
      exact h1 h9.2.1), own_setT h.row hq h2, h.lo, h.apart, h.len, h.lt, h.le⟩
theorem bm_blkg {w : World} {B b m : Nat} {l : List Nat} {g c : Nat} (h : Bm w B b m l (some ⟨g, 0, none⟩) c) : ∃ cur, w.heap[g]? = some (.cells cur 94 (0, 0)) := Bm.own_blk' h.row rfl
theorem bm_lo {w : World} {B b m : Nat} {l : List Nat} {g c : Nat} (h : Bm w B b m l (some ⟨g, 0, none⟩) c) : B ≤ g := own_lo h.row g rfl
theorem only_blk {w w' : World} {g k : Nat} {c1 : Array Value} (ho : Only (some ⟨g, 0, none⟩) w w') (hg : w.heap[g]? = some (.cells c1 94 (0, 0))) {cur : Array Value} {T : Nat} {fr : Nat × Nat} (hk : w.heap[k]? = some (.cells cur T fr)) (hT : T ≠ 94) : w'.heap[k]? = some (.cells cur T fr) :=
  (ho.block k (fun a ha e => by
    cases ha
    rw [← e] at hk
    rw [hg] at hk
    simp only [Option.some.injEq, Obj.cells.injEq] at hk
    exact hT hk.2.1.symm)).trans hk
theorem only_own {w w' : World} {g B T s n : Nat} {v : Value} {xs : List Value} {c1 : Array Value} (ho : Only (some ⟨g, 0, none⟩) w w') (hg : w.heap[g]? = some (.cells c1 94 (0, 0))) (h : w.ownsRow B T s v n xs) (hT : T ≠ 94) : w'.ownsRow B T s v n xs :=
  Vo.own_kq h fun k hk => by
    obtain ⟨cur, hc⟩ := Bm.own_blk' h hk
    rw [only_blk ho hg hc hT, hc]
theorem only_bm {w w' : World} {g B b m g' c' : Nat} {l : List Nat} {c1 : Array Value} (ho : Only (some ⟨g, 0, none⟩) w w') (hg : w.heap[g]? = some (.cells c1 94 (0, 0))) (h : Bm w B b m l (some ⟨g', 0, none⟩) c') (hne : g ≠ g') : Bm w' B b m l (some ⟨g', 0, none⟩) c' :=
  ⟨only_blk ho hg h.box (by decide), Vo.own_kq h.row fun k hk => by
    have : g' = k := by simpa [Value.ownBlock] using hk
    subst this
    exact ho.block _ (fun a ha e => by cases ha; exact hne e), h.lo, h.apart, h.len, h.lt, h.le⟩
theorem only_below {w w' : World} {g B : Nat} (ho : Only (some ⟨g, 0, none⟩) w w') (hB : B ≤ g) : Below B w w' :=
  ⟨ho.os, ho.tape, ho.output, Nat.le_of_eq ho.size.symm, fun k hk => ho.block k (fun a ha e => by cases ha; simp only at e; omega)⟩
theorem Cl.push {X w7 : World} {B q b1 b2 n : Nat} {l1 l2 : List Nat} {g1 g2 c1 c2 : Nat} {es : List Own} {LA : Option Addr} {lc : Nat} (h : Cl X B q b1 b2 n l1 l2 g1 g2 c1 c2 es LA lc) {e : Own} (he : Ch X B e) {p : Option Addr} {cap : Nat}
    (ho : w7.ownsRow B 185 5 (.slice p (es.length + 1) cap) (es.length + 1) (ovs es ++ e.vs)) (hg : X.grownBy w7 (Value.slice LA es.length lc).ownBlock) :
    w7.heap[q]? = some (.cells #[.slice LA es.length lc, .pointer (some ⟨b1, 0, none⟩), .pointer (some ⟨b2, 0, none⟩)] 179 (0, 0)) ∧
    Cl (w7.setCell ⟨q, 0, none⟩ (.slice p (es.length + 1) cap)) B q b1 b2 n l1 l2 g1 g2 c1 c2 (es ++ [e]) p cap := by
  have hq := grown_blk hg h.blk (ne_type h.row h.blk (by decide))
  have hl : (es ++ [e]).length = es.length + 1 := by simp
  refine ⟨hq, ?_, h.lo, ?_, fun x hx => ?_, bm_setT (bm_grown h.row hg h.bm1 (by decide) (by decide)) hq (by decide) (by decide), bm_setT (bm_grown h.row hg h.bm2 (by decide) (by decide)) hq (by decide) (by decide), h.neb, h.neg⟩
  · rw [hl]
    exact set_same hq 0 _
  · rw [hl, ovs_append]
    have e9 : ovs [e] = e.vs := by simp [ovs]
    rw [e9]
    exact own_setT ho hq (by decide)
  · have hx2 : Ch X B x := by
      rcases List.mem_append.1 hx with h9 | h9
      · exact h.chs x h9
      · have : x = e := by simpa using h9
        rw [this]; exact he
    exact ⟨own_setT (own_grownT h.row hg hx2.slots (by decide)) hq (by decide), own_setT (own_grownT h.row hg hx2.parts (by decide)) hq (by decide)⟩
theorem Cl.put2 {X w' : World} {B q b1 b2 n : Nat} {l1 l2 l2' : List Nat} {g1 g2 c1 c2 : Nat} {es : List Own} {LA : Option Addr} {lc : Nat} (h : Cl X B q b1 b2 n l1 l2 g1 g2 c1 c2 es LA lc) (ho : Only (some ⟨g2, 0, none⟩) X w') (hb : Bm w' B b2 n l2' (some ⟨g2, 0, none⟩) c2) : Cl w' B q b1 b2 n l1 l2' g1 g2 c1 c2 es LA lc := by
  obtain ⟨cur, hg⟩ := bm_blkg h.bm2
  exact ⟨only_blk ho hg h.blk (by decide), h.lo, only_own ho hg h.row (by decide), fun x hx => ⟨only_own ho hg (h.chs x hx).slots (by decide), only_own ho hg (h.chs x hx).parts (by decide)⟩, only_bm ho hg h.bm1 (fun e => h.neg e.symm), hb, h.neb, h.neg⟩
theorem Cl.put1 {X w' : World} {B q b1 b2 n : Nat} {l1 l1' l2 : List Nat} {g1 g2 c1 c2 : Nat} {es : List Own} {LA : Option Addr} {lc : Nat} (h : Cl X B q b1 b2 n l1 l2 g1 g2 c1 c2 es LA lc) (ho : Only (some ⟨g1, 0, none⟩) X w') (hb : Bm w' B b1 n l1' (some ⟨g1, 0, none⟩) c1) : Cl w' B q b1 b2 n l1' l2 g1 g2 c1 c2 es LA lc := by
  obtain ⟨cur, hg⟩ := bm_blkg h.bm1
  exact ⟨only_blk ho hg h.blk (by decide), h.lo, only_own ho hg h.row (by decide), fun x hx => ⟨only_own ho hg (h.chs x hx).slots (by decide), only_own ho hg (h.chs x hx).parts (by decide)⟩, hb, only_bm ho hg h.bm2 h.neg, h.neb, h.neg⟩
theorem Cl.far {X : World} {B q b1 b2 n : Nat} {l1 l2 : List Nat} {g1 g2 c1 c2 : Nat} {es : List Own} {LA : Option Addr} {lc : Nat} (h : Cl X B q b1 b2 n l1 l2 g1 g2 c1 c2 es LA lc) : B ≤ X.heap.size := Nat.le_trans h.lo (Nat.le_of_lt (lt_of h.blk))
end Go.Proofs.YtgnagbbdnlmgeaaGreat.Cm
end
