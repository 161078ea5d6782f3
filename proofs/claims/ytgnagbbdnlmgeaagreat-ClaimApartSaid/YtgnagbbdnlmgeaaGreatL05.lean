/- Parts of the proof, one behind the other: PmS, Eq, Bo, Rr, Ko, Ge, Gf, Gg. -/
import Derived.Test.YtgnagbbdnlmgeaaGreatL04
import Derived.RegionTactic
import Derived.ChangeAlike
import Derived.Deep.RegionHeld3
import Derived.Deep.AppendLies
import Derived.Test.YtgnagbbdnlmgeaaGreatL01
import Derived.Test.YtgnagbbdnlmgeaaGreatProg
import Derived.WalkKit
import Derived.WalkSpells
import Derived.LoopTactic
import Derived.Lib.Hide
import Derived.Deep.RegionWith
set_option linter.unusedVariables false
set_option linter.unusedSimpArgs false
set_option linter.unusedSectionVars false
section
set_option maxHeartbeats 1000000
namespace Go.Proofs.YtgnagbbdnlmgeaaGreat.Pm
open Go Go.RowKit
open Go.ChangeMaps (setBlock)
open Ob Mp Dv Wl
def lastOf (p : Pen) : Int := p.l.getD (p.l.length - 1) 0
def wordsOf (d : Dev) : List Int := d.las.mapIdx fun i x => match d.find (i : Int) with | some p => lastOf p | none => x
theorem wordsOf_length (d : Dev) : (wordsOf d).length = d.las.length := by simp [wordsOf]
theorem wordsOf_get (d : Dev) (i : Nat) (h : i < d.las.length) : (wordsOf d)[i]? = some (d.load (i : Int)) := by
  unfold wordsOf
  rw [List.getElem?_mapIdx, List.getElem?_eq_getElem h]
  simp only [Option.map_some, Option.some.injEq, Dev.load]
  cases d.find (i : Int) with
  | some p => rfl
  | none =>
    have : d.inn (i : Int) = true := by simp [Dev.inn, h]
    simp [Dev.lasting, this, h]
theorem wordsOf_eq (d : Dev) : wordsOf d = (List.range d.las.length).map fun i : Nat => d.load (i : Int) := by
  apply List.ext_getElem?
  intro i
  by_cases h : i < d.las.length
  · rw [wordsOf_get d i h, List.getElem?_map, List.getElem?_range h]; rfl
  · rw [List.getElem?_eq_none (by rw [wordsOf_length]; omega), List.getElem?_eq_none (by simp; omega)]
theorem own_set {W : World} {B T n q c : Nat} {xs : List Value} (h : W.ownsRow B T 1 (.slice (some ⟨q, 0, none⟩) n c) n xs) {i : Nat} (hi : i < n) (u : Value) : (W.setCell ⟨q, i, none⟩ u).ownsRow B T 1 (.slice (some ⟨q, 0, none⟩) n c) n (xs.set i u) := by
  obtain ⟨h1, ⟨h2, _⟩ | ⟨g, cap, cur, hv, hg, hb, hn, hm, hs, ht⟩⟩ := h
  · cases h2
  · simp only [Value.slice.injEq, Option.some.injEq, Addr.mk.injEq, and_true, true_and] at hv
    obtain ⟨rfl, rfl⟩ := hv
    refine ⟨by rw [List.length_set]; exact h1, .inr ⟨q, c, cur.setIfInBounds i u, rfl, hg, set_same hb i u, hn, hm, by simpa using hs, ?_⟩⟩
    rw [← ht]
    simp [List.take_set]
end Go.Proofs.YtgnagbbdnlmgeaaGreat.Pm
end
section
set_option maxHeartbeats 1000000
namespace Go.Proofs.YtgnagbbdnlmgeaaGreat.Pm
open Go Go.RowKit
open Go.ChangeMaps (setBlock)
open Ob Mp Dv Wl
theorem Rd.drewN {w : World} {A : Option Addr} {l : List Int} (h : Rd w A l) (n : Nat) : Rd (w.drewN n) A l := h
theorem drewN_two (w : World) (a b : Nat) : (w.drewN a).drewN b = w.drewN (a + b) := by simp [World.drewN, Nat.add_assoc]
theorem eq_step {l m : List Int} {i : Nat} {x y : Int} (hx : l[i]? = some x) (hy : m[i]? = some y) (h : l.take i = m.take i) (e : x = y) : l.take (i + 1) = m.take (i + 1) := by
  obtain ⟨h1, h2⟩ := List.getElem?_eq_some_iff.1 hx
  obtain ⟨h3, h4⟩ := List.getElem?_eq_some_iff.1 hy
  rw [List.take_succ_eq_append_getElem h1, List.take_succ_eq_append_getElem h3, h2, h4, h, e]
set_option maxRecDepth 100000 in
theorem equal_any {w : World} {A B : Option Addr} {l m : List Int} (h : Rd w A l) (k : Rd w B m) (c1 c2 : Nat) (hl : l.length ≤ 9223372036854775807) (hm : m.length ≤ 9223372036854775807) :
    Calls Tryz.prog 134 #[.slice A l.length c1, .slice B m.length c2] w fun e w' => e = .returned (.bool (decide (l = m))) ∧ ∃ n, w' = w.drewN n := by
  have H := Lib.hid h
  have K := Lib.hid k
  clear h k
  by_cases he : l.length = m.length
  · obtain ⟨n, hn⟩ : ∃ n, n = l.length := ⟨_, rfl⟩
    rw [← he, ← hn]
    rw [← hn] at hl
    have HN : Hid (n = l.length ∧ n = m.length) := ⟨hn, by rw [hn, he]⟩
    clear hn he hm
    go_enter Tryz.func134, Tryz.ntmps134
    go_wp2_with fail
    go_loopw [13] (fun c13 wr => ∃ i : Nat, i ≤ n ∧ c13 = .int .i64 i ∧ ∃ q, Hid (wr = w.drewN q ∧ l.take i = m.take i)) (fun c13 _ => n - (intOf c13).toNat)
    case atStart => exact ⟨0, Nat.zero_le _, rfl, 0, rfl, rfl⟩
    case round =>
      obtain ⟨i, hi, rfl, q, HR⟩ := hrel
      by_cases hlt : i < n
      · obtain ⟨x, hx⟩ : ∃ x, l[i]? = some x := ⟨_, List.getElem?_eq_getElem (by rw [← HN.out.1]; exact hlt)⟩
        obtain ⟨y, hy⟩ : ∃ y, m[i]? = some y := ⟨_, List.getElem?_eq_getElem (by rw [← HN.out.2]; exact hlt)⟩
        have hl2 : Rd wr A l := by rw [HR.out.1]; exact H.out.drewN q
        have hm2 : Rd wr B m := by rw [HR.out.1]; exact K.out.drewN q
        obtain ⟨a, rfl, -, ha⟩ := hl2 i x hx
        obtain ⟨b, rfl, -, hb⟩ := hm2 i y hy
        have HX := Lib.hid (And.intro hx hy)
        clear hx hy hl2 hm2
        by_cases hxy : x = y
        · have e1 : (x != y) = false := by simp [hxy]
          have EX := Lib.hid hxy
          clear hxy
          go_wp2
          go_quiet (fail)
          go_wp2
          go_roundw
          case rel => exact ⟨i + 1, by omega, by go_num, q + nq, by show _ ∧ _; rw [HR.out.1]; exact ⟨drewN_two _ _ _, eq_step HX.out.1 HX.out.2 HR.out.2 EX.out⟩⟩
          case measure => simp [intOf]; omega
        · have e1 : (x != y) = true := bne_iff_ne.2 hxy
          have EX := Lib.hid hxy
          clear hxy
          go_wp2
          go_quiet (fail)
          go_wp2
          go_ret
          have hd : decide (l = m) = false := by
            apply decide_eq_false
            rintro rfl
            have := HX.out.1.symm.trans HX.out.2
            simp at this
            exact EX.out this
          rw [hd]
          exact ⟨rfl, _, by rw [HR.out.1]; exact drewN_two _ _ _⟩
      · obtain rfl : i = n := by omega
        go_wp2
        go_ret
        have hd : decide (l = m) = true := by
          apply decide_eq_true
          have h1 := HR.out.2
          rw [List.take_of_length_le (by rw [← HN.out.1]; omega), List.take_of_length_le (by rw [← HN.out.2]; omega)] at h1
          exact h1
        rw [hd]
        exact ⟨rfl, q, HR.out.1⟩
  · have hd : decide (l = m) = false := by
      apply decide_eq_false
      intro e
      exact he (by rw [e])
    rw [hd]
    have e1 : ((l.length : Int) != (m.length : Int)) = true := by rw [bne_iff_ne]; omega
    clear hd he
    generalize l.length = x at *
    generalize m.length = y at *
    go_enter Tryz.func134, Tryz.ntmps134
    go_wp2
    go_ret
    exact ⟨rfl, 0, rfl⟩
end Go.Proofs.YtgnagbbdnlmgeaaGreat.Pm
end
section
set_option maxHeartbeats 2000000
set_option maxRecDepth 100000
namespace Go.Proofs.YtgnagbbdnlmgeaaGreat.Bm
open Go Go.RowKit
open Ob Ba Oc Pk
theorem len_ {W : World} {B b n : Nat} {l : List Nat} {A : Option Addr} {c : Nat} (h : Bm W B b n l A c) : Calls Tryz.prog 95 #[.pointer (some ⟨b, 0, none⟩)] W fun e w' => e = .returned (.int .i64 n) ∧ w' = W := by
  have hu := Tryz.underlying182
  have k0 := cell_of h.box 0
  clear h
  go_enter Tryz.func95, Tryz.ntmps95
  go_wp2
  go_ret
  exact ⟨rfl, rfl⟩
theorem own_blk' {W : World} {B T s n k : Nat} {v : Value} {xs : List Value} (h : W.ownsRow B T s v n xs) (hk : v.ownBlock = some k) : ∃ cur, W.heap[k]? = some (.cells cur T (0, 0)) := by
  obtain ⟨h1, ⟨rfl, _⟩ | ⟨g, cap, cur, rfl, hg, hb, r⟩⟩ := h
  · simp [Value.ownBlock] at hk
  · simp [Value.ownBlock] at hk
    subst hk
    exact ⟨_, hb⟩
structure Bk (w W : World) : Prop where
  same : ∃ k, W = w.drewN k
end Go.Proofs.YtgnagbbdnlmgeaaGreat.Bm
end
section
set_option maxHeartbeats 2000000
set_option maxRecDepth 100000
namespace Go.Proofs.YtgnagbbdnlmgeaaGreat.Rr
open Go Go.RowKit
open Ob Ba Oc Pk Bm
def rvs (l : List (Int × Int)) : List Value := l.flatMap fun p => [.int .i64 p.1, .int .i64 p.2]
theorem rvs_length (l : List (Int × Int)) : (rvs l).length = l.length * 2 := by
  induction l with
  | nil => rfl
  | cons a r ih => simp [rvs] at ih ⊢; omega
theorem rvs_append (a b : List (Int × Int)) : rvs (a ++ b) = rvs a ++ rvs b := by simp [rvs]
theorem rvs_get {l : List (Int × Int)} {i : Nat} {p : Int × Int} (h : l[i]? = some p) : (rvs l)[i * 2]? = some (.int .i64 p.1) ∧ (rvs l)[i * 2 + 1]? = some (.int .i64 p.2) := by
  induction l generalizing i with
  | nil => simp at h
  | cons a r ih =>
    have e : rvs (a :: r) = .int .i64 a.1 :: .int .i64 a.2 :: rvs r := rfl
    cases i with
    | zero => simp at h; subst h; exact ⟨rfl, rfl⟩
    | succ j =>
      obtain ⟨h1, h2⟩ := ih (i := j) (by simpa using h)
      rw [e]
      refine ⟨?_, ?_⟩
      · rw [show (j + 1) * 2 = j * 2 + 1 + 1 from by omega]; simpa using h1
      · rw [show (j + 1) * 2 + 1 = j * 2 + 1 + 1 + 1 from by omega]; simpa using h2
def RR (w : World) (A : Option Addr) (l : List (Int × Int)) : Prop := ∀ (i : Nat) p, l[i]? = some p → ∃ q off, A = some ⟨q, off, none⟩ ∧ q < w.heap.size ∧ w.cell? ⟨q, off + i * 2, none⟩ = some (.int .i64 p.1) ∧ w.cell? ⟨q, off + i * 2 + 1, none⟩ = some (.int .i64 p.2)
theorem RR.below {w w' : World} {A : Option Addr} {l : List (Int × Int)} (h : RR w A l) (hb : Below w.heap.size w w') : RR w' A l := by
  intro i p hi
  obtain ⟨q, off, rfl, h0, h1, h2⟩ := h i p hi
  exact ⟨q, off, rfl, Nat.lt_of_lt_of_le h0 hb.size, (hb.cell (p := ⟨q, off + i * 2, none⟩) h0).trans h1, (hb.cell (p := ⟨q, off + i * 2 + 1, none⟩) h0).trans h2⟩
theorem own_rr {w : World} {B T n : Nat} {A : Option Addr} {c : Nat} {l : List (Int × Int)} (h : w.ownsRow B T 2 (.slice A n c) n (rvs l)) : RR w A l ∧ l.length = n := by
  have hl : l.length = n := by
    have := h.1
    rw [rvs_length] at this
    omega
  refine ⟨?_, hl⟩
  obtain ⟨h1, ⟨h2, h3⟩ | ⟨g, cap, cur, hv, hg, hb, hn, hm, hs, ht⟩⟩ := h
  · intro i p hp
    have := (List.getElem?_eq_some_iff.1 hp).1
    rw [h3] at h1
    simp at h2
    omega
  · simp only [Value.slice.injEq, true_and] at hv
    obtain ⟨rfl, rfl⟩ := hv
    intro i p hp
    obtain ⟨g1, g2⟩ := rvs_get hp
    have hi := (List.getElem?_eq_some_iff.1 hp).1
    refine ⟨g, 0, rfl, lt_of hb, ?_, ?_⟩
    · rw [cell_of hb, Nat.zero_add]
      rw [← ht, List.getElem?_take] at g1
      split at g1
      · simpa using g1
      · cases g1
    · rw [cell_of hb, Nat.zero_add]
      rw [← ht, List.getElem?_take] at g2
      split at g2
      · simpa using g2
      · cases g2
theorem pair_news (w : World) (x y : Value) (T : TypeId) : ∀ j u, [x, y][j]? = some u → (w.alloc (.cells #[x, y] T)).cell? ((⟨w.heap.size, 0, none⟩ : Addr).add j) = some u :=
  World.news_of_block (cs := #[x, y]) (t := T) (fr := (0, 0)) (heap_alloc_new w _)
def nextF (n : Nat) (l : List Nat) (i : Nat) (used : Bool) : Option Nat := (List.range n).find? fun j => decide (i ≤ j) && (bget l j == used)
theorem nextF_is {n : Nat} {l : List Nat} {i : Int} {used : Bool} {r : Int} (h : NextIs n l i used r) : r = match nextF n l i.toNat used with | none => -1 | some j => (j : Int) := by
  rcases h with ⟨rfl, h⟩ | ⟨j, rfl, h1, h2, h3, h4⟩
  · have : nextF n l i.toNat used = none := by
      unfold nextF
      rw [List.find?_eq_none]
      intro j hj
      have hj2 : j < n := by simpa using hj
      by_cases hij : i.toNat ≤ j
      · have := h j (by omega) hj2
        simp [hij, this]
      · simp [hij]
    rw [this]
  · have : nextF n l i.toNat used = some j := by
      unfold nextF
      rw [List.find?_eq_some_iff_getElem]
      refine ⟨by simp [h3]; omega, j, by simpa using h2, by simp, fun k hk => ?_⟩
      rw [List.getElem_range]
      by_cases hik : i.toNat ≤ k
      · have := h4 k (by omega) hk
        simp [hik, this]
      · simp [hik]
    rw [this]
theorem nextF_some {n : Nat} {l : List Nat} {i : Nat} {used : Bool} {j : Nat} (h : nextF n l i used = some j) : i ≤ j ∧ j < n ∧ bget l j = used := by
  unfold nextF at h
  have h1 := List.find?_some h
  have h2 := List.mem_of_find?_eq_some h
  simp at h1 h2
  exact ⟨h1.1, h2, h1.2⟩
def ix (o : Option Nat) : Int := match o with | none => -1 | some j => (j : Int)
theorem nexti {W : World} {B b n : Nat} {l : List Nat} {A : Option Addr} {c : Nat} (h : Bm W B b n l A c) (i : Nat) (used : Bool) : Calls Tryz.prog 116 #[.pointer (some ⟨b, 0, none⟩), .int .i64 i, .bool used] W fun e w' => e = .returned (.int .i64 (ix (nextF n l i used))) ∧ w' = W :=
  (next_ h i used).mono fun e w' ⟨r, he, hr, hw⟩ => ⟨by rw [he, nextF_is hr]; rfl, hw⟩
def freeG (n : Nat) (l : List Nat) : Nat → Option Nat → List (Int × Int)
  | 0, _ => []
  | _ + 1, none => []
  | k + 1, some s => ((s : Int), (((nextF n l s true).getD n : Nat) : Int) - s) :: freeG n l k (nextF n l ((nextF n l s true).getD n) false)
def frees (n : Nat) (l : List Nat) : List (Int × Int) := freeG n l (n + 1) (nextF n l 0 false)
theorem freeG_step (n : Nat) (l : List Nat) (k s : Nat) : freeG n l (k + 1) (some s) = ((s : Int), (((nextF n l s true).getD n : Nat) : Int) - s) :: freeG n l k (nextF n l ((nextF n l s true).getD n) false) := rfl
theorem freeG_end (n : Nat) (l : List Nat) : ∀ k, freeG n l k none = []
  | 0 => rfl
  | _ + 1 => rfl
def ms (n : Nat) (v : Value) : Nat := if intOf v < 0 then 0 else n + 1 - (intOf v).toNat
theorem ms_neg (n : Nat) : ms n (.int .i64 (ix none)) = 0 := rfl
theorem ms_nat (n s : Nat) : ms n (.int .i64 (s : Int)) = n + 1 - s := by
  unfold ms
  have e : intOf (.int .i64 (s : Int)) = (s : Int) := rfl
  rw [e]
  split
  · omega
  · simp
theorem free_run {W : World} {B b n : Nat} {l : List Nat} {A : Option Addr} {c : Nat} (h : Bm W B b n l A c) :
    Calls Tryz.prog 191 #[.pointer (some ⟨b, 0, none⟩)] W fun e w' => ∃ v, e = .returned v ∧ w'.ownsRow W.heap.size 93 2 v (frees n l).length (rvs (frees n l)) ∧ Below W.heap.size W w' := by
  obtain ⟨z0, hinf, hz0, hz1, hz2⟩ := info_parts (show (Tryz.prog.info? 93).map (fun i => (i.zero, i.size, i.bytes)) = some (some (.agg #[.int .i64 0, .int .i64 0]), 2, 16) by kernel_rfl)
  have hn9 := h.le
  have H : Hid (∀ {W' : World}, Below W.heap.size W W' → Bm W' B b n l A c) := fun {W'} hb => h.keep hb
  obtain ⟨R, hR⟩ : ∃ R, R = frees n l := ⟨_, rfl⟩
  rw [← hR]
  have HR := Lib.hid hR
  clear h hR
  go_enter Tryz.func191, Tryz.ntmps191
  go_wp2_with (go_at_call 116; refine (nexti (H.out (Below.refl _ _)) 0 false).mono ?_; rintro e w1 ⟨rfl, hw1⟩; (have hw2 := hw1.symm); subst hw2; clear hw1)
  go_loopw [4, 3] (fun c4 c3 wr => ∃ (o : Option Nat) (k m : Nat), c4 = .int .i64 (ix o) ∧ m + k = n + 1 ∧ (∀ s, o = some s → s < n ∧ m ≤ s) ∧ Hid (∃ done, R = done ++ freeG n l k o ∧ done.length = m ∧ (∀ s, o = some s → bget l s = false) ∧ wr.ownsRow W.heap.size 93 2 c3 m (rvs done) ∧ Below W.heap.size W wr)) (fun c4 _ _ => ms n c4)
  case atStart =>
    refine ⟨_, n + 1, 0, rfl, by omega, fun s hs => ⟨(nextF_some hs).2.1, Nat.zero_le _⟩, [], ?_, rfl, fun s hs => (nextF_some hs).2.2, own_nil0 _ _ _ _, Below.refl _ _⟩
    rw [HR.out]; rfl
  case round =>
    obtain ⟨o, k, m, rfl, hmk, hos, HI⟩ := hrel
    cases o with
    | none =>
      go_wp2_with fail
      go_ret
      obtain ⟨done, h1, h2, -, h3, h4⟩ := HI.out
      rw [freeG_end, List.append_nil] at h1
      subst h1
      rw [← h2] at h3
      exact ⟨_, rfl, h3, h4⟩
    | some s =>
      obtain ⟨hs, hms⟩ := hos s rfl
      obtain ⟨e, he⟩ : ∃ e, e = (nextF n l s true).getD n := ⟨_, rfl⟩
      have hsf : bget l s = false := by obtain ⟨done, -, -, h3, -⟩ := HI.out; exact h3 s rfl
      have hes : s < e ∧ e ≤ n := by
        rw [he]
        cases hq : nextF n l s true with
        | none => simp; omega
        | some j =>
          have := nextF_some hq
          simp only [Option.getD_some]
          refine ⟨?_, by omega⟩
          rcases Nat.lt_or_ge s j with h9 | h9
          · exact h9
          · obtain rfl : j = s := by omega
            rw [hsf] at this
            simp at this
      obtain ⟨hes1, hes2⟩ := hes
      obtain ⟨done, d1, d2, d3, d4, d5⟩ := HI.out
      have HOW := Lib.hid (fun o => own_kp (W' := wr.alloc o) d4 (fun k _ hk => Below.heap_alloc _ _ k hk))
      have HLO := Lib.hid (own_lo d4)
      have HB5 := Lib.hid d5
      have hm9 : m ≤ 65534 := by omega
      obtain ⟨k2, rfl⟩ : ∃ k2, k = k2 + 1 := ⟨k - 1, by omega⟩
      have HD1 : Hid (R = (done ++ [((s : Int), (e : Int) - s)]) ++ freeG n l k2 (nextF n l e false)) := by
        show _ = _
        rw [d1, List.append_assoc, freeG_step, ← he]
        rfl
      have HSX : ix (some s) = (s : Int) := rfl
      have HNX : Hid (∀ (u t : Nat), nextF n l e false = some u → (e ≤ u ∧ u < n ∧ bget l u = false)) := fun u t hu => nextF_some hu
      have HCG : Hid (∀ {W' : World} (i : Nat) (used : Bool), Below W.heap.size W W' → Calls Tryz.prog 116 #[.pointer (some ⟨b, 0, none⟩), .int .i64 i, .bool used] W' fun e w' => e = .returned (.int .i64 (ix (nextF n l i used))) ∧ w' = W') := fun {W'} i used hb => nexti (H.out hb) i used
      have HL1 := Lib.hid (len_ (H.out d5))
      clear d1 d3 d4 d5 hsf hos
      rw [HSX]
      have HMM : Hid (m + 1 + k2 = n + 1 ∧ done.length = m) := ⟨by omega, d2⟩
      obtain ⟨y, hy⟩ : ∃ y : Int, y = (e : Int) - s := ⟨_, rfl⟩
      rw [← hy] at HD1
      have hcond : (nextF n l s true = none ∧ n = e) ∨ nextF n l s true = some e := by
        cases hq : nextF n l s true with
        | none => exact .inl ⟨rfl, by rw [he, hq]; rfl⟩
        | some j => exact .inr (by rw [he, hq]; rfl)
      clear he HSX
      have hx1 : ix none = -1 := rfl
      have hx2 : ix (some e) = (e : Int) := rfl
      have hfin : ∀ (w7 : World) (v' : Value), w7.ownsRow W.heap.size 93 2 v' (m + 1) (rvs done ++ [.int .i64 s, .int .i64 y]) → (wr.alloc (.cells #[.int .i64 s, .int .i64 y] 93)).grownBy w7 (u3.ownBlock) → Hid (∃ done, R = done ++ freeG n l k2 (nextF n l e false) ∧ done.length = m + 1 ∧ (∀ s, nextF n l e false = some s → bget l s = false) ∧ w7.ownsRow W.heap.size 93 2 v' (m + 1) (rvs done) ∧ Below W.heap.size W w7) := by
        intro w7 v' h1 h2
        refine ⟨done ++ [((s : Int), y)], HD1.out, by simp [HMM.out.2], fun u hu => (HNX.out u 0 hu).2.2, ?_, bl_grown (bl_alloc HB5.out _) h2 HLO.out⟩
        rw [rvs_append]
        exact h1
      have HFIN := Lib.hid hfin
      have HME : Hid (ms n (.int .i64 (ix (nextF n l e false))) < ms n (.int .i64 (s : Int))) := by
        show _ < _
        rw [ms_nat]
        cases hx : nextF n l e false with
        | none =>
          rw [ms_neg]
          omega
        | some u =>
          have := HNX.out u 0 hx
          have e1 : ix (some u) = (u : Int) := rfl
          rw [e1, ms_nat]
          omega
      have hy2 : (e : Int) - s = y := hy.symm
      have hy9 : 0 ≤ y ∧ y ≤ 65534 := by omega
      obtain ⟨hy0, hy1⟩ := hy9
      clear hfin hy
      rcases hcond with ⟨hq, rfl⟩ | hq
      all_goals
        go_wp2_with (first | (go_at_call 116; refine (HCG.out _ _ (by first | exact HB7.out | exact HB5.out)).mono ?_; rintro e' w1 ⟨rfl, hw1⟩; (have hw2 := hw1.symm); subst hw2; clear hw1; (try rw [hq]); (try clear hq)) |
          (go_at_call 95; refine HL1.out.mono ?_; rintro e' w1 ⟨rfl, hw1⟩; (have hw2 := hw1.symm); subst hw2; clear hw1) |
          (at_builtin; refine wpList_append_own _ rfl (.tmp 17) (.tmp 23) 87 rfl W.heap.size 93 z0 (.agg #[.int .i64 0, .int .i64 0]) 2 16 Tryz.underlying87 hinf hz0 hz1 hz2 rfl (by decide) _ m _ rfl (HOW.out _) ⟨wr.heap.size, 0, none⟩ 1 1 [.int .i64 s, .int .i64 y] rfl rfl (pair_news _ _ _ _) (by intro u hu; simp at hu; rcases hu with rfl | rfl <;> rfl) (by unfold maxLen; omega) (by omega) (by have h1 := HB5.out.size; simp; omega) ?_; intro v' w7 hown' hgrow _; (have HF7 := Lib.hid (HFIN.out _ _ hown' hgrow)); (have HB7 : Hid (Below W.heap.size W w7) := by (obtain ⟨_, _, _, _, _, q⟩ := HF7.out; exact q)); clear hown' hgrow))
        go_roundw
        case rel => exact ⟨_, k2, m + 1, rfl, HMM.out.1, fun u hu => ⟨(HNX.out u 0 hu).2.1, by have := (HNX.out u 0 hu).1; omega⟩, HF7.out⟩
        case measure => exact HME.out
end Go.Proofs.YtgnagbbdnlmgeaaGreat.Rr
end
section
set_option maxHeartbeats 400000
namespace Go.Proofs.YtgnagbbdnlmgeaaGreat.Ko
open Go Go.RowKit
open Ob
def pows : List Int := [64, 128, 256, 512, 1024, 2048, 4096]
def up8 (x : Int) : Int := (x + 7) / 8 * 8
def tot (n m s : Int) : Int := 16 + 8 * m + up8 n + up8 ((n + 63) / 64) + n * (s / 8)
def inB (n m : Int) : Bool := decide (1 ≤ n) && decide (n ≤ 65534) && decide (1 ≤ m) && decide (m ≤ 65534)
def geoOk (n m s : Int) : Bool := inB n m && decide (s ∈ pows) && decide (tot n m s ≤ 4194304)
def parts (n m s : Int) : Int × Int × Int × Int × Int × Bool :=
  if geoOk n m s then (16, 16 + 8 * m, 16 + 8 * m + up8 n, 16 + 8 * m + up8 n + up8 ((n + 63) / 64), tot n m s, true) else (0, 0, 0, 0, 0, false)
theorem fill_any (x : Int) (h0 : 0 ≤ x) (h1 : x < 1000000000) (w : World) :
    Calls Tryz.prog 186 #[.int .i64 x] w fun e w' => e = .returned (.int .i64 (up8 x)) ∧ w = w' := by
  have hu : x ≤ up8 x ∧ up8 x ≤ x + 7 := by unfold up8; omega
  go_enter Tryz.func186, Tryz.ntmps186
  go_wp2_with fail
  go_loop [0] (fun c => ∃ y : Int, x ≤ y ∧ Hid (up8 y = up8 x) ∧ Hid (y ≤ up8 y) ∧ y ≤ 1000000007 ∧ c = .int .i64 y) (fun c => (up8 x - intOf c).toNat)
  case atStart => exact ⟨x, Int.le_refl _, rfl, hu.1, by omega, rfl⟩
  case round =>
    obtain ⟨y, hy0, hy1, hy2, hy3, rfl⟩ := hrel
    by_cases hm : y % 8 = 0
    · have hmb : (y % 8 == 0) = true := by simpa using hm
      have hmb2 : (y % 8 != 0) = false := by simpa using hm
      have e : up8 x = y := by rw [← hy1.out]; unfold up8; omega
      have HE := Lib.hid e
      clear hm e
      go_wp2_with fail
      go_ret
      exact ⟨by rw [HE.out]; rfl, rfl⟩
    · have hmb : (y % 8 == 0) = false := by simpa using hm
      have hmb2 : (y % 8 != 0) = true := by simpa using hm
      have e : up8 (y + 1) = up8 x := by rw [← hy1.out]; unfold up8; omega
      have e2 : y + 1 ≤ up8 (y + 1) := by unfold up8; omega
      have e3 : y + 1 ≤ up8 x := by rw [← e]; exact e2
      have HE := Lib.hid (And.intro e (And.intro e2 e3))
      clear hm e e2
      go_wp2_with fail
      go_round
      case rel => exact ⟨y + 1, by omega, HE.out.1, HE.out.2.1, by omega, rfl⟩
      case measure => simp [intOf]; omega
theorem pows_in {s : Int} (h : s ∈ pows) : 64 ≤ s ∧ s ≤ 4096 ∧ s % 8 = 0 := by
  simp only [pows, List.mem_cons, List.not_mem_nil, or_false] at h
  omega
def zero5 : Value := .tuple #[.agg #[.int .i64 0, .int .i64 0, .int .i64 0, .int .i64 0, .int .i64 0], .bool false]
theorem of_out (n m s : Int) (hb : inB n m = false) (w : World) :
    Calls Tryz.prog 160 #[.int .i64 n, .int .i64 m, .int .i64 s] w fun e w' => e = .returned zero5 ∧ Below w.heap.size w w' := by
  simp only [inB, Bool.and_eq_false_iff, decide_eq_false_iff_not] at hb
  by_cases h1 : n < 1
  · clear hb
    go_enter Tryz.func160, Tryz.ntmps160
    go_wp2_with fail
    exact bodyPost_ret (v := zero5) (by simp [zero5, results, Tryz.results160, go_sem]) rfl ⟨rfl, by first | exact (((Upd.refl [] w).alloc _).setCell (a := _) (.inr (by simp)) _).below (by simp) | exact ((Upd.refl [] w).alloc _).below (by simp)⟩
  by_cases h2 : 65534 < n
  · clear hb
    go_enter Tryz.func160, Tryz.ntmps160
    go_wp2_with fail
    exact bodyPost_ret (v := zero5) (by simp [zero5, results, Tryz.results160, go_sem]) rfl ⟨rfl, by first | exact (((Upd.refl [] w).alloc _).setCell (a := _) (.inr (by simp)) _).below (by simp) | exact ((Upd.refl [] w).alloc _).below (by simp)⟩
  by_cases h3 : m < 1
  · clear hb
    go_enter Tryz.func160, Tryz.ntmps160
    go_wp2_with fail
    exact bodyPost_ret (v := zero5) (by simp [zero5, results, Tryz.results160, go_sem]) rfl ⟨rfl, by first | exact (((Upd.refl [] w).alloc _).setCell (a := _) (.inr (by simp)) _).below (by simp) | exact ((Upd.refl [] w).alloc _).below (by simp)⟩
  · have h4 : 65534 < m := by omega
    clear hb
    go_enter Tryz.func160, Tryz.ntmps160
    go_wp2_with fail
    exact bodyPost_ret (v := zero5) (by simp [zero5, results, Tryz.results160, go_sem]) rfl ⟨rfl, by first | exact (((Upd.refl [] w).alloc _).setCell (a := _) (.inr (by simp)) _).below (by simp) | exact ((Upd.refl [] w).alloc _).below (by simp)⟩
def PowRel (s p : Int) : Prop := p ∈ pows ∧ ∀ q ∈ pows, q < p → q < s
theorem pow_start (s : Int) : PowRel s 64 := ⟨by decide, by intro q hq h; simp only [pows, List.mem_cons, List.not_mem_nil, or_false] at hq; omega⟩
theorem pow_next {s p : Int} (h : PowRel s p) (h1 : p < 4096) (h2 : p < s) : PowRel s (2 * p) := by
  obtain ⟨hp, hl⟩ := h
  refine ⟨?_, fun q hq hqp => ?_⟩
  · simp only [pows, List.mem_cons, List.not_mem_nil, or_false] at hp ⊢
    omega
  · simp only [pows, List.mem_cons, List.not_mem_nil, or_false] at hp hq
    omega
theorem pow_end {s p : Int} (h : PowRel s p) (h1 : ¬ (p < 4096 ∧ p < s)) : p = s ↔ s ∈ pows := by
  obtain ⟨hp, hl⟩ := h
  refine ⟨fun e => by rw [← e]; exact hp, fun hs => ?_⟩
  have := hl s hs
  have hp' := pows_in hp
  have hs' := pows_in hs
  simp only [pows, List.mem_cons, List.not_mem_nil, or_false] at hp hs
  by_cases h4 : p < 4096
  · omega
  · have h5 := hl 2048 (by decide) (by omega)
    omega
set_option maxRecDepth 100000 in
theorem of_no (n m s : Int) (hb : inB n m = true) (hs : ¬ s ∈ pows) (w : World) :
    Calls Tryz.prog 160 #[.int .i64 n, .int .i64 m, .int .i64 s] w fun e w' => e = .returned zero5 ∧ Below w.heap.size w w' := by
  have hb' := hb
  simp only [inB, Bool.and_eq_true, decide_eq_true_eq] at hb'
  obtain ⟨⟨⟨h1, h2⟩, h3⟩, h4⟩ := hb'
  have HB := Lib.hid hb
  have HS := Lib.hid hs
  clear hb hs
  go_enter Tryz.func160, Tryz.ntmps160
  go_wp2_with fail
  go_loop [8] (fun c => ∃ p : Int, 64 ≤ p ∧ p ≤ 4096 ∧ Hid (PowRel s p) ∧ c = .int .i64 p) (fun c => (8192 - intOf c).toNat)
  case atStart => exact ⟨64, by omega, by omega, pow_start s, rfl⟩
  case round =>
    obtain ⟨p, hp0, hp1, hp, rfl⟩ := hrel
    by_cases hc : p < 4096 ∧ p < s
    · obtain ⟨hc1, hc2⟩ := hc
      have hn := pow_next hp.out hc1 hc2
      have hnn := pows_in hn.1
      have HN := Lib.hid hn
      clear hn
      go_wp2_with fail
      go_round
      case rel => exact ⟨2 * p, by omega, by omega, HN.out, rfl⟩
      case measure => simp [intOf]; omega
    · have he := pow_end hp.out hc
      have HE := Lib.hid he
      have hc' : (p < 4096 ∧ s ≤ p) ∨ Hid (p = 4096) := by
        by_cases h : p = 4096
        · exact .inr h
        · exact .inl (by omega)
      clear he hc
      have hps : p ≠ s := fun e => HS.out (HE.out.1 e)
      have hpb : (p == s) = false := beq_eq_false_iff_ne.2 hps
      have hpb2 : (p != s) = true := by simp [hps]
      rcases hc' with ⟨hc1, hc2⟩ | hc1
      · go_wp2_with fail
        exact bodyPost_ret (v := zero5) (by simp [zero5, results, Tryz.results160, go_sem]) rfl ⟨rfl, ((Upd.refl [] w).alloc _).below (by simp)⟩
      · obtain rfl := hc1.out
        go_wp2_with fail
        exact bodyPost_ret (v := zero5) (by simp [zero5, results, Tryz.results160, go_sem]) rfl ⟨rfl, ((Upd.refl [] w).alloc _).below (by simp)⟩
theorem fill_at (x : Int) (h0 : 0 ≤ x) (h1 : x < 1000000000) (y : Int) (hy : Hid (up8 x = y)) (w : World) :
    Calls Tryz.prog 186 #[.int .i64 x] w fun e w' => e = .returned (.int .i64 y) ∧ w = w' := by
  have := fill_any x h0 h1 w
  rw [hy.out] at this
  exact this
set_option maxRecDepth 100000 in
theorem of_yes (n m s b1 b2 : Int) (hb : inB n m = true) (hs : s ∈ pows) (hb1 : Hid (b1 = 16 + 8 * m + up8 n)) (hb2 : Hid (b2 = b1 + up8 ((n + 63) / 64))) (hle : b2 + n * s / 8 ≤ 4194304) (w : World) :
    Calls Tryz.prog 160 #[.int .i64 n, .int .i64 m, .int .i64 s] w fun e' w' => e' = .returned (.tuple #[.agg #[.int .i64 16, .int .i64 (16 + 8 * m), .int .i64 b1, .int .i64 b2, .int .i64 (b2 + n * s / 8)], .bool true]) ∧ Below w.heap.size w w' := by
  have hb' := hb
  simp only [inB, Bool.and_eq_true, decide_eq_true_eq] at hb'
  obtain ⟨⟨⟨h1, h2⟩, h3⟩, h4⟩ := hb'
  have hsp := pows_in hs
  have hp0 : 0 ≤ n * s := Int.mul_nonneg (by omega) (by omega)
  have hp1 : n * s ≤ 65534 * 4096 := Int.mul_le_mul h2 (by omega) (by omega) (by omega)
  have q1 : 0 ≤ b1 ∧ b1 ≤ 600000 := by have := hb1.out; unfold up8 at this; omega
  have q2 : 0 ≤ b2 ∧ b2 ≤ 700000 := by have := hb2.out; unfold up8 at this; omega
  have w1 : Hid (up8 (16 + 8 * m + n) = b1) := by show up8 (16 + 8 * m + n) = b1; rw [hb1.out]; unfold up8; omega
  have w2 : Hid (up8 (b1 + (n + 63) / 64) = b2) := by show up8 (b1 + (n + 63) / 64) = b2; rw [hb2.out, hb1.out]; unfold up8; omega
  obtain ⟨q1a, q1b⟩ := q1
  obtain ⟨q2a, q2b⟩ := q2
  have HB := Lib.hid hb
  have HS := Lib.hid (And.intro hs hsp)
  clear hb hs hsp hb1 hb2
  go_enter Tryz.func160, Tryz.ntmps160
  go_wp2_with fail
  go_loop [8] (fun c => ∃ p : Int, 64 ≤ p ∧ p ≤ 4096 ∧ Hid (PowRel s p) ∧ c = .int .i64 p) (fun c => (8192 - intOf c).toNat)
  case atStart => exact ⟨64, by omega, by omega, pow_start s, rfl⟩
  case round =>
    obtain ⟨p, hp0, hp1, hp, rfl⟩ := hrel
    by_cases hc : p < 4096 ∧ p < s
    · obtain ⟨hc1, hc2⟩ := hc
      have hn := pow_next hp.out hc1 hc2
      have hnn := pows_in hn.1
      have HN := Lib.hid hn
      clear hn
      go_wp2_with fail
      go_round
      case rel => exact ⟨2 * p, by omega, by omega, HN.out, rfl⟩
      case measure => simp [intOf]; omega
    · obtain rfl : p = s := (pow_end hp.out hc).2 HS.out.1
      clear hc
      clear hp
      by_cases h4096 : p < 4096
      all_goals
        go_wp2_with fail
        refine (fill_at _ (by omega) (by omega) b1 w1 _).mono ?_
        rintro e9 w9 ⟨rfl, rfl⟩
        go_wp2_with fail
        refine (fill_at _ (by omega) (by omega) b2 w2 _).mono ?_
        rintro e9 w9 ⟨rfl, rfl⟩
        go_wp2_with fail
        exact bodyPost_ret (v := .tuple #[.agg #[.int .i64 16, .int .i64 (16 + 8 * m), .int .i64 b1, .int .i64 b2, .int .i64 (b2 + n * p / 8)], .bool true]) (by simp [zero5, results, Tryz.results160, go_sem]) rfl ⟨rfl, (((Upd.refl [] w).alloc _).alloc _).below (by simp)⟩
set_option maxRecDepth 100000 in
theorem of_big (n m s b1 b2 : Int) (hb : inB n m = true) (hs : s ∈ pows) (hb1 : Hid (b1 = 16 + 8 * m + up8 n)) (hb2 : Hid (b2 = b1 + up8 ((n + 63) / 64))) (hle : 4194304 < b2 + n * s / 8) (w : World) :
    Calls Tryz.prog 160 #[.int .i64 n, .int .i64 m, .int .i64 s] w fun e' w' => e' = .returned zero5 ∧ Below w.heap.size w w' := by
  have hb' := hb
  simp only [inB, Bool.and_eq_true, decide_eq_true_eq] at hb'
  obtain ⟨⟨⟨h1, h2⟩, h3⟩, h4⟩ := hb'
  have hsp := pows_in hs
  have hp0 : 0 ≤ n * s := Int.mul_nonneg (by omega) (by omega)
  have hp1 : n * s ≤ 65534 * 4096 := Int.mul_le_mul h2 (by omega) (by omega) (by omega)
  have q1 : 0 ≤ b1 ∧ b1 ≤ 600000 := by have := hb1.out; unfold up8 at this; omega
  have q2 : 0 ≤ b2 ∧ b2 ≤ 700000 := by have := hb2.out; unfold up8 at this; omega
  have w1 : Hid (up8 (16 + 8 * m + n) = b1) := by show up8 (16 + 8 * m + n) = b1; rw [hb1.out]; unfold up8; omega
  have w2 : Hid (up8 (b1 + (n + 63) / 64) = b2) := by show up8 (b1 + (n + 63) / 64) = b2; rw [hb2.out, hb1.out]; unfold up8; omega
  obtain ⟨q1a, q1b⟩ := q1
  obtain ⟨q2a, q2b⟩ := q2
  have HB := Lib.hid hb
  have HS := Lib.hid (And.intro hs hsp)
  clear hb hs hsp hb1 hb2
  go_enter Tryz.func160, Tryz.ntmps160
  go_wp2_with fail
  go_loop [8] (fun c => ∃ p : Int, 64 ≤ p ∧ p ≤ 4096 ∧ Hid (PowRel s p) ∧ c = .int .i64 p) (fun c => (8192 - intOf c).toNat)
  case atStart => exact ⟨64, by omega, by omega, pow_start s, rfl⟩
  case round =>
    obtain ⟨p, hp0, hp1, hp, rfl⟩ := hrel
    by_cases hc : p < 4096 ∧ p < s
    · obtain ⟨hc1, hc2⟩ := hc
      have hn := pow_next hp.out hc1 hc2
      have hnn := pows_in hn.1
      have HN := Lib.hid hn
      clear hn
      go_wp2_with fail
      go_round
      case rel => exact ⟨2 * p, by omega, by omega, HN.out, rfl⟩
      case measure => simp [intOf]; omega
    · obtain rfl : p = s := (pow_end hp.out hc).2 HS.out.1
      clear hc
      clear hp
      by_cases h4096 : p < 4096
      all_goals
        go_wp2_with fail
        refine (fill_at _ (by omega) (by omega) b1 w1 _).mono ?_
        rintro e9 w9 ⟨rfl, rfl⟩
        go_wp2_with fail
        refine (fill_at _ (by omega) (by omega) b2 w2 _).mono ?_
        rintro e9 w9 ⟨rfl, rfl⟩
        go_wp2_with fail
        exact bodyPost_ret (v := zero5) (by simp [zero5, results, Tryz.results160, go_sem]) rfl ⟨rfl, (((Upd.refl [] w).alloc _).alloc _).below (by simp)⟩
theorem of_any (n m s : Int) (w : World) :
    Calls Tryz.prog 160 #[.int .i64 n, .int .i64 m, .int .i64 s] w fun e w' => e = .returned (.tuple #[.agg #[.int .i64 (parts n m s).1, .int .i64 (parts n m s).2.1, .int .i64 (parts n m s).2.2.1, .int .i64 (parts n m s).2.2.2.1, .int .i64 (parts n m s).2.2.2.2.1], .bool (parts n m s).2.2.2.2.2]) ∧ Below w.heap.size w w' := by
  cases hb : inB n m with
  | false =>
    have hg : parts n m s = (0, 0, 0, 0, 0, false) := by unfold parts geoOk; rw [hb]; rfl
    rw [hg]
    exact of_out n m s hb w
  | true =>
    by_cases hs : s ∈ pows
    · have ht : tot n m s = 16 + 8 * m + up8 n + up8 ((n + 63) / 64) + n * s / 8 := by
        have hp := pows_in hs
        have : n * s = 8 * (n * (s / 8)) := by
          have e : s = 8 * (s / 8) := by omega
          calc n * s = n * (8 * (s / 8)) := by rw [← e]
            _ = 8 * (n * (s / 8)) := by rw [Int.mul_left_comm]
        unfold tot
        rw [this]
        omega
      by_cases hl : tot n m s ≤ 4194304
      · have hg : parts n m s = (16, 16 + 8 * m, 16 + 8 * m + up8 n, 16 + 8 * m + up8 n + up8 ((n + 63) / 64), tot n m s, true) := by unfold parts geoOk; rw [hb, decide_eq_true hs, decide_eq_true hl]; rfl
        rw [hg, ht]
        exact of_yes n m s _ _ hb hs rfl rfl (by omega) w
      · have hg : parts n m s = (0, 0, 0, 0, 0, false) := by unfold parts geoOk; rw [hb, decide_eq_true hs, decide_eq_false hl]; rfl
        rw [hg]
        exact of_big n m s _ _ hb hs rfl rfl (by omega) w
    · have hg : parts n m s = (0, 0, 0, 0, 0, false) := by unfold parts geoOk; rw [decide_eq_false hs]; simp
      rw [hg]
      exact of_no n m s hb hs w
end Go.Proofs.YtgnagbbdnlmgeaaGreat.Ko
end
section
set_option maxHeartbeats 1000000
set_option maxRecDepth 100000
namespace Go.Proofs.YtgnagbbdnlmgeaaGreat.Ge
open Go Go.RowKit
open Ob Ba Ko
def oc (a : Int) : Int :=
  let A := IntKind.u64.wrap (Go.bits .and .u64 (a / 2) 6148914691236517205 + Go.bits .and .u64 a 6148914691236517205)
  let B := IntKind.u64.wrap (Go.bits .and .u64 (A / 4) 3689348814741910323 + Go.bits .and .u64 A 3689348814741910323)
  let C := Go.bits .and .u64 (IntKind.u64.wrap (B / 16 + B)) 1085102592571150095
  let D := IntKind.u64.wrap (C + C / 256)
  let E := IntKind.u64.wrap (D + D / 65536)
  let F := IntKind.u64.wrap (E + E / 4294967296)
  Go.bits .and .i64 (wrap64 F) 127
theorem ones64 (a : Int) (w : World) : Calls Tryz.prog 112 #[.int .u64 a] w fun e w' => e = .returned (.int .i64 (oc a)) ∧ w = w' := by
  go_enter Tryz.func112, Tryz.ntmps112
  go_wp2
  go_ret
  exact ⟨rfl, rfl⟩
theorem ones (a : Int) (w : World) : Calls Tryz.prog 189 #[.int .u64 a] w fun e w' => e = .returned (.int .i64 (oc a)) ∧ w = w' := by
  go_enter Tryz.func189, Tryz.ntmps189
  go_wp2_with (go_at_call 112; refine (ones64 _ _).mono ?_; rintro e w' ⟨rfl, rfl⟩)
  go_ret
  exact ⟨rfl, rfl⟩
theorem ones_all : (List.range 4033).all (fun j => (oc ((64 + j : Nat) : Int) == 1) == decide (((64 + j : Nat) : Int) ∈ pows)) = true := by decide +kernel
theorem ones_at (s : Int) (h0 : 64 ≤ s) (h1 : s ≤ 4096) : (oc s == 1) = decide (s ∈ pows) := by
  obtain ⟨j, rfl⟩ : ∃ j : Nat, s = ((64 + j : Nat) : Int) := ⟨(s - 64).toNat, by omega⟩
  have h := List.all_eq_true.1 ones_all j (List.mem_range.2 (by omega))
  exact beq_iff_eq.1 h
theorem right (n m s : Int) (w : World) : Calls Tryz.prog 177 #[.agg #[.int .i64 n, .int .i64 m, .int .i64 s]] w fun e w' => e = .returned (.bool (inB n m && decide (s ∈ pows))) ∧ Below w.heap.size w w' := by
  have hu := Tryz.underlying34
  by_cases h : 1 ≤ n ∧ n ≤ 65534 ∧ 1 ≤ m ∧ m ≤ 65534 ∧ 64 ≤ s ∧ s ≤ 4096
  · obtain ⟨h1, h2, h3, h4, h5, h6⟩ := h
    have hi : (inB n m && decide (s ∈ pows)) = (oc s == 1) := by
      rw [ones_at s h5 h6]
      simp [inB, h1, h2, h3, h4]
    rw [hi]
    have hwr : IntKind.u64.wrap s = s := wu64 _ (by omega) (by omega)
    clear hi
    generalize hb : (oc s == 1) = b
    have HB := Lib.hid hb
    go_enter Tryz.func177, Tryz.ntmps177
    go_wp2_with (go_at_call 189; refine (ones _ _).mono ?_; rintro e w' ⟨rfl, rfl⟩)
    go_ret
    exact ⟨rfl, by repeat (first | exact Below.refl _ _ | refine bl_alloc ?_ _)⟩
  · have hi : (inB n m && decide (s ∈ pows)) = false := by
      by_cases hs : s ∈ pows
      · have := pows_in hs
        simp only [inB, Bool.and_eq_false_iff, decide_eq_false_iff_not]
        omega
      · simp [hs]
    rw [hi]
    rcases (by omega : n < 1 ∨ (1 ≤ n ∧ 65534 < n) ∨ (1 ≤ n ∧ n ≤ 65534 ∧ m < 1) ∨ (1 ≤ n ∧ n ≤ 65534 ∧ 1 ≤ m ∧ 65534 < m) ∨ (1 ≤ n ∧ n ≤ 65534 ∧ 1 ≤ m ∧ m ≤ 65534 ∧ s < 64) ∨ (1 ≤ n ∧ n ≤ 65534 ∧ 1 ≤ m ∧ m ≤ 65534 ∧ 64 ≤ s ∧ 4096 < s)) with h1 | ⟨h1, h2⟩ | ⟨h1, h2, h3⟩ | ⟨h1, h2, h3, h4⟩ | ⟨h1, h2, h3, h4, h5⟩ | ⟨h1, h2, h3, h4, h5, h6⟩
    all_goals
      clear h hi
      go_enter Tryz.func177, Tryz.ntmps177
      go_wp2
      go_ret
      exact ⟨rfl, by repeat (first | exact Below.refl _ _ | refine bl_alloc ?_ _)⟩
theorem slots (n m s : Int) (h0 : 0 ≤ m) (h1 : m ≤ 65534) (w : World) : Calls Tryz.prog 136 #[.agg #[.int .i64 n, .int .i64 m, .int .i64 s]] w fun e w' => e = .returned (.int .i64 (16 + 8 * m)) ∧ Below w.heap.size w w' := by
  have hu := Tryz.underlying34
  go_enter Tryz.func136, Tryz.ntmps136
  go_wp2
  go_ret
  exact ⟨ret_int (by omega), by repeat (first | exact Below.refl _ _ | refine bl_alloc ?_ _)⟩
theorem lines (x : Int) (h0 : 0 ≤ x) (h1 : x < 1000000000) (w : World) : Calls Tryz.prog 176 #[.int .i64 x] w fun e w' => e = .returned (.int .i64 (up8 x)) ∧ w = w' := by
  go_enter Tryz.func176, Tryz.ntmps176
  go_wp2
  go_ret
  exact ⟨ret_int (by unfold up8; omega), rfl⟩
end Go.Proofs.YtgnagbbdnlmgeaaGreat.Ge
end
section
set_option maxHeartbeats 1000000
set_option maxRecDepth 100000
namespace Go.Proofs.YtgnagbbdnlmgeaaGreat.Ge
open Go Go.RowKit
open Ob Ba Ko
def bmAt (n m : Int) : Int := 16 + 8 * m + up8 n
def bkAt (n m : Int) : Int := 16 + 8 * m + up8 n + up8 ((n + 63) / 64)
theorem inB_out {n m : Int} (h : inB n m = true) : 1 ≤ n ∧ n ≤ 65534 ∧ 1 ≤ m ∧ m ≤ 65534 := by
  simp only [inB, Bool.and_eq_true, decide_eq_true_eq] at h
  omega
theorem up8_in {x : Int} (h : 0 ≤ x) : x ≤ up8 x ∧ up8 x ≤ x + 7 := by unfold up8; omega
structure Bx (w W : World) : Prop where
  below : Below w.heap.size w W
  size : w.heap.size < W.heap.size
theorem bx_keep {w W W' : World} {c0 c1 c2 : Value} (h : W.cell? ⟨w.heap.size, 0, none⟩ = some c0 ∧ W.cell? ⟨w.heap.size, 1, none⟩ = some c1 ∧ W.cell? ⟨w.heap.size, 2, none⟩ = some c2 ∧ Bx w W) (hb : Below W.heap.size W W') :
    W'.cell? ⟨w.heap.size, 0, none⟩ = some c0 ∧ W'.cell? ⟨w.heap.size, 1, none⟩ = some c1 ∧ W'.cell? ⟨w.heap.size, 2, none⟩ = some c2 ∧ Bx w W' := by
  obtain ⟨h0, h1, h2, h3, h4⟩ := h
  have hs := hb.size
  exact ⟨(hb.cell (p := ⟨_, 0, none⟩) h4).trans h0, (hb.cell (p := ⟨_, 1, none⟩) h4).trans h1, (hb.cell (p := ⟨_, 2, none⟩) h4).trans h2, bl_then h3 hb, by omega⟩
theorem bx_of {w W : World} {c0 c1 c2 : Value} (h : W.cell? ⟨w.heap.size, 0, none⟩ = some c0 ∧ W.cell? ⟨w.heap.size, 1, none⟩ = some c1 ∧ W.cell? ⟨w.heap.size, 2, none⟩ = some c2 ∧ Bx w W) : Bx w W := h.2.2.2
theorem bx_start {w W : World} {c0 c1 c2 : Value} {T : TypeId} (h : W = (w.alloc (.cells #[c0, c1, c2] T)).drew) : W.cell? ⟨w.heap.size, 0, none⟩ = some c0 ∧ W.cell? ⟨w.heap.size, 1, none⟩ = some c1 ∧ W.cell? ⟨w.heap.size, 2, none⟩ = some c2 ∧ Bx w W := by
  subst h
  exact ⟨cell_of (alloc_new w _) 0, cell_of (alloc_new w _) 1, cell_of (alloc_new w _) 2, bl_drew (bl_alloc (Below.refl _ _) _), by simp⟩
theorem bitmap_ (n m s : Int) (h : inB n m = true) (w : World) : Calls Tryz.prog 141 #[.agg #[.int .i64 n, .int .i64 m, .int .i64 s]] w fun e w' => e = .returned (.tuple #[.int .i64 (bmAt n m), .int .i64 ((n + 63) / 64)]) ∧ Below w.heap.size w w' := by
  have hu := Tryz.underlying34
  obtain ⟨h1, h2, h3, h4⟩ := inB_out h
  clear h
  have h5 := up8_in (x := n) (by omega)
  have q1 : IntKind.i64.wrap (16 + 8 * m + up8 n) = bmAt n m := by unfold bmAt; exact IntWalk.i64_in _ (by omega)
  have q2 : IntKind.i64.wrap (n + 64) = n + 64 := IntWalk.i64_in _ (by omega)
  have q3 : IntKind.i64.wrap (n + 64 - 1) = n + 63 := by rw [IntWalk.i64_in _ (by omega)]; omega
  have q4 : IntKind.i64.wrap ((n + 63).tdiv 64) = (n + 63) / 64 := by rw [Int.tdiv_eq_ediv_of_nonneg (by omega)]; exact IntWalk.i64_in _ (by omega)
  have Q := Lib.hid (And.intro q1 (And.intro q2 (And.intro q3 q4)))
  clear q1 q2 q3 q4
  go_enter Tryz.func141, Tryz.ntmps141
  go_wp2_with fail
  obtain ⟨q1, q2, q3, q4⟩ := Q.out
  go_region_held3 (fun w' => w'.cell? ⟨w.heap.size, 0, none⟩ = some (.int .i64 n) ∧ w'.cell? ⟨w.heap.size, 1, none⟩ = some (.int .i64 m) ∧ w'.cell? ⟨w.heap.size, 2, none⟩ = some (.int .i64 s) ∧ Bx w w')
    (first | assumption | exact bx_start rfl | exact bx_keep ‹_› ‹_›)
    (first | (go_at_call 136; refine (slots _ _ _ (by omega) (by omega) _).mono ?_; rintro e w1 ⟨rfl, hb⟩) |
    (go_at_call 176; refine (lines _ (by omega) (by omega) _).mono ?_; rintro e w2 ⟨rfl, rfl⟩))
  all_goals
    go_wp2
    go_ret2
    exact ⟨rfl, (bx_of ‹_›).below⟩
theorem blocks_ (n m s : Int) (h : inB n m = true) (w : World) : Calls Tryz.prog 139 #[.agg #[.int .i64 n, .int .i64 m, .int .i64 s]] w fun e w' => e = .returned (.int .i64 (bkAt n m)) ∧ Below w.heap.size w w' := by
  have hu := Tryz.underlying34
  obtain ⟨h1, h2, h3, h4⟩ := inB_out h
  have h5 := up8_in (x := n) (by omega)
  have h6 := up8_in (x := (n + 63) / 64) (by omega)
  have H := Lib.hid h
  clear h
  have hb0 : 0 ≤ bmAt n m ∧ bmAt n m ≤ 1000000 := by unfold bmAt; omega
  have HE : Hid (bkAt n m = bmAt n m + up8 ((n + 63) / 64)) := rfl
  go_enter Tryz.func139, Tryz.ntmps139
  go_wp2_with (first | (go_at_call 141; refine (bitmap_ _ _ _ H.out _).mono ?_; rintro e w1 ⟨rfl, hb⟩; (have HB := Lib.hid hb); clear hb) |
    (go_at_call 176; refine (lines _ (by omega) (by omega) _).mono ?_; rintro e w2 ⟨rfl, rfl⟩))
  go_ret
  exact ⟨ret_int HE.out.symm, bl_then (by repeat (first | exact Below.refl _ _ | refine bl_alloc ?_ _)) HB.out⟩
theorem pows_eight {s : Int} (h : s ∈ pows) : ∃ k, s = 8 * k ∧ 8 ≤ k ∧ k ≤ 512 ∧ s / 8 = k := by
  simp only [pows, List.mem_cons, List.not_mem_nil, or_false] at h
  exact ⟨s / 8, by omega, by omega, by omega, rfl⟩
theorem all_ (n m s : Int) (h : inB n m = true) (hs : s ∈ pows) (w : World) : Calls Tryz.prog 178 #[.agg #[.int .i64 n, .int .i64 m, .int .i64 s]] w fun e w' => e = .returned (.int .i64 (tot n m s)) ∧ Below w.heap.size w w' := by
  have hu := Tryz.underlying34
  obtain ⟨h1, h2, h3, h4⟩ := inB_out h
  have h5 := up8_in (x := n) (by omega)
  have h6 := up8_in (x := (n + 63) / 64) (by omega)
  obtain ⟨k, e1, e2, e3, e4⟩ := pows_eight hs
  have hnk0 : 0 ≤ n * k := Int.mul_nonneg (by omega) (by omega)
  have hnk1 : n * k ≤ 65534 * 512 := Int.mul_le_mul (by omega) (by omega) (by omega) (by omega)
  have hb0 : 0 ≤ bkAt n m ∧ bkAt n m ≤ 1000000 := by unfold bkAt; omega
  have q1 : IntKind.i64.wrap (s.tdiv 8) = k := by rw [Int.tdiv_eq_ediv_of_nonneg (by omega), e4]; exact IntWalk.i64_in _ (by omega)
  have q2 : IntKind.i64.wrap (n * k) = n * k := IntWalk.i64_in _ (by omega)
  have q3 : IntKind.i64.wrap (bkAt n m + n * k) = tot n m s := by
    rw [IntWalk.i64_in _ (by omega)]
    unfold tot bkAt
    rw [e4]
  have Q := Lib.hid (And.intro q1 (And.intro q2 q3))
  have H := Lib.hid h
  clear h q1 q2 q3 e1 e4 hs h5 h6
  go_enter Tryz.func178, Tryz.ntmps178
  go_wp2_with fail
  obtain ⟨q1, q2, q3⟩ := Q.out
  go_region_held3 (fun w' => w'.cell? ⟨w.heap.size, 0, none⟩ = some (.int .i64 n) ∧ w'.cell? ⟨w.heap.size, 1, none⟩ = some (.int .i64 m) ∧ w'.cell? ⟨w.heap.size, 2, none⟩ = some (.int .i64 s) ∧ Bx w w')
    (first | assumption | exact bx_start rfl | exact bx_keep ‹_› ‹_›)
    (first | (go_at_call 139; refine (blocks_ _ _ _ H.out _).mono ?_; rintro e w1 ⟨rfl, hb⟩))
  all_goals
    go_wp2
    go_ret
    exact ⟨rfl, (bx_of ‹_›).below⟩
theorem may_ (n m s : Int) (w : World) : Calls Tryz.prog 140 #[.agg #[.int .i64 n, .int .i64 m, .int .i64 s]] w fun e w' => e = .returned (.bool (geoOk n m s)) ∧ Below w.heap.size w w' := by
  have hu := Tryz.underlying34
  have hr := right n m s
  by_cases h : inB n m = true ∧ s ∈ pows
  · have he : geoOk n m s = decide (tot n m s ≤ 4194304) := by simp [geoOk, h.1, h.2]
    rw [he]
    have e2 : (inB n m && decide (s ∈ pows)) = true := by simp [h.1, h.2]
    rw [e2] at hr
    have ha := all_ n m s h.1 h.2
    have HR := Lib.hid hr
    have HA := Lib.hid ha
    clear h he e2 hr ha
    generalize tot n m s = t at *
    go_enter Tryz.func140, Tryz.ntmps140
    go_wp2_with (first | (go_at_call 177; refine (HR.out _).mono ?_; rintro e w1 ⟨rfl, hb⟩; (obtain ⟨hc, hf⟩ := bcell hb); (have hz : w.heap.size < w1.heap.size := by (have h9 := hb.size; simp at h9; omega)); (have HB := Lib.hid hb); clear hb hf) |
      (go_at_call 178; refine (HA.out _).mono ?_; rintro e w2 ⟨rfl, hb⟩; (have HB2 := Lib.hid hb); clear hb))
    go_ret
    exact ⟨rfl, bl_then (bl_then (bl_alloc (Below.refl _ _) _) HB.out) HB2.out⟩
  · have e2 : (inB n m && decide (s ∈ pows)) = false := by
      cases hi : inB n m
      · rfl
      · simp only [hi, true_and] at h
        simp [h]
    have he : geoOk n m s = false := by simp only [geoOk, e2, Bool.false_and]
    rw [he]
    rw [e2] at hr
    have HR := Lib.hid hr
    clear h he e2 hr
    go_enter Tryz.func140, Tryz.ntmps140
    go_wp2_with (go_at_call 177; refine (HR.out _).mono ?_; rintro e w1 ⟨rfl, hb⟩; (have HB := Lib.hid hb); clear hb)
    go_ret
    exact ⟨rfl, bl_then (bl_alloc (Below.refl _ _) _) HB.out⟩
end Go.Proofs.YtgnagbbdnlmgeaaGreat.Ge
end
section
set_option maxHeartbeats 1000000
set_option maxRecDepth 100000
namespace Go.Proofs.YtgnagbbdnlmgeaaGreat.Ge
open Go Go.RowKit
open Ob Ba Ko
theorem ok_out {n m s : Int} (h : geoOk n m s = true) : inB n m = true ∧ s ∈ pows ∧ tot n m s ≤ 4194304 := by
  simp only [geoOk, Bool.and_eq_true, decide_eq_true_eq] at h
  exact ⟨h.1.1, h.1.2, h.2⟩
theorem words_ (n m s : Int) (h : geoOk n m s = true) (w : World) : Calls Tryz.prog 167 #[.agg #[.int .i64 n, .int .i64 m, .int .i64 s]] w fun e w' => e = .returned (.int .i64 (tot n m s)) ∧ Below w.heap.size w w' := by
  have hu := Tryz.underlying34
  have hm := may_ n m s
  rw [h] at hm
  obtain ⟨h1, h2, h3⟩ := ok_out h
  have HM := Lib.hid hm
  have HA := Lib.hid (all_ n m s h1 h2)
  clear h hm h1 h2 h3
  go_enter Tryz.func167, Tryz.ntmps167
  go_wp2_with (first | (go_at_call 140; refine (HM.out _).mono ?_; rintro e w1 ⟨rfl, hb⟩; (obtain ⟨hc, hf⟩ := bcell hb); (have HB := Lib.hid hb); clear hb hf) |
    (go_at_call 178; refine (HA.out _).mono ?_; rintro e w2 ⟨rfl, hb⟩; (have HB2 := Lib.hid hb); clear hb))
  go_ret
  exact ⟨rfl, bl_then (bl_then (bl_alloc (Below.refl _ _) _) HB.out) HB2.out⟩
def plc (at_ i k : Int) : Int := if 0 ≤ i ∧ i < k then at_ else -1
theorem place_ (n m s a i k : Int) (h : geoOk n m s = true) (w : World) : Calls Tryz.prog 132 #[.agg #[.int .i64 n, .int .i64 m, .int .i64 s], .int .i64 a, .int .i64 i, .int .i64 k] w fun e w' => e = .returned (.int .i64 (plc a i k)) ∧ Below w.heap.size w w' := by
  have hu := Tryz.underlying34
  have hm := may_ n m s
  rw [h] at hm
  have HM := Lib.hid hm
  clear h hm
  rcases (by omega : i < 0 ∨ (0 ≤ i ∧ k ≤ i) ∨ (0 ≤ i ∧ i < k)) with h1 | ⟨h1, h2⟩ | ⟨h1, h2⟩
  · have e1 : plc a i k = -1 := if_neg (by omega)
    rw [e1]
    clear e1
    go_enter Tryz.func132, Tryz.ntmps132
    go_wp2
    go_ret
    exact ⟨rfl, bl_alloc (Below.refl _ _) _⟩
  · have e1 : plc a i k = -1 := if_neg (by omega)
    rw [e1]
    clear e1
    go_enter Tryz.func132, Tryz.ntmps132
    go_wp2
    go_ret
    exact ⟨rfl, bl_alloc (Below.refl _ _) _⟩
  · have e1 : plc a i k = a := if_pos ⟨h1, h2⟩
    rw [e1]
    clear e1
    go_enter Tryz.func132, Tryz.ntmps132
    go_wp2_with (first | (go_at_call 140; refine (HM.out _).mono ?_; rintro e w1 ⟨rfl, hb⟩; (have HB := Lib.hid hb); clear hb))
    go_ret
    exact ⟨rfl, bl_then (bl_alloc (Below.refl _ _) _) HB.out⟩
theorem inode_ (n m s i : Int) (h : geoOk n m s = true) (w : World) : Calls Tryz.prog 76 #[.agg #[.int .i64 n, .int .i64 m, .int .i64 s], .int .i64 i] w fun e w' => e = .returned (.int .i64 (plc (16 + 8 * i) i m)) ∧ Below w.heap.size w w' := by
  have hu := Tryz.underlying34
  have hin := inB_out (ok_out h).1
  have hp : ∀ W, Calls Tryz.prog 132 #[.agg #[.int .i64 n, .int .i64 m, .int .i64 s], .int .i64 (wrap64 (16 + wrap64 (i * 8))), .int .i64 i, .int .i64 m] W fun e w' => e = .returned (.int .i64 (plc (16 + 8 * i) i m)) ∧ Below W.heap.size W w' := by
    intro W
    have e : plc (16 + 8 * i) i m = plc (wrap64 (16 + wrap64 (i * 8))) i m := by
      unfold plc
      split
      · rw [w64 (i * 8) (by omega) (by omega), w64 _ (by omega) (by omega)]; omega
      · rfl
    rw [e]
    exact place_ n m s _ i m h W
  have HP := Lib.hid hp
  clear h hp hin
  go_enter Tryz.func76, Tryz.ntmps76
  go_wp2_with (first | (go_at_call 132; refine (HP.out _).mono ?_; rintro e w1 ⟨rfl, hb⟩; (have HB := Lib.hid hb); clear hb))
  go_ret
  exact ⟨rfl, bl_then (bl_alloc (Below.refl _ _) _) HB.out⟩
theorem slot_ (n m s i : Int) (h : geoOk n m s = true) (w : World) : Calls Tryz.prog 80 #[.agg #[.int .i64 n, .int .i64 m, .int .i64 s], .int .i64 i] w fun e w' => e = .returned (.int .i64 (plc (16 + 8 * m + i) i n)) ∧ Below w.heap.size w w' := by
  have hu := Tryz.underlying34
  have hin := inB_out (ok_out h).1
  have hs := slots n m s (by omega) (by omega)
  have hp : ∀ W, Calls Tryz.prog 132 #[.agg #[.int .i64 n, .int .i64 m, .int .i64 s], .int .i64 (IntKind.i64.wrap (16 + 8 * m + i)), .int .i64 i, .int .i64 n] W fun e w' => e = .returned (.int .i64 (plc (16 + 8 * m + i) i n)) ∧ Below W.heap.size W w' := by
    intro W
    have e : plc (16 + 8 * m + i) i n = plc (IntKind.i64.wrap (16 + 8 * m + i)) i n := by
      unfold plc
      split
      · rw [IntWalk.i64_in _ (by omega)]
      · rfl
    rw [e]
    exact place_ n m s _ i n h W
  have HP := Lib.hid hp
  have HS := Lib.hid hs
  clear h hp hs hin
  go_enter Tryz.func80, Tryz.ntmps80
  go_wp2_with fail
  go_region_held3 (fun w' => w'.cell? ⟨w.heap.size, 0, none⟩ = some (.int .i64 n) ∧ w'.cell? ⟨w.heap.size, 1, none⟩ = some (.int .i64 m) ∧ w'.cell? ⟨w.heap.size, 2, none⟩ = some (.int .i64 s) ∧ Bx w w')
    (first | assumption | exact bx_start rfl | exact bx_keep ‹_› ‹_›)
    (first | (go_at_call 132; refine (HP.out _).mono ?_; rintro e w1 ⟨rfl, hb⟩) | (go_at_call 136; refine (HS.out _).mono ?_; rintro e w2 ⟨rfl, hb⟩))
  all_goals
    go_wp2
    go_ret
    exact ⟨rfl, (bx_of ‹_›).below⟩
theorem block_ (n m s i : Int) (h : geoOk n m s = true) (w : World) : Calls Tryz.prog 84 #[.agg #[.int .i64 n, .int .i64 m, .int .i64 s], .int .i64 i] w fun e w' => e = .returned (.int .i64 (plc (bkAt n m + i * (s / 8)) i n)) ∧ Below w.heap.size w w' := by
  have hu := Tryz.underlying34
  obtain ⟨hi, hpw, _⟩ := ok_out h
  have hin := inB_out hi
  have h5 := up8_in (x := n) (by omega)
  have h6 := up8_in (x := (n + 63) / 64) (by omega)
  have hb0 : 0 ≤ bkAt n m ∧ bkAt n m ≤ 1000000 := by unfold bkAt; omega
  have hs := blocks_ n m s hi
  obtain ⟨k, e1, e2, e3, e4⟩ := pows_eight hpw
  have q1 : IntKind.i64.wrap (s.tdiv 8) = k := by rw [Int.tdiv_eq_ediv_of_nonneg (by omega), e4]; exact IntWalk.i64_in _ (by omega)
  have hp : ∀ W, Calls Tryz.prog 132 #[.agg #[.int .i64 n, .int .i64 m, .int .i64 s], .int .i64 (IntKind.i64.wrap (bkAt n m + IntKind.i64.wrap (i * k))), .int .i64 i, .int .i64 n] W fun e w' => e = .returned (.int .i64 (plc (bkAt n m + i * (s / 8)) i n)) ∧ Below W.heap.size W w' := by
    intro W
    have e : plc (bkAt n m + i * (s / 8)) i n = plc (IntKind.i64.wrap (bkAt n m + IntKind.i64.wrap (i * k))) i n := by
      rw [e4]
      unfold plc
      split
      · have hnk0 : 0 ≤ i * k := Int.mul_nonneg (by omega) (by omega)
        have hnk1 : i * k ≤ 65534 * 512 := Int.mul_le_mul (by omega) (by omega) (by omega) (by omega)
        rw [IntWalk.i64_in (i * k) (by omega), IntWalk.i64_in _ (by omega)]
      · rfl
    rw [e]
    exact place_ n m s _ i n h W
  have HP := Lib.hid hp
  have HS := Lib.hid hs
  have Q := Lib.hid q1
  clear h hp hs hin hi hpw h5 h6 e1 e4 q1
  go_enter Tryz.func84, Tryz.ntmps84
  go_wp2_with fail
  have q1 := Q.out
  go_region_held3 (fun w' => w'.cell? ⟨w.heap.size, 0, none⟩ = some (.int .i64 n) ∧ w'.cell? ⟨w.heap.size, 1, none⟩ = some (.int .i64 m) ∧ w'.cell? ⟨w.heap.size, 2, none⟩ = some (.int .i64 s) ∧ Bx w w')
    (first | assumption | exact bx_start rfl | exact bx_keep ‹_› ‹_›)
    (first | (go_at_call 132; refine (HP.out _).mono ?_; rintro e w1 ⟨rfl, hb⟩) | (go_at_call 139; refine (HS.out _).mono ?_; rintro e w2 ⟨rfl, hb⟩))
  all_goals
    go_wp2
    go_ret
    exact ⟨rfl, (bx_of ‹_›).below⟩
theorem bmap_ (n m s : Int) (h : geoOk n m s = true) (w : World) : Calls Tryz.prog 88 #[.agg #[.int .i64 n, .int .i64 m, .int .i64 s]] w fun e w' => e = .returned (.tuple #[.int .i64 (bmAt n m), .int .i64 ((n + 63) / 64)]) ∧ Below w.heap.size w w' := by
  have hu := Tryz.underlying34
  have hm := may_ n m s
  rw [h] at hm
  have HM := Lib.hid hm
  have HA := Lib.hid (bitmap_ n m s (ok_out h).1)
  clear h hm
  go_enter Tryz.func88, Tryz.ntmps88
  go_wp2_with (first | (go_at_call 140; refine (HM.out _).mono ?_; rintro e w1 ⟨rfl, hb⟩; (obtain ⟨hc, hf⟩ := bcell hb); (have HB := Lib.hid hb); clear hb hf) |
    (go_at_call 141; refine (HA.out _).mono ?_; rintro e w2 ⟨rfl, hb⟩; (have HB2 := Lib.hid hb); clear hb))
  go_ret2
  exact ⟨rfl, bl_then (bl_then (bl_alloc (Below.refl _ _) _) HB.out) HB2.out⟩
end Go.Proofs.YtgnagbbdnlmgeaaGreat.Ge
end
