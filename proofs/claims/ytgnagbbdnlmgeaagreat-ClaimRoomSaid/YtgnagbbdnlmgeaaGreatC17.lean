/- Parts of the proof, one behind the other: Jh, Tr, Ck, Hp, Cb, Ci, Cj. -/
import Derived.Test.YtgnagbbdnlmgeaaGreatC12
import Derived.Test.YtgnagbbdnlmgeaaGreatC16
import Derived.Test.YtgnagbbdnlmgeaaGreatC08
import Derived.Test.YtgnagbbdnlmgeaaGreatC06
import Derived.Test.YtgnagbbdnlmgeaaGreatC15
import Derived.Carry

/- What the program and the document read of one device's words: inodes, slots, the record, the bitmap, blocks, side by side. -/
section
set_option linter.unusedVariables false
set_option linter.unusedSimpArgs false
set_option maxHeartbeats 2000000
set_option maxRecDepth 100000
namespace Go.Proofs.YtgnagbbdnlmgeaaGreat.Jh
open Go Go.RowKit
open Go.Proofs.YtgnagbbdnlmgeaaGreat.Ob Go.Proofs.YtgnagbbdnlmgeaaGreat.Ba Go.Proofs.YtgnagbbdnlmgeaaGreat.Ko Go.Proofs.YtgnagbbdnlmgeaaGreat.Ge Go.Proofs.YtgnagbbdnlmgeaaGreat.Oc Go.Proofs.YtgnagbbdnlmgeaaGreat.Pk Go.Proofs.YtgnagbbdnlmgeaaGreat.Su Go.Proofs.YtgnagbbdnlmgeaaGreat.Rf Go.Proofs.YtgnagbbdnlmgeaaGreat.Dv Go.Proofs.YtgnagbbdnlmgeaaGreat.Vo Go.Proofs.YtgnagbbdnlmgeaaGreat.Ra Go.Proofs.YtgnagbbdnlmgeaaGreat.Lo Go.Proofs.YtgnagbbdnlmgeaaGreat.Li Go.Proofs.YtgnagbbdnlmgeaaGreat.Vs Go.Proofs.YtgnagbbdnlmgeaaGreat.In Go.Proofs.YtgnagbbdnlmgeaaGreat.Iq Go.Proofs.YtgnagbbdnlmgeaaGreat.Je Go.Proofs.YtgnagbbdnlmgeaaGreat.Jd Go.Proofs.YtgnagbbdnlmgeaaGreat.Bm Go.Proofs.YtgnagbbdnlmgeaaGreat.R0 Go.Proofs.YtgnagbbdnlmgeaaGreat.Rj

/-- words of their kind -/
theorem dws_nat (h l : List Nat) (T : Nat) (hh : ∀ x ∈ h, x < 18446744073709551616) (hl : ∀ x ∈ l, x < 18446744073709551616) :
    ∃ ws : List Nat, dws (ints h) (ints l) T = ints ws ∧ ∀ x ∈ ws, x < 18446744073709551616 := by
  have key : ∀ z ∈ dws (ints h) (ints l) T, ∃ x : Nat, z = (x : Int) ∧ x < 18446744073709551616 := by
    intro z hz
    unfold dws at hz
    rcases List.mem_append.1 hz with hz | hz
    · obtain ⟨x, hx, rfl⟩ := List.mem_map.1 hz
      exact ⟨x, rfl, hh x hx⟩
    · obtain ⟨j, -, rfl⟩ := List.mem_map.1 hz
      unfold rwd
      split
      · exact ⟨0, rfl, by decide⟩
      · rename_i hne
        cases he : (ints l)[(8 + j) % (ints l).length]? with
        | none => exact ⟨0, by simp [List.getD_eq_getElem?_getD, he], by decide⟩
        | some y =>
          have hm := List.mem_of_getElem? he
          obtain ⟨x, hx, rfl⟩ := List.mem_map.1 hm
          exact ⟨x, by simp [List.getD_eq_getElem?_getD, he], hl x hx⟩
  generalize dws (ints h) (ints l) T = L at *
  refine ⟨L.map Int.toNat, ?_, ?_⟩
  · unfold ints
    rw [List.map_map]
    conv => lhs; rw [← List.map_id L]
    apply List.map_congr_left
    intro z hz
    obtain ⟨x, rfl, -⟩ := key z hz
    rfl
  · intro x hx
    obtain ⟨z, hz, rfl⟩ := List.mem_map.1 hx
    obtain ⟨x, rfl, hx9⟩ := key z hz
    exact hx9

theorem lds_sub {ws : List Nat} {k n : Nat} (h : k + n ≤ ws.length) : lds (Pm.devOf (ints ws)) k n = ints ((ws.drop k).take n) := by
  rw [Md.lds_drop (by show k + n ≤ (ints ws).length; rw [ints_length]; exact h), words_devOf, ints_dt]

theorem inode_pair {W : World} {v b n m s : Nat} {g : Lay} {ws : List Nat} (hv : VolIs W v b n m s (Pm.devOf (ints ws)) g) {a : Addr} {T c8 : Nat} (hr : Rk .u64 W (some a) (ints ws)) (hT : ws.length = T) (hc : T ≤ c8) (hlt : ∀ x ∈ ws, x < 18446744073709551616) (hT9 : T ≤ 1000000) (hfit : 16 + 8 * (m : Int) ≤ T) (p2 p3 p4 p5 i : Int) :
    ∃ (x y z : Int) (is : Bool) (e : Int), ((is = true ∧ e = 0) ∨ (is = false ∧ e = if i < 0 ∨ (m : Int) ≤ i then 9 else 2)) ∧
      (∀ {W' : World}, Below W.heap.size W W' → Calls Tryz.prog 19 #[.pointer (some ⟨v, 0, none⟩), .int .i64 i] W' fun o w' => o = .returned (.tuple #[.agg #[.int .i64 x, .int .i64 y, .int .i64 z], .int .i64 e]) ∧ Below W'.heap.size W' w') ∧
      (∀ {W' : World}, Below W.heap.size W W' → Calls Tryz.prog 20 #[.agg #[.int .i64 n, .int .i64 m, .int .i64 s, .int .i64 16, .int .i64 p2, .int .i64 p3, .int .i64 p4, .int .i64 p5, .slice (some a) T c8], .int .i64 i] W' fun o w' => o = .returned (.tuple #[.agg #[.int .i64 x, .int .i64 y, .int .i64 z], .bool is]) ∧ Below W'.heap.size W' w') := by
  by_cases hi : i < 0 ∨ (m : Int) ≤ i
  · exact ⟨0, -1, 0, false, 9, .inr ⟨rfl, by rw [if_pos hi]⟩, fun hb => inode_out (hv.below hb) i hi, fun hb => r15inode_out n m s p2 p3 p4 p5 i hi⟩
  · obtain ⟨k, hk⟩ : ∃ k : Nat, (k : Int) = 16 + 8 * i := ⟨(16 + 8 * i).toNat, by omega⟩
    have hk8 : k + 8 ≤ T := by omega
    have hl := lds_sub (ws := ws) (k := k) (n := 8) (by omega)
    have hlt8 : ∀ x ∈ (ws.drop k).take 8, x < 18446744073709551616 := fun x hx => hlt x (List.mem_of_mem_drop (List.mem_of_mem_take hx))
    have h1 : ∀ {W' : World}, Below W.heap.size W W' → _ := fun {W'} hb => inode_get (hv.below hb) i (by omega) k hk _ hl hlt8
    have h2 : ∀ {W' : World}, Below W.heap.size W W' → _ := fun {W'} hb => r15inode_get (hr.below hb) hT hc hlt n m s p2 p3 p4 p5 i (by omega) k hk hk8 (by omega)
    refine ⟨_, _, _, ok6 ((ws.drop k).take 8), if ok6 ((ws.drop k).take 8) then 0 else 2, ?_, fun hb => h1 hb, fun hb => h2 hb⟩
    cases h9 : ok6 ((ws.drop k).take 8) with
    | true => exact .inl ⟨rfl, rfl⟩
    | false => exact .inr ⟨rfl, by rw [if_neg hi]; rfl⟩

theorem slot_pair {W : World} {v b n m s : Nat} {g : Lay} {ws : List Nat} (hv : VolIs W v b n m s (Pm.devOf (ints ws)) g) {a : Addr} {T c8 : Nat} (hr : Rk .u64 W (some a) (ints ws)) (hT : ws.length = T) (hc : T ≤ c8) (hlt : ∀ x ∈ ws, x < 18446744073709551616) (hT9 : T ≤ 1000000) (hfit : 16 + 8 * (m : Int) + n ≤ T) (p3 p4 p5 i : Int) :
    ∃ (x y z : Int) (is : Bool) (e : Int), ((is = true ∧ e = 0 ∧ ¬ (i < 0 ∨ (n : Int) ≤ i)) ∨ (is = false ∧ e = if i < 0 ∨ (n : Int) ≤ i then 9 else 2)) ∧
      (∀ {W' : World}, Below W.heap.size W W' → Calls Tryz.prog 21 #[.pointer (some ⟨v, 0, none⟩), .int .i64 i] W' fun o w' => o = .returned (.tuple #[.agg #[.int .i64 x, .int .i64 y, .int .i64 z], .int .i64 e]) ∧ Below W'.heap.size W' w') ∧
      (∀ {W' : World}, Below W.heap.size W W' → Calls Tryz.prog 22 #[.agg #[.int .i64 n, .int .i64 m, .int .i64 s, .int .i64 16, .int .i64 (16 + 8 * m), .int .i64 p3, .int .i64 p4, .int .i64 p5, .slice (some a) T c8], .int .i64 i] W' fun o w' => o = .returned (.tuple #[.agg #[.int .i64 x, .int .i64 y, .int .i64 z], .bool is]) ∧ Below W'.heap.size W' w') := by
  by_cases hi : i < 0 ∨ (n : Int) ≤ i
  · exact ⟨0, 0, 0, false, 9, .inr ⟨rfl, by rw [if_pos hi]⟩, fun hb => slot_out (hv.below hb) i hi, fun hb => r15slot_out n m s _ p3 p4 p5 i hi⟩
  · obtain ⟨k, hk⟩ : ∃ k : Nat, (k : Int) = 16 + 8 * m + i := ⟨(16 + 8 * m + i).toNat, by omega⟩
    have hkT : k < T := by omega
    obtain ⟨x, hx⟩ := some_at (l := ws) (i := k) (by omega)
    have hld : (Pm.devOf (ints ws)).load k = (x : Int) := devOf_load (ints_get hx)
    have hx9 := hlt x (List.mem_of_getElem? hx)
    obtain ⟨S0, g0⟩ : ∃ S0, S0 = (s7 x).1 := ⟨_, rfl⟩
    obtain ⟨S1, g1⟩ : ∃ S1, S1 = (s7 x).2.1 := ⟨_, rfl⟩
    obtain ⟨S2, g2⟩ : ∃ S2, S2 = (s7 x).2.2 := ⟨_, rfl⟩
    obtain ⟨S3, g3⟩ : ∃ S3 : Int, S3 = if ok7 x then 0 else 2 := ⟨_, rfl⟩
    have hS : ∀ e, SDec x (pa x) (pb x) (pc x) e → e = .returned (.tuple #[.agg #[.int .i64 S0, .int .i64 S1, .int .i64 S2], .int .i64 S3]) := by
      intro e he
      rw [g0, g1, g2, g3]
      exact sdec_is he
    have h1 : ∀ {W' : World}, Below W.heap.size W W' → _ := fun {W'} hb => slot_get (hv.below hb) i (by omega) k hk x hx9 hld (S0, S1, S2, S3) hS
    have h2 : ∀ {W' : World}, Below W.heap.size W W' → _ := fun {W'} hb => r15slot_get (hr.below hb) hT hc hlt n m s (16 + 8 * m) p3 p4 p5 i (by omega) k hk hkT (by omega) (by omega) x hx
    unfold R7 at h2
    rw [← g0, ← g1, ← g2] at h2
    refine ⟨S0, S1, S2, ok7 x, S3, ?_, fun hb => h1 hb, fun hb => h2 hb⟩
    rw [g3]
    cases h9 : ok7 x with
    | true => exact .inl ⟨rfl, if_pos rfl, hi⟩
    | false => exact .inr ⟨rfl, by rw [if_neg hi, if_neg (by simp)]⟩

theorem record_pair {W : World} {v b n m s : Nat} {g : Lay} {ws : List Nat} (hv : VolIs W v b n m s (Pm.devOf (ints ws)) g) {a : Addr} {T c8 : Nat} (hr : Rk .u64 W (some a) (ints ws)) (hT : ws.length = T) (hc : T ≤ c8) (hlt : ∀ x ∈ ws, x < 18446744073709551616) (hT9 : T ≤ 1000000) (h16 : 16 ≤ T) (p2 p3 p4 p5 : Int) :
    ∃ (x y z t u : Int),
      (∀ {W' : World}, Below W.heap.size W W' → Calls Tryz.prog 29 #[.pointer (some ⟨v, 0, none⟩)] W' fun o w' => o = .returned (.tuple #[.agg #[.int .i64 x, .int .i64 y, .int .i64 z, .int .i64 t], .int .i64 u]) ∧ Below W'.heap.size W' w') ∧
      (∀ {W' : World}, Below W.heap.size W W' → Calls Tryz.prog 30 #[.agg #[.int .i64 n, .int .i64 m, .int .i64 s, .int .i64 16, .int .i64 p2, .int .i64 p3, .int .i64 p4, .int .i64 p5, .slice (some a) T c8]] W' fun o w' => o = .returned (.tuple #[.agg #[.int .i64 x, .int .i64 y, .int .i64 z, .int .i64 t], .int .i64 u]) ∧ Below W'.heap.size W' w') := by
  have hl := lds_sub (ws := ws) (k := 8) (n := 8) (by omega)
  have hlt8 : ∀ x ∈ (ws.drop 8).take 8, x < 18446744073709551616 := fun x hx => hlt x (List.mem_of_mem_drop (List.mem_of_mem_take hx))
  exact ⟨_, _, _, _, _, fun hb => record_get (hv.below hb) _ hl hlt8, fun hb => r15record_ (hr.below hb) hT hc hlt n m s p2 p3 p4 p5 (by omega) (by omega)⟩

theorem geom_ {w : World} {v b n m s : Nat} {d : Dev} {g : Lay} (h : VolIs w v b n m s d g) :
    Calls Tryz.prog 14 #[.pointer (some ⟨v, 0, none⟩)] w fun e w' => e = .returned (.agg #[.int .i64 n, .int .i64 m, .int .i64 s]) ∧ Below w.heap.size w w' := by
  have hu := Tryz.underlying34
  have h2 := h.below (bl_alloc (Below.refl _ _) (.cells #[.int .i64 0, .int .i64 0, .int .i64 0] 34))
  obtain ⟨c0, c1, c2, c3⟩ := h2.cells
  clear h h2
  go_enter Tryz.func14, Tryz.ntmps14
  go_wp2_with fail
  exact bodyPost_ret (res_c rfl _ _ w.heap.size 34 #[.int .i64 n, .int .i64 m, .int .i64 s] (0, 0) _ rfl (alloc_new _ _) hu rfl (by kernel_rfl)) rfl ⟨rfl, bl_alloc (Below.refl _ _) _⟩

end Go.Proofs.YtgnagbbdnlmgeaaGreat.Jh
end

/- Rows of triples; a volume's slots, as a function; slot.End. -/
section
set_option linter.unusedVariables false
set_option linter.unusedSimpArgs false
set_option maxHeartbeats 2000000
set_option maxRecDepth 100000
namespace Go.Proofs.YtgnagbbdnlmgeaaGreat.Tr
open Go Go.RowKit
open Go.Proofs.YtgnagbbdnlmgeaaGreat.Ob Go.Proofs.YtgnagbbdnlmgeaaGreat.Ba Go.Proofs.YtgnagbbdnlmgeaaGreat.Oc Go.Proofs.YtgnagbbdnlmgeaaGreat.Pk Go.Proofs.YtgnagbbdnlmgeaaGreat.Ge Go.Proofs.YtgnagbbdnlmgeaaGreat.Ko Go.Proofs.YtgnagbbdnlmgeaaGreat.Dv Go.Proofs.YtgnagbbdnlmgeaaGreat.Vo Go.Proofs.YtgnagbbdnlmgeaaGreat.Ra Go.Proofs.YtgnagbbdnlmgeaaGreat.Su Go.Proofs.YtgnagbbdnlmgeaaGreat.Lo Go.Proofs.YtgnagbbdnlmgeaaGreat.Je

abbrev Tri := Int × Int × Int
def tvs (l : List Tri) : List Value := l.flatMap fun p => [.int .i64 p.1, .int .i64 p.2.1, .int .i64 p.2.2]
theorem tvs_length (l : List Tri) : (tvs l).length = l.length * 3 := by
  induction l with
  | nil => rfl
  | cons a r ih => simp [tvs] at ih ⊢; omega
theorem tvs_append (a b : List Tri) : tvs (a ++ b) = tvs a ++ tvs b := by simp [tvs]
theorem tvs_get {l : List Tri} {i : Nat} {p : Tri} (h : l[i]? = some p) : (tvs l)[i * 3]? = some (.int .i64 p.1) ∧ (tvs l)[i * 3 + 1]? = some (.int .i64 p.2.1) ∧ (tvs l)[i * 3 + 2]? = some (.int .i64 p.2.2) := by
  induction l generalizing i with
  | nil => simp at h
  | cons a r ih =>
    have e : tvs (a :: r) = .int .i64 a.1 :: .int .i64 a.2.1 :: .int .i64 a.2.2 :: tvs r := rfl
    cases i with
    | zero => simp at h; subst h; exact ⟨rfl, rfl, rfl⟩
    | succ j =>
      obtain ⟨h1, h2, h3⟩ := ih (i := j) (by simpa using h)
      rw [e]
      refine ⟨?_, ?_, ?_⟩
      · rw [show (j + 1) * 3 = j * 3 + 1 + 1 + 1 from by omega]; simpa using h1
      · rw [show (j + 1) * 3 + 1 = j * 3 + 1 + 1 + 1 + 1 from by omega]; simpa using h2
      · rw [show (j + 1) * 3 + 2 = j * 3 + 2 + 1 + 1 + 1 from by omega]; simpa using h3
/-- the slice (A, ..) reads as these triples -/
def TR (w : World) (A : Option Addr) (l : List Tri) : Prop := ∀ (i : Nat) p, l[i]? = some p → ∃ q off, A = some ⟨q, off, none⟩ ∧ q < w.heap.size ∧ w.cell? ⟨q, off + i * 3, none⟩ = some (.int .i64 p.1) ∧ w.cell? ⟨q, off + i * 3 + 1, none⟩ = some (.int .i64 p.2.1) ∧ w.cell? ⟨q, off + i * 3 + 2, none⟩ = some (.int .i64 p.2.2)
theorem TR.below {w w' : World} {A : Option Addr} {l : List Tri} (h : TR w A l) (hb : Below w.heap.size w w') : TR w' A l := by
  intro i p hi
  obtain ⟨q, off, rfl, h0, h1, h2, h3⟩ := h i p hi
  exact ⟨q, off, rfl, Nat.lt_of_lt_of_le h0 hb.size, (hb.cell (p := ⟨q, off + i * 3, none⟩) h0).trans h1, (hb.cell (p := ⟨q, off + i * 3 + 1, none⟩) h0).trans h2, (hb.cell (p := ⟨q, off + i * 3 + 2, none⟩) h0).trans h3⟩
theorem own_tr {w : World} {B T n : Nat} {A : Option Addr} {c : Nat} {l : List Tri} (h : w.ownsRow B T 3 (.slice A n c) n (tvs l)) : TR w A l ∧ l.length = n := by
  have hl : l.length = n := by
    have := h.1
    rw [tvs_length] at this
    omega
  refine ⟨?_, hl⟩
  obtain ⟨h1, ⟨h2, h3⟩ | ⟨g, cap, cur, hv, hg, hb, hn, hm, hs, ht⟩⟩ := h
  · intro i p hp
    have := (List.getElem?_eq_some_iff.1 hp).1
    rw [h3] at h1
    simp at h2
    omega
  · simp only [Value.slice.injEq, true_and] at hv
    obtain ⟨rfl, rfl⟩ := hv
    intro i p hp
    obtain ⟨g1, g2, g3⟩ := tvs_get hp
    refine ⟨g, 0, rfl, lt_of hb, ?_, ?_, ?_⟩
    · rw [cell_of hb, Nat.zero_add]
      rw [← ht, List.getElem?_take] at g1
      split at g1
      · simpa using g1
      · cases g1
    · rw [cell_of hb, Nat.zero_add]
      rw [← ht, List.getElem?_take] at g2
      split at g2
      · simpa using g2
      · cases g2
    · rw [cell_of hb, Nat.zero_add]
      rw [← ht, List.getElem?_take] at g3
      split at g3
      · simpa using g3
      · cases g3

/-- a volume's slot, of a number -/
def slF (ws : List Nat) (n m : Nat) (i : Int) : Option Tri :=
  if 0 ≤ i ∧ i < n then (if ok7 (ws.getD (16 + 8 * m + i.toNat) 0) then some (s7 (ws.getD (16 + 8 * m + i.toNat) 0)) else none) else none
def slV (o : Option Tri) : Tri := o.getD (0, 0, 0)

theorem ok7_may {x : Nat} (h : ok7 x = true) : sMay (s7 x).1 (s7 x).2.1 (s7 x).2.2 = true := by
  unfold s7
  rw [if_pos h]
  unfold ok7 at h
  rw [Bool.and_eq_true] at h
  exact h.1
theorem slF_may {ws : List Nat} {n m : Nat} {i : Int} {t : Tri} (h : slF ws n m i = some t) : sMay t.1 t.2.1 t.2.2 = true ∧ 0 ≤ i ∧ i < n := by
  unfold slF at h
  split at h
  · rename_i hi
    split at h
    · rename_i hk
      obtain rfl := Option.some.inj h
      exact ⟨ok7_may hk, hi⟩
    · cases h
  · cases h

theorem slot_callD {W : World} {v b n m s : Nat} {d : Dev} {g : Lay} {ws : List Nat} (hv : VolIs W v b n m s d g) (hwd : Pm.wordsOf d = ints ws) (hlt : ∀ x ∈ ws, x < 18446744073709551616) (hfit : 16 + 8 * m + n ≤ ws.length) (i : Int) :
    Calls Tryz.prog 21 #[.pointer (some ⟨v, 0, none⟩), .int .i64 i] W fun o w' => ∃ e : Int, o = .returned (.tuple #[.agg #[.int .i64 (slV (slF ws n m i)).1, .int .i64 (slV (slF ws n m i)).2.1, .int .i64 (slV (slF ws n m i)).2.2], .int .i64 e]) ∧ (e != 0) = (slF ws n m i).isNone ∧ Below W.heap.size W w' := by
  by_cases hi : i < 0 ∨ (n : Int) ≤ i
  · have hs : slF ws n m i = none := by unfold slF; rw [if_neg (by omega)]
    rw [hs]
    exact (slot_out hv i hi).mono fun e w' ⟨h1, h2⟩ => ⟨9, h1, rfl, h2⟩
  · obtain ⟨k, hk⟩ : ∃ k : Nat, (k : Int) = 16 + 8 * m + i := ⟨(16 + 8 * m + i).toNat, by omega⟩
    have hkT : k < ws.length := by omega
    obtain ⟨x, hx⟩ := some_at (l := ws) (i := k) (by omega)
    have hld : d.load k = (x : Int) := by
      have e1 : d.las.length = ws.length := by rw [← Pm.wordsOf_length, hwd, ints_length]
      have e2 := Pm.wordsOf_get d k (by omega)
      rw [hwd, ints_get hx] at e2
      exact (Option.some.inj e2).symm
    have hx9 := hlt x (List.mem_of_getElem? hx)
    have hxe : ws.getD (16 + 8 * m + i.toNat) 0 = x := by
      rw [List.getD_eq_getElem?_getD, show 16 + 8 * m + i.toNat = k from by omega, hx]
      rfl
    have hs : slF ws n m i = if ok7 x then some (s7 x) else none := by
      unfold slF
      rw [if_pos (by omega), hxe]
    have hs7 : slV (slF ws n m i) = s7 x := by
      rw [hs]
      by_cases h9 : ok7 x = true
      · rw [if_pos h9]
        exact Option.getD_some
      · rw [if_neg h9]
        unfold s7
        rw [if_neg h9]
        exact Option.getD_none
    obtain ⟨S0, g0⟩ : ∃ S0, S0 = (s7 x).1 := ⟨_, rfl⟩
    obtain ⟨S1, g1⟩ : ∃ S1, S1 = (s7 x).2.1 := ⟨_, rfl⟩
    obtain ⟨S2, g2⟩ : ∃ S2, S2 = (s7 x).2.2 := ⟨_, rfl⟩
    obtain ⟨S3, g3⟩ : ∃ S3 : Int, S3 = if ok7 x then 0 else 2 := ⟨_, rfl⟩
    have hS : ∀ e, SDec x (pa x) (pb x) (pc x) e → e = .returned (.tuple #[.agg #[.int .i64 S0, .int .i64 S1, .int .i64 S2], .int .i64 S3]) := by
      intro e he
      rw [g0, g1, g2, g3]
      exact sdec_is he
    rw [hs7, ← g0, ← g1, ← g2]
    refine (slot_get hv i (by omega) k hk x hx9 hld (S0, S1, S2, S3) hS).mono ?_
    rintro e w' ⟨h1, h2⟩
    refine ⟨S3, h1, ?_, h2⟩
    rw [g3, hs]
    by_cases h9 : ok7 x = true
    · rw [if_pos h9, if_pos h9]
      rfl
    · rw [if_neg h9, if_neg h9]
      rfl

theorem slot_call {W : World} {v b n m s : Nat} {g : Lay} {ws : List Nat} (hv : VolIs W v b n m s (Pm.devOf (ints ws)) g) (hlt : ∀ x ∈ ws, x < 18446744073709551616) (hfit : 16 + 8 * m + n ≤ ws.length) (i : Int) :
    Calls Tryz.prog 21 #[.pointer (some ⟨v, 0, none⟩), .int .i64 i] W fun o w' => ∃ e : Int, o = .returned (.tuple #[.agg #[.int .i64 (slV (slF ws n m i)).1, .int .i64 (slV (slF ws n m i)).2.1, .int .i64 (slV (slF ws n m i)).2.2], .int .i64 e]) ∧ (e != 0) = (slF ws n m i).isNone ∧ Below W.heap.size W w' :=
  slot_callD hv (Vs.words_devOf _) hlt hfit i

theorem end_ (a b c : Int) (h : sMay a b c = true) (w : World) :
    Calls Tryz.prog 101 #[.agg #[.int .i64 a, .int .i64 b, .int .i64 c]] w fun e w' => e = .returned (.int .i64 (a + b)) ∧ Below w.heap.size w w' := by
  have hu := Tryz.underlying51
  have hm := of_decide_eq_true h
  obtain ⟨h1, h2, h3, h4, -, -⟩ := hm
  have HM : Hid (∀ w, Calls Tryz.prog 147 #[.agg #[.int .i64 a, .int .i64 b, .int .i64 c]] w fun e w' => e = .returned (.bool true) ∧ Below w.heap.size w w') := fun w => by
    have := Lo.may_ a b c w
    rw [h] at this
    exact this
  have hq := alloc_new w (.cells #[.int .i64 a, .int .i64 b, .int .i64 c] 51)
  have HQ := Lib.hid hq
  clear h hq
  go_enter Tryz.func101, Tryz.ntmps101
  go_wp2_with fail
  refine (HM.out _).mono ?_
  rintro e w1 ⟨rfl, hb1⟩
  have hq1 := blk_bl HQ.out hb1
  have l0 := cell_of hq1 0
  have l1 := cell_of hq1 1
  have HB1 := Lib.hid (bl_then (bl_alloc (Below.refl _ _) _) hb1)
  clear hq1 hb1
  go_wp2_with fail
  go_ret
  exact ⟨rfl, HB1.out⟩

end Go.Proofs.YtgnagbbdnlmgeaaGreat.Tr
end

/- Chains as lists: plain facts. -/
section
set_option linter.unusedVariables false
set_option linter.unusedSimpArgs false
set_option maxRecDepth 100000
namespace Go.Proofs.YtgnagbbdnlmgeaaGreat.Tr

/-- a chain from a slot on: slots, and their numbers -/
def chainF (n : Nat) (sl : Int → Option Tri) : Nat → Int → Option (List (Int × Tri))
  | 0, s => if s = -1 then some [] else none
  | k + 1, s => if s = -1 then some [] else match sl s with
    | none => none
    | some t => if (n : Int) < t.1 + t.2.1 then none else (chainF n sl k t.2.2).map ((s, t) :: ·)
theorem chainF_stop (n : Nat) (sl : Int → Option Tri) (k : Nat) : chainF n sl k (-1) = some [] := by cases k <;> rfl
theorem chainF_bad {n : Nat} {sl : Int → Option Tri} {k : Nat} {s : Int} (h1 : s ≠ -1) (h2 : sl s = none ∨ (∃ t, sl s = some t ∧ (n : Int) < t.1 + t.2.1) ∨ k = 0) : chainF n sl k s = none := by
  cases k with
  | zero => show (if _ then _ else _) = _; rw [if_neg h1]
  | succ k =>
    unfold chainF
    rw [if_neg h1]
    rcases h2 with h | ⟨t, h, h3⟩ | h
    · rw [h]
    · rw [h]; simp only; rw [if_pos h3]
    · cases h
theorem chainF_step {n : Nat} {sl : Int → Option Tri} {k : Nat} {s : Int} {t : Tri} (h1 : s ≠ -1) (h2 : sl s = some t) (h3 : ¬ (n : Int) < t.1 + t.2.1) : chainF n sl (k + 1) s = (chainF n sl k t.2.2).map ((s, t) :: ·) := by
  show (if _ then _ else _) = _
  rw [if_neg h1, h2]
  simp only
  rw [if_neg h3]

theorem chainF_mono {n : Nat} {sl : Int → Option Tri} : ∀ (k : Nat) (s : Int) (L : List (Int × Tri)), chainF n sl k s = some L → chainF n sl (k + 1) s = some L
  | 0, s, L, h => by
    by_cases hs : s = -1
    · subst hs; rw [chainF_stop] at h ⊢; exact h
    · rw [chainF_bad hs (.inr (.inr rfl))] at h; cases h
  | k + 1, s, L, h => by
    by_cases hs : s = -1
    · subst hs; rw [chainF_stop] at h ⊢; exact h
    · cases ht : sl s with
      | none => rw [chainF_bad hs (.inl ht)] at h; cases h
      | some t =>
        by_cases hn : (n : Int) < t.1 + t.2.1
        · rw [chainF_bad hs (.inr (.inl ⟨t, ht, hn⟩))] at h; cases h
        · rw [chainF_step hs ht hn] at h ⊢
          cases hc : chainF n sl k t.2.2 with
          | none => rw [hc] at h; cases h
          | some L' =>
            rw [hc] at h
            rw [chainF_mono k _ L' hc]
            exact h
theorem chainF_more {n : Nat} {sl : Int → Option Tri} {k : Nat} {s : Int} {L : List (Int × Tri)} (h : chainF n sl k s = some L) : ∀ j, chainF n sl (k + j) s = some L
  | 0 => h
  | j + 1 => chainF_mono _ _ _ (chainF_more h j)

/-- a way from a slot to another one -/
def Path (n : Nat) (sl : Int → Option Tri) : Int → List (Int × Tri) → Int → Prop
  | s, [], e => s = e
  | s, x :: r, e => x.1 = s ∧ s ≠ -1 ∧ sl s = some x.2 ∧ ¬ (n : Int) < x.2.1 + x.2.2.1 ∧ Path n sl x.2.2.2 r e
theorem Path.snoc {n : Nat} {sl : Int → Option Tri} : ∀ {s : Int} {l : List (Int × Tri)} {e : Int} {t : Tri}, Path n sl s l e → e ≠ -1 → sl e = some t → ¬ (n : Int) < t.1 + t.2.1 → Path n sl s (l ++ [(e, t)]) t.2.2
  | s, [], e, t, h, h1, h2, h3 => by
    have h : s = e := h
    subst h
    exact ⟨rfl, h1, h2, h3, rfl⟩
  | s, x :: r, e, t, h, h1, h2, h3 => by
    obtain ⟨a, b, c, d, p⟩ := h
    exact ⟨a, b, c, d, Path.snoc p h1 h2 h3⟩
theorem Path.run {n : Nat} {sl : Int → Option Tri} : ∀ {s : Int} {l : List (Int × Tri)} {e : Int}, Path n sl s l e → ∀ k, chainF n sl (k + l.length) s = (chainF n sl k e).map (l ++ ·)
  | s, [], e, h, k => by
    have h : s = e := h
    subst h
    show chainF n sl k s = _
    cases chainF n sl k s <;> rfl
  | s, x :: r, e, h, k => by
    obtain ⟨a, b, c, d, p⟩ := h
    rw [List.length_cons, ← Nat.add_assoc, chainF_step b c d, Path.run p k]
    cases chainF n sl k e with
    | none => rfl
    | some L =>
      simp only [Option.map_some, List.cons_append]
      rw [← a]
theorem Path.mid {n : Nat} {sl : Int → Option Tri} : ∀ {s : Int} {l : List (Int × Tri)} {e : Int} {x : Int × Tri}, Path n sl s l e → x ∈ l → ∃ r, r ≠ [] ∧ Path n sl x.1 r e
  | s, y :: r, e, x, h, hx => by
    have h0 := h
    obtain ⟨a, b, c, d, p⟩ := h
    rcases List.mem_cons.1 hx with rfl | hx
    · exact ⟨x :: r, by simp, by rw [a]; exact h0⟩
    · exact Path.mid p hx
/-- a way that comes back to its beginning never ends -/
theorem Path.loop {n : Nat} {sl : Int → Option Tri} {s : Int} {l : List (Int × Tri)} (h : Path n sl s l s) (hl : l ≠ []) (k : Nat) : chainF n sl k s = none := by
  cases hc : chainF n sl k s with
  | none => rfl
  | some L =>
    have h1 := Path.run h k
    rw [hc, chainF_more hc l.length] at h1
    have h2 := congrArg List.length (Option.some.inj h1)
    simp only [List.length_append] at h2
    have := List.length_pos_iff.2 hl
    omega

theorem pigeon : ∀ (n : Nat) (l : List Int), l.Nodup → (∀ x ∈ l, 0 ≤ x ∧ x < n) → l.length ≤ n
  | 0, l, _, h => by
    cases l with
    | nil => simp
    | cons a r => have := h a (by simp); omega
  | n + 1, l, hd, h => by
    by_cases hm : (n : Int) ∈ l
    · have h9 := pigeon n (l.erase (n : Int)) (hd.erase _) (fun x hx => by
        have h1 := List.mem_of_mem_erase hx
        have h2 := h x h1
        have hne : x ≠ (n : Int) := ((List.Nodup.mem_erase_iff hd).1 hx).1
        omega)
      rw [List.length_erase_of_mem hm] at h9
      omega
    · have h9 := pigeon n l hd (fun x hx => by
        have h2 := h x hx
        have hne : x ≠ (n : Int) := fun e => hm (e ▸ hx)
        omega)
      omega

end Go.Proofs.YtgnagbbdnlmgeaaGreat.Tr
end

/- Chains: plain laws (the rest of a chain, a chain that is written, one that comes back). -/
section
set_option linter.unusedVariables false
set_option linter.unusedSimpArgs false
namespace Go.Proofs.YtgnagbbdnlmgeaaGreat.Tr
open Go Go.RowKit
open Go.Proofs.YtgnagbbdnlmgeaaGreat.Ob Go.Proofs.YtgnagbbdnlmgeaaGreat.Ba Go.Proofs.YtgnagbbdnlmgeaaGreat.Oc Go.Proofs.YtgnagbbdnlmgeaaGreat.Pk Go.Proofs.YtgnagbbdnlmgeaaGreat.Ge Go.Proofs.YtgnagbbdnlmgeaaGreat.Ko Go.Proofs.YtgnagbbdnlmgeaaGreat.Dv Go.Proofs.YtgnagbbdnlmgeaaGreat.Vo Go.Proofs.YtgnagbbdnlmgeaaGreat.Ra Go.Proofs.YtgnagbbdnlmgeaaGreat.Su Go.Proofs.YtgnagbbdnlmgeaaGreat.Lo Go.Proofs.YtgnagbbdnlmgeaaGreat.Je

theorem chainF_cases {n : Nat} {sl : Int → Option Tri} {k : Nat} {s : Int} {L : List (Int × Tri)} (h : chainF n sl k s = some L) :
    (s = -1 ∧ L = []) ∨ ∃ j t r, k = j + 1 ∧ s ≠ -1 ∧ sl s = some t ∧ ¬ (n : Int) < t.1 + t.2.1 ∧ chainF n sl j t.2.2 = some r ∧ L = (s, t) :: r := by
  by_cases hs : s = -1
  · subst hs
    rw [chainF_stop] at h
    exact .inl ⟨rfl, (Option.some.inj h).symm⟩
  · cases k with
    | zero => rw [chainF_bad hs (.inr (.inr rfl))] at h; cases h
    | succ j =>
      cases ht : sl s with
      | none => rw [chainF_bad hs (.inl ht)] at h; cases h
      | some t =>
        by_cases hb : (n : Int) < t.1 + t.2.1
        · rw [chainF_bad hs (.inr (.inl ⟨t, ht, hb⟩))] at h; cases h
        · rw [chainF_step hs ht hb] at h
          cases hc : chainF n sl j t.2.2 with
          | none => rw [hc] at h; cases h
          | some r =>
            rw [hc] at h
            exact .inr ⟨j, t, r, rfl, hs, rfl, hb, hc, (Option.some.inj h).symm⟩

theorem chainF_at {n : Nat} {sl : Int → Option Tri} : ∀ (k : Nat) (s : Int) (L : List (Int × Tri)), chainF n sl k s = some L → ∀ (i : Nat) x, L[i]? = some x →
    chainF n sl k x.1 = some (L.drop i) ∧ sl x.1 = some x.2 ∧ ¬ (n : Int) < x.2.1 + x.2.2.1 ∧ (L.length = i + 1 → x.2.2.2 = -1)
  | k, s, L, h, i, x, hx => by
    rcases chainF_cases h with ⟨-, rfl⟩ | ⟨j, t, r, rfl, hs, ht, hb, hc, rfl⟩
    · simp at hx
    · cases i with
      | zero =>
        simp at hx
        subst hx
        refine ⟨h, ht, hb, fun hl => ?_⟩
        have : r = [] := by simpa using hl
        subst this
        rcases chainF_cases hc with ⟨e, -⟩ | ⟨_, _, _, -, -, -, -, -, e⟩
        · exact e
        · cases e
      | succ i =>
        rw [List.getElem?_cons_succ] at hx
        obtain ⟨h1, h2, h3, h4⟩ := chainF_at j t.2.2 r hc i x hx
        exact ⟨chainF_mono _ _ _ h1, h2, h3, fun hl => h4 (by simp at hl; omega)⟩
theorem chainF_len {n : Nat} {sl : Int → Option Tri} : ∀ (k : Nat) (s : Int) (L : List (Int × Tri)), chainF n sl k s = some L → L.length ≤ k
  | k, s, L, h => by
    rcases chainF_cases h with ⟨-, rfl⟩ | ⟨j, t, r, rfl, hs, ht, hb, hc, rfl⟩
    · simp
    · have := chainF_len j t.2.2 r hc
      simp; omega
theorem chainF_ne {n : Nat} {sl : Int → Option Tri} {k : Nat} {s : Int} {L : List (Int × Tri)} (h : chainF n sl k s = some L) (hs : s ≠ -1) : ∃ t r, L = (s, t) :: r := by
  rcases chainF_cases h with ⟨e, -⟩ | ⟨j, t, r, -, -, -, -, -, e⟩
  · exact absurd e hs
  · exact ⟨t, r, e⟩

/-! ### a chain that is written -/
def nxS : List (Int × (Int × Int)) → Int
  | [] => -1
  | x :: _ => x.1
def wrW (m : Nat) (ws : List Nat) : List (Int × (Int × Int)) → List Nat
  | [] => ws
  | x :: r => (wrW m ws r).set (16 + 8 * m + x.1.toNat) (sEnc x.2.1 x.2.2 (nxS r))
def triS : List (Int × (Int × Int)) → List (Int × Tri)
  | [] => []
  | x :: r => (x.1, x.2.1, x.2.2, nxS r) :: triS r
theorem triS_fst : ∀ z, (triS z).map Prod.fst = z.map Prod.fst
  | [] => rfl
  | x :: r => by show x.1 :: _ = x.1 :: _; rw [triS_fst r]
theorem triS_len : ∀ z, (triS z).length = z.length
  | [] => rfl
  | x :: r => by show _ + 1 = _ + 1; rw [triS_len r]
theorem triS_runs : ∀ z, (triS z).map (fun t => (t.2.1, t.2.2.1)) = z.map Prod.snd
  | [] => rfl
  | x :: r => by show (x.2.1, x.2.2) :: _ = x.2 :: _; rw [triS_runs r]
theorem wrW_len (m : Nat) (ws : List Nat) : ∀ z, (wrW m ws z).length = ws.length
  | [] => rfl
  | x :: r => by show ((wrW m ws r).set _ _).length = _; rw [List.length_set, wrW_len m ws r]

/-- parts that may be -/
def GoodS (n : Nat) (z : List (Int × (Int × Int))) : Prop := ∀ x ∈ z, 0 ≤ x.1 ∧ x.1 < n ∧ 0 ≤ x.2.1 ∧ x.2.1 < n ∧ 1 ≤ x.2.2 ∧ x.2.2 ≤ n - x.2.1
theorem GoodS.tail {n : Nat} {x : Int × (Int × Int)} {r : List (Int × (Int × Int))} (h : GoodS n (x :: r)) : GoodS n r := fun y hy => h y (List.mem_cons_of_mem _ hy)
theorem nxS_in {n : Nat} {z : List (Int × (Int × Int))} (h : GoodS n z) : -1 ≤ nxS z ∧ nxS z < (n : Int) ∨ nxS z = -1 := by
  cases z with
  | nil => exact .inr rfl
  | cons x r => have := h x (by simp); exact .inl ⟨by show -1 ≤ x.1; omega, this.2.1⟩
theorem GoodS.may {n : Nat} (hn : n ≤ 65534) {x : Int × (Int × Int)} {r : List (Int × (Int × Int))} (h : GoodS n (x :: r)) : sMay x.2.1 x.2.2 (nxS r) = true := by
  have h1 := h x (by simp)
  have h2 := nxS_in h.tail
  exact decide_eq_true (by omega)
theorem wrW_lt {n m : Nat} (hn : n ≤ 65534) {ws : List Nat} (hlt : ∀ x ∈ ws, x < 18446744073709551616) : ∀ {z : List (Int × (Int × Int))}, GoodS n z → ∀ x ∈ wrW m ws z, x < 18446744073709551616
  | [], _ => hlt
  | x :: r, h => fun y hy => by
    rcases List.mem_or_eq_of_mem_set hy with h1 | h1
    · exact wrW_lt hn hlt h.tail y h1
    · rw [h1]; exact sEnc_lt _ _ _ (h.may hn)

theorem slF_hit {ws : List Nat} {n m : Nat} {s a b c : Int} (hs : 0 ≤ s ∧ s < n) (hfit : 16 + 8 * m + n ≤ ws.length) (hm : sMay a b c = true) : slF (ws.set (16 + 8 * m + s.toNat) (sEnc a b c)) n m s = some (a, b, c) := by
  have hk : 16 + 8 * m + s.toNat < ws.length := by omega
  have e : (ws.set (16 + 8 * m + s.toNat) (sEnc a b c)).getD (16 + 8 * m + s.toNat) 0 = sEnc a b c := by
    rw [List.getD_eq_getElem?_getD, List.getElem?_set_self hk]
    rfl
  obtain ⟨h1, h2, h3, h4, h5, h6⟩ := of_decide_eq_true hm
  obtain ⟨q1, q2, q3⟩ := sEnc_parts a b c hm
  have e1 : ((a.toNat : Nat) : Int) = a := by omega
  have e2 : ((b.toNat : Nat) : Int) = b := by omega
  have e3 := nxt_nx c h5 h6
  have ho : ok7 (sEnc a b c) = true := by
    unfold ok7
    rw [q1, q2, q3, e1, e2, e3, hm, decide_eq_true rfl]
    rfl
  unfold slF
  rw [if_pos hs, e, if_pos ho]
  unfold s7
  rw [if_pos ho, q1, q2, q3, e1, e2, e3]
theorem slF_miss {ws : List Nat} {n m y : Nat} {s s' : Int} (hs : 0 ≤ s) (hne : s' ≠ s) : slF (ws.set (16 + 8 * m + s.toNat) y) n m s' = slF ws n m s' := by
  unfold slF
  by_cases h : 0 ≤ s' ∧ s' < n
  · have e : (ws.set (16 + 8 * m + s.toNat) y).getD (16 + 8 * m + s'.toNat) 0 = ws.getD (16 + 8 * m + s'.toNat) 0 := by
      rw [List.getD_eq_getElem?_getD, List.getD_eq_getElem?_getD, List.getElem?_set_ne (by omega)]
    rw [if_pos h, if_pos h, e]
  · rw [if_neg h, if_neg h]

theorem wrW_slF {n m : Nat} (hn : n ≤ 65534) {ws : List Nat} (hfit : 16 + 8 * m + n ≤ ws.length) : ∀ {z : List (Int × (Int × Int))}, GoodS n z → (z.map Prod.fst).Nodup → ∀ x ∈ triS z, slF (wrW m ws z) n m x.1 = some x.2
  | [], _, _ => fun x hx => by cases hx
  | y :: r, h, hd => fun x hx => by
    have hy := h y (by simp)
    rw [List.map_cons, List.nodup_cons] at hd
    rcases List.mem_cons.1 hx with rfl | hx
    · exact slF_hit ⟨hy.1, hy.2.1⟩ (by rw [wrW_len]; exact hfit) (h.may hn)
    · have hne : x.1 ≠ y.1 := fun e => hd.1 (by rw [← triS_fst, ← e]; exact List.mem_map_of_mem hx)
      show slF ((wrW m ws r).set _ _) n m x.1 = _
      rw [slF_miss hy.1 hne]
      exact wrW_slF hn hfit h.tail hd.2 x hx
theorem chainF_tri {n : Nat} {sl : Int → Option Tri} : ∀ {z : List (Int × (Int × Int))}, GoodS n z → (∀ x ∈ triS z, sl x.1 = some x.2) → ∀ k, z.length ≤ k → chainF n sl k (nxS z) = some (triS z)
  | [], _, _, k, _ => chainF_stop _ _ _
  | y :: r, h, hs, k, hk => by
    obtain ⟨j, rfl⟩ : ∃ j, k = j + 1 := ⟨k - 1, by simp at hk; omega⟩
    have hy := h y (by simp)
    have h1 := hs (y.1, y.2.1, y.2.2, nxS r) (by simp [triS])
    have h2 := chainF_tri h.tail (fun x hx => hs x (by simp [triS, hx])) j (by simp at hk; omega)
    show chainF n sl (j + 1) y.1 = _
    rw [chainF_step (by omega) h1 (by show ¬ _ < y.2.1 + y.2.2; omega)]
    show (chainF n sl j (nxS r)).map _ = _
    rw [h2]
    rfl
theorem wrW_chain {n m : Nat} (hn : n ≤ 65534) {ws : List Nat} (hfit : 16 + 8 * m + n ≤ ws.length) {z : List (Int × (Int × Int))} (h : GoodS n z) (hd : (z.map Prod.fst).Nodup) : chainF n (slF (wrW m ws z) n m) n (nxS z) = some (triS z) := by
  refine chainF_tri h (wrW_slF hn hfit h hd) n ?_
  have := pigeon n (z.map Prod.fst) hd (fun x hx => by
    obtain ⟨y, hy, rfl⟩ := List.mem_map.1 hx
    have := h y hy
    exact ⟨this.1, this.2.1⟩)
  simpa using this
theorem wrW_get (m : Nat) (ws : List Nat) (i : Nat) : ∀ (z : List (Int × (Int × Int))), (∀ x ∈ z, 0 ≤ x.1) → (∀ x ∈ z, ((16 + 8 * m : Nat) : Int) + x.1 ≠ i) → (wrW m ws z)[i]? = ws[i]?
  | [], _, _ => rfl
  | y :: r, h0, h => by
    show ((wrW m ws r).set _ _)[i]? = _
    have h1 := h y (by simp)
    have h2 := h0 y (by simp)
    rw [List.getElem?_set_ne (by omega)]
    exact wrW_get m ws i r (fun x hx => h0 x (by simp [hx])) (fun x hx => h x (by simp [hx]))

/-! ### a chain that comes back -/
theorem chainF_loop {n : Nat} {sl : Int → Option Tri} {s e : Int} {l r : List (Int × Tri)} (h1 : Path n sl s l e) (h2 : Path n sl e r e) (hr : r ≠ []) (k : Nat) : chainF n sl k s = none := by
  cases hc : chainF n sl k s with
  | none => rfl
  | some L =>
    have h3 := chainF_more hc l.length
    rw [h1.run k, h2.loop hr k] at h3
    cases h3

end Go.Proofs.YtgnagbbdnlmgeaaGreat.Tr
end

/- run.Total; a chain's runs and how many blocks it has (chain.Runs, chain.Count). -/
section
set_option linter.unusedVariables false
set_option linter.unusedSimpArgs false
set_option maxHeartbeats 2000000
set_option maxRecDepth 100000
namespace Go.Proofs.YtgnagbbdnlmgeaaGreat.Tr
open Go Go.RowKit
open Go.Proofs.YtgnagbbdnlmgeaaGreat.Ob Go.Proofs.YtgnagbbdnlmgeaaGreat.Ba Go.Proofs.YtgnagbbdnlmgeaaGreat.Oc Go.Proofs.YtgnagbbdnlmgeaaGreat.Pk Go.Proofs.YtgnagbbdnlmgeaaGreat.Rr

def sumR : List (Int × Int) → Int
  | [] => 0
  | p :: r => max 0 p.2 + sumR r
theorem sumR_append (a b : List (Int × Int)) : sumR (a ++ b) = sumR a + sumR b := by
  induction a with
  | nil => simp [sumR]
  | cons x r ih => simp only [List.cons_append, sumR, ih]; omega
theorem sumR_in (l : List (Int × Int)) (h : ∀ p ∈ l, p.2 ≤ 65534) : 0 ≤ sumR l ∧ sumR l ≤ 65534 * l.length := by
  induction l with
  | nil => simp [sumR]
  | cons x r ih =>
    have h1 := h x (by simp)
    have h2 := ih (fun p hp => h p (by simp [hp]))
    simp only [sumR, List.length_cons]
    omega

theorem total_ {w : World} {A : Option Addr} {l : List (Int × Int)} (h : RR w A l) (c : Nat) (hl : l.length ≤ 65534) (hc : ∀ p ∈ l, p.2 ≤ 65534) :
    Calls Tryz.prog 105 #[.slice A l.length c] w fun e w' => e = .returned (.int .i64 (sumR l)) ∧ Below w.heap.size w w' := by
  have hu := Tryz.underlying93
  have H := Lib.hid h
  have HC := Lib.hid hc
  obtain ⟨n, hn⟩ : ∃ n, n = l.length := ⟨_, rfl⟩
  rw [← hn] at hl
  rw [← hn]
  have HN := Lib.hid hn
  clear h hc hn
  go_enter Tryz.func105, Tryz.ntmps105
  go_wp2_with fail
  go_loopw [8, 3] (fun c8 c3 wr => ∃ (i : Nat) (q : Int), i ≤ n ∧ c8 = .int .i64 i ∧ c3 = .int .i64 q ∧ 0 ≤ q ∧ q ≤ 65534 * i ∧ Hid (q = sumR (l.take i) ∧ Below w.heap.size w wr)) (fun c8 _ _ => n - (intOf c8).toNat)
  case atStart => exact ⟨0, 0, Nat.zero_le _, rfl, rfl, Int.le_refl _, by omega, rfl, Below.refl _ _⟩
  case round =>
    obtain ⟨i, q, hi, rfl, rfl, hq0, hq1, HR⟩ := hrel
    by_cases hlt : i < n
    · obtain ⟨p, hp⟩ := some_at (l := l) (i := i) (by rw [← HN.out]; exact hlt)
      obtain ⟨g, off, rfl, -, g1, g2⟩ := (H.out.below HR.out.2) i p hp
      have hpc := HC.out p (List.mem_of_getElem? hp)
      have HS : Hid (sumR (l.take (i + 1)) = q + max 0 p.2) := by
        show _ = _
        rw [take_next hp, sumR_append, ← HR.out.1]
        simp [sumR]
      obtain ⟨x, y⟩ := p
      simp only at hpc HS
      clear hp
      have hmx : (0 < y ∧ max 0 y = y) ∨ (y ≤ 0 ∧ max 0 y = 0) := by omega
      rcases hmx with ⟨hy, e⟩ | ⟨hy, e⟩
      all_goals
        rw [e] at HS
        clear e
        go_wp2_with fail
        go_roundw
        case rel => exact ⟨i + 1, _, by omega, by go_num, rfl, by omega, by omega, by first | exact HS.out.symm | (rw [HS.out]; simp), bl_alloc HR.out.2 _⟩
        case measure => simp [intOf]; omega
    · obtain rfl : i = n := by omega
      go_wp2_with fail
      go_ret
      refine ⟨?_, HR.out.2⟩
      have := HR.out.1
      rw [List.take_of_length_le (by rw [← HN.out]; exact Nat.le_refl _)] at this
      rw [← this]
      rfl

def runsOf (l : List Tri) : List (Int × Int) := l.map fun t => (t.1, t.2.1)
theorem runsOf_snoc (l : List Tri) (t : Tri) : runsOf (l ++ [t]) = runsOf l ++ [(t.1, t.2.1)] := by simp [runsOf]

theorem runs_ {w : World} {A B : Option Addr} {l : List Tri} (h : TR w B l) (ln ca c : Nat) (hl : l.length ≤ 65534) :
    Calls Tryz.prog 40 #[.agg #[.slice A ln ca, .slice B l.length c]] w fun e w' => ∃ v, e = .returned v ∧ w'.ownsRow w.heap.size 93 2 v l.length (rvs (runsOf l)) ∧ Below w.heap.size w w' := by
  have hu := Tryz.underlying82
  have hu2 := Tryz.underlying51
  have hu3 := Tryz.underlying93
  obtain ⟨z0, hinf, hz0, hz1, hz2⟩ := info_parts (show (Tryz.prog.info? 93).map (fun i => (i.zero, i.size, i.bytes)) = some (some (.agg #[.int .i64 0, .int .i64 0]), 2, 16) by kernel_rfl)
  have H := Lib.hid h
  obtain ⟨n, hn⟩ : ∃ n, n = l.length := ⟨_, rfl⟩
  rw [← hn] at hl
  rw [← hn]
  have HN := Lib.hid hn
  clear h hn
  go_enter Tryz.func40, Tryz.ntmps40
  go_wp2_with fail
  go_loopw [9, 3] (fun c9 c3 wr => ∃ i : Nat, i ≤ n ∧ c9 = .int .i64 i ∧ Hid (wr.ownsRow w.heap.size 93 2 c3 i (rvs (runsOf (l.take i))) ∧ Below w.heap.size w wr)) (fun c9 _ _ => n - (intOf c9).toNat)
  case atStart => exact ⟨0, Nat.zero_le _, rfl, own_nil0 _ _ _ _, bl_alloc (Below.refl _ _) _⟩
  case round =>
    obtain ⟨i, hi, rfl, HR⟩ := hrel
    by_cases hlt : i < n
    · obtain ⟨p, hp⟩ := some_at (l := l) (i := i) (by rw [← HN.out]; exact hlt)
      obtain ⟨g, off, rfl, -, g1, g2, g3⟩ := (H.out.below HR.out.2) i p hp
      have HS : Hid (runsOf (l.take (i + 1)) = runsOf (l.take i) ++ [(p.1, p.2.1)]) := by show _ = _; rw [take_next hp, runsOf_snoc]
      obtain ⟨x, y, z⟩ := p
      have HOW : Hid (∀ o o', ((wr.alloc o).alloc o').ownsRow w.heap.size 93 2 u3 i (rvs (runsOf (l.take i)))) := fun o o' => own_kp (own_kp (W' := wr.alloc o) HR.out.1 (fun k _ hk => Below.heap_alloc _ _ k hk)) (fun k _ hk => Below.heap_alloc _ _ k hk)
      have HLO := Lib.hid (own_lo HR.out.1)
      have HPN : Hid (∀ o, ∀ j u, [Value.int .i64 x, .int .i64 y][j]? = some u → ((wr.alloc o).alloc (.cells #[.int .i64 x, .int .i64 y] 93)).cell? ((⟨wr.heap.size + 1, 0, none⟩ : Addr).add j) = some u) := fun o => by
        have h9 := pair_news (wr.alloc o) (.int .i64 x) (.int .i64 y) 93
        rw [World.size_alloc] at h9
        exact h9
      have hsz : Hid (w.heap.size ≤ wr.heap.size + 2) := by show _ ≤ _; have := HR.out.2.size; omega
      clear hp
      simp only at g1 g2 g3 HS
      go_wp2_with (at_builtin; refine wpList_append_own _ rfl (.tmp 13) (.tmp 19) 87 rfl w.heap.size 93 z0 (.agg #[.int .i64 0, .int .i64 0]) 2 16 Tryz.underlying87 hinf hz0 hz1 hz2 rfl (by decide) _ i _ rfl (HOW.out _ _) ⟨wr.heap.size + 1, 0, none⟩ 1 1 [.int .i64 x, .int .i64 y] rfl rfl (HPN.out _) (by intro u hu; simp at hu; rcases hu with rfl | rfl <;> rfl) (by unfold maxLen; omega) (by omega) (by have h1 := hsz.out; simp; omega) ?_; intro v' w7 hown' hgrow _; (have HO := Lib.hid hown'); (have HG := Lib.hid hgrow); clear hown' hgrow)
      go_roundw
      case rel =>
        refine ⟨i + 1, by omega, by go_num, ?_, bl_grown (bl_alloc (bl_alloc HR.out.2 _) _) HG.out HLO.out⟩
        rw [HS.out, rvs_append]
        exact HO.out
      case measure => simp [intOf]; omega
    · obtain rfl : i = n := by omega
      go_wp2_with fail
      go_ret
      have := HR.out.1
      rw [List.take_of_length_le (by rw [← HN.out]; exact Nat.le_refl _)] at this
      exact ⟨_, rfl, this, HR.out.2⟩

theorem count_ {w : World} {A B : Option Addr} {l : List Tri} (h : TR w B l) (ln ca c : Nat) (hl : l.length ≤ 65534) (hc : ∀ t ∈ l, t.2.1 ≤ 65534) :
    Calls Tryz.prog 42 #[.agg #[.slice A ln ca, .slice B l.length c]] w fun e w' => e = .returned (.int .i64 (sumR (runsOf l))) ∧ Below w.heap.size w w' := by
  have hu := Tryz.underlying82
  have HR : Hid (∀ {W : World}, Below w.heap.size w W → _) := fun {W} hb => runs_ (A := A) (h.below hb) ln ca c hl
  have HT : Hid (∀ {W : World} {D : Option Addr} (cd : Nat), RR W D (runsOf l) → Calls Tryz.prog 105 #[.slice D l.length cd] W fun e w' => e = .returned (.int .i64 (sumR (runsOf l))) ∧ Below W.heap.size W w') := fun {W} {D} cd hd => by
    have h9 := total_ hd cd (by simp [runsOf]; exact hl) (fun p hp => by
      simp only [runsOf, List.mem_map] at hp
      obtain ⟨t, ht, rfl⟩ := hp
      exact hc t ht)
    rw [show (runsOf l).length = l.length from by simp [runsOf]] at h9
    exact h9
  generalize sumR (runsOf l) = S at *
  generalize l.length = n at *
  clear h hc
  go_enter Tryz.func42, Tryz.ntmps42
  go_wp2_with fail
  refine (HR.out (bl_alloc (Below.refl _ _) _)).mono ?_
  rintro e w1 ⟨v, rfl, hown, hb⟩
  obtain ⟨D, cd, rfl⟩ := own_slice hown
  have HD := Lib.hid (own_rr hown).1
  have HB := Lib.hid (bl_then (bl_alloc (Below.refl _ _) _) hb)
  clear hown hb
  go_wp2_with fail
  refine (HT.out _ HD.out).mono ?_
  rintro e w2 ⟨rfl, hb2⟩
  have HB2 := Lib.hid (bl_then HB.out hb2)
  clear hb2
  go_wp2_with fail
  go_ret
  exact ⟨rfl, HB2.out⟩

end Go.Proofs.YtgnagbbdnlmgeaaGreat.Tr
end

/- chain.right's closure; slices.IndexFunc and ContainsFunc over it. -/
section
set_option linter.unusedVariables false
set_option linter.unusedSimpArgs false
set_option maxHeartbeats 2000000
set_option maxRecDepth 100000
namespace Go.Proofs.YtgnagbbdnlmgeaaGreat.Tr
open Go Go.RowKit
open Go.Proofs.YtgnagbbdnlmgeaaGreat.Ob Go.Proofs.YtgnagbbdnlmgeaaGreat.Ba Go.Proofs.YtgnagbbdnlmgeaaGreat.Oc Go.Proofs.YtgnagbbdnlmgeaaGreat.Pk Go.Proofs.YtgnagbbdnlmgeaaGreat.Rr

/-- a run that may not be, of n blocks -/
def badR (n : Nat) (p : Int × Int) : Bool := decide (p.1 < 0 ∨ (n : Int) ≤ p.1 ∨ p.2 < 1 ∨ (n : Int) - p.1 < p.2)

theorem right1_ {w : World} {q n : Nat} (hq : w.cell? ⟨q, 0, none⟩ = some (.int .i64 n)) (hlt : q < w.heap.size) (hn : n ≤ 65534) (x y : Int) :
    Calls Tryz.prog 149 #[.agg #[.int .i64 x, .int .i64 y], .pointer (some ⟨q, 0, none⟩)] w fun e w' => e = .returned (.bool (badR n (x, y))) ∧ Below w.heap.size w w' := by
  have hu := Tryz.underlying93
  by_cases h0 : x < 0
  · have hb : badR n (x, y) = true := decide_eq_true (.inl h0)
    rw [hb]
    clear hb
    go_enter Tryz.func149, Tryz.ntmps149
    go_wp2_with fail
    go_ret
    exact ⟨rfl, bl_alloc (Below.refl _ _) _⟩
  · by_cases h1 : (n : Int) ≤ x
    · have hb : badR n (x, y) = true := decide_eq_true (.inr (.inl h1))
      rw [hb]
      clear hb
      go_enter Tryz.func149, Tryz.ntmps149
      go_wp2_with fail
      go_ret
      exact ⟨rfl, bl_alloc (Below.refl _ _) _⟩
    · by_cases h2 : y < 1
      · have hb : badR n (x, y) = true := decide_eq_true (.inr (.inr (.inl h2)))
        rw [hb]
        clear hb
        go_enter Tryz.func149, Tryz.ntmps149
        go_wp2_with fail
        go_ret
        exact ⟨rfl, bl_alloc (Below.refl _ _) _⟩
      · by_cases h3 : (n : Int) - x < y
        · have hb : badR n (x, y) = true := decide_eq_true (.inr (.inr (.inr h3)))
          rw [hb]
          clear hb
          go_enter Tryz.func149, Tryz.ntmps149
          go_wp2_with fail
          go_ret
          exact ⟨rfl, bl_alloc (Below.refl _ _) _⟩
        · have hb : badR n (x, y) = false := decide_eq_false (by rintro (h | h | h | h) <;> omega)
          rw [hb]
          have h3' : y ≤ (n : Int) - x := by omega
          clear hb
          go_enter Tryz.func149, Tryz.ntmps149
          go_wp2_with fail
          go_ret
          exact ⟨rfl, bl_alloc (Below.refl _ _) _⟩

theorem index_ {w : World} {A : Option Addr} {l : List (Int × Int)} (h : RR w A l) (c : Nat) (hl : l.length ≤ 1000000000) {q n : Nat} (hq : w.cell? ⟨q, 0, none⟩ = some (.int .i64 n)) (hlt : q < w.heap.size) (hn : n ≤ 65534) :
    Calls Tryz.prog 181 #[.slice A l.length c, .func (.func 149) #[] #[.pointer (some ⟨q, 0, none⟩)]] w fun e w' => ∃ r : Int, e = .returned (.int .i64 r) ∧ (decide (0 ≤ r) = l.any (badR n)) ∧ Below w.heap.size w w' := by
  have hu := Tryz.underlying93
  have H := Lib.hid h
  obtain ⟨m, hm⟩ : ∃ m, m = l.length := ⟨_, rfl⟩
  rw [← hm] at hl
  rw [← hm]
  have HN := Lib.hid hm
  have HQ : Hid (∀ {W : World} (x y : Int), Below w.heap.size w W → _) := fun {W} x y hb => right1_ (w := W) (q := q) (n := n) ((hb.cell (p := ⟨q, 0, none⟩) hlt).trans hq) (Nat.lt_of_lt_of_le hlt hb.size) hn x y
  clear h hm hq hlt
  go_enter Tryz.func181, Tryz.ntmps181
  go_wp2_with fail
  go_loopw [8] (fun c8 wr => ∃ i : Nat, i ≤ m ∧ c8 = .int .i64 i ∧ Hid ((l.take i).any (badR n) = false ∧ Below w.heap.size w wr)) (fun c8 _ => m - (intOf c8).toNat)
  case atStart => exact ⟨0, Nat.zero_le _, rfl, by simp, Below.refl _ _⟩
  case round =>
    obtain ⟨i, hi, rfl, HR⟩ := hrel
    by_cases hlt : i < m
    · obtain ⟨p, hp⟩ := some_at (l := l) (i := i) (by rw [← HN.out]; exact hlt)
      obtain ⟨g, off, rfl, -, g1, g2⟩ := (H.out.below HR.out.2) i p hp
      have HP := Lib.hid hp
      have HT : Hid ((l.take (i + 1)).any (badR n) = badR n p) := by
        show _ = _
        rw [take_next hp, List.any_append, HR.out.1]
        simp
      have HC := Lib.hid (HQ.out (W := wr) p.1 p.2 HR.out.2)
      obtain ⟨x, y⟩ := p
      simp only at g1 g2 HC
      cases hb : badR n (x, y) with
      | true =>
        rw [hb] at HC
        have HA : Hid (l.any (badR n) = true) := List.any_eq_true.2 ⟨_, List.mem_of_getElem? HP.out, hb⟩
        clear hp hb
        go_wp2_with fail
        refine HC.out.mono ?_
        rintro e w2 ⟨rfl, hb2⟩
        have HB2 := Lib.hid (bl_then HR.out.2 hb2)
        clear hb2
        go_wp2_with fail
        go_ret
        exact ⟨_, rfl, by rw [HA.out]; exact decide_eq_true (by omega), HB2.out⟩
      | false =>
        rw [hb] at HC HT
        clear hp hb
        go_wp2_with fail
        refine HC.out.mono ?_
        rintro e w2 ⟨rfl, hb2⟩
        have HB2 := Lib.hid (bl_then HR.out.2 hb2)
        clear hb2
        go_wp2_with fail
        go_roundw
        case rel => exact ⟨i + 1, by omega, by go_num, HT.out, HB2.out⟩
        case measure => simp [intOf]; omega
    · obtain rfl : i = m := by omega
      have HA := Lib.hid HR.out.1
      rw [List.take_of_length_le (by rw [← HN.out]; exact Nat.le_refl _)] at HA
      go_wp2_with fail
      go_ret
      exact ⟨_, rfl, by rw [HA.out]; rfl, HR.out.2⟩

theorem contains_ {w : World} {A : Option Addr} {l : List (Int × Int)} (h : RR w A l) (c : Nat) (hl : l.length ≤ 1000000000) {q n : Nat} (hq : w.cell? ⟨q, 0, none⟩ = some (.int .i64 n)) (hlt : q < w.heap.size) (hn : n ≤ 65534) :
    Calls Tryz.prog 148 #[.slice A l.length c, .func (.func 149) #[] #[.pointer (some ⟨q, 0, none⟩)]] w fun e w' => e = .returned (.bool (l.any (badR n))) ∧ Below w.heap.size w w' := by
  have HI := Lib.hid (index_ h c hl hq hlt hn)
  clear h hq hlt
  go_enter Tryz.func148, Tryz.ntmps148
  go_wp2_with fail
  refine HI.out.mono ?_
  rintro e w2 ⟨r, rfl, hr, hb⟩
  have HR := Lib.hid hr
  have HB := Lib.hid hb
  clear hr hb
  go_wp2_with fail
  go_ret
  exact ⟨by rw [← HR.out]; rfl, HB.out⟩

end Go.Proofs.YtgnagbbdnlmgeaaGreat.Tr
end

/- chain.right: may slots have runs? -/
section
set_option linter.unusedVariables false
set_option linter.unusedSimpArgs false
set_option maxHeartbeats 2000000
set_option maxRecDepth 100000
namespace Go.Proofs.YtgnagbbdnlmgeaaGreat.Tr
open Go Go.RowKit
open Go.Proofs.YtgnagbbdnlmgeaaGreat.Ob Go.Proofs.YtgnagbbdnlmgeaaGreat.Ba Go.Proofs.YtgnagbbdnlmgeaaGreat.Oc Go.Proofs.YtgnagbbdnlmgeaaGreat.Pk Go.Proofs.YtgnagbbdnlmgeaaGreat.Rr Go.Proofs.YtgnagbbdnlmgeaaGreat.Dv Go.Proofs.YtgnagbbdnlmgeaaGreat.Vo Go.Proofs.YtgnagbbdnlmgeaaGreat.Mp

def rightB (n : Nat) (l : List Int) (rs : List (Int × Int)) : Bool := decide ((∀ x ∈ l, 0 ≤ x ∧ x < n) ∧ l.Nodup ∧ l.length = rs.length ∧ rs.any (badR n) = false)
theorem zero_bool (w : World) : (zeroValue 4).run Tryz.prog w = .ok (.bool false) w := rfl
theorem field0' (x y z : Value) (w : World) : (Instr.field 34 (.agg #[x, y, z]) 0).run Tryz.prog w = .ok x w := rfl

/-- the numbers that were met, in a map -/
structure Seen (w wr : World) (q M n : Nat) (l : List Int) : Prop where
  bl : Below w.heap.size w wr
  cell : wr.heap[q]? = some (.cells #[.int .i64 n] 3 (0, 0))
  map : ∃ es clock, wr.heap[M]? = some (obj (kInt .i64) es clock) ∧ es.map Prod.fst = l ∧ ∀ x ∈ es, x.2.1 = .bool true
  range : ∀ x ∈ l, 0 ≤ x ∧ x < n
  nodup : l.Nodup

theorem Seen.no {w wr : World} {q M n : Nat} {l : List Int} (h : Seen w wr q M n l) {x : Int} (hx : x ∉ l) : (Instr.lookup 211 (.map (some M)) (.int .i64 x) false).run Tryz.prog wr = .ok (.bool false) wr := by
  obtain ⟨es, clock, hb, he, -⟩ := h.map
  exact run_lookup_none (K := kInt .i64) (k := x) Tryz.underlying211 Tryz.underlying3 hb (fun y hy e => hx (by rw [← he, ← e]; exact List.mem_map_of_mem hy)) (zero_bool wr)
theorem Seen.yes {w wr : World} {q M n : Nat} {l : List Int} (h : Seen w wr q M n l) {x : Int} (hx : x ∈ l) : (Instr.lookup 211 (.map (some M)) (.int .i64 x) false).run Tryz.prog wr = .ok (.bool true) wr := by
  obtain ⟨es, clock, hb, he, ht⟩ := h.map
  rw [← he] at hx
  obtain ⟨y, hy, rfl⟩ := List.mem_map.1 hx
  have hnd := h.nodup
  rw [← he] at hnd
  obtain ⟨pre, post, rfl⟩ := List.append_of_mem hy
  have hty := ht y hy
  obtain ⟨k, v, b⟩ := y
  simp only at hty
  subst hty
  refine run_lookup_some (K := kInt .i64) (k := k) (pre := pre) (post := post) (b := b) Tryz.underlying211 Tryz.underlying3 hb (fun z hz e => ?_)
  rw [List.map_append, List.map_cons] at hnd
  exact (List.nodup_append.1 hnd).2.2 z.1 (List.mem_map_of_mem hz) k (by simp) e

theorem right_ {w : World} {v b n m s : Nat} {d : Dev} {g : Lay} (hv : VolIs w v b n m s d g) (hn : n ≤ 65534) {A : Option Addr} {l : List Int} (hA : Rk .i64 w A l) (cA : Nat) (hl : l.length ≤ 1000000000) {B : Option Addr} {rs : List (Int × Int)} (hB : RR w B rs) (cB : Nat) (hr : rs.length ≤ 1000000000) :
    Calls Tryz.prog 102 #[.pointer (some ⟨v, 0, none⟩), .slice A l.length cA, .slice B rs.length cB] w fun e w' => e = .returned (.bool (rightB n l rs)) ∧ Below w.heap.size w w' := by
  have hu := Tryz.underlying34
  have hmm := @run_makeMap Tryz.prog
  have hmf : ∀ (fn : Fn) (first cap : Array Value) (w : World), (Instr.makeFunc fn first cap).run Tryz.prog w = .ok (.func fn first cap) w := fun _ _ _ _ => rfl
  have HG := Lib.hid (Jh.geom_ hv)
  have HA := Lib.hid hA
  have HCT : Hid (∀ {W : World} {q : Nat}, Below w.heap.size w W → W.cell? ⟨q, 0, none⟩ = some (.int .i64 n) → q < W.heap.size → _) := fun {W} {q} hb hq hlt => contains_ (w := W) (hB.below hb) cB hr (q := q) (n := n) hq hlt hn
  have HNO : Hid (¬ ((∀ x ∈ l, 0 ≤ x ∧ x < n) ∧ l.Nodup) → rightB n l rs = false) := fun h => decide_eq_false (fun h2 => h ⟨h2.1, h2.2.1⟩)
  have HLE : Hid (l.length ≠ rs.length → rightB n l rs = false) := fun h => decide_eq_false (fun h2 => h h2.2.2.1)
  have HOK : Hid ((∀ x ∈ l, 0 ≤ x ∧ x < n) → l.Nodup → l.length = rs.length → rightB n l rs = !(rs.any (badR n))) := fun h1 h2 h3 => by
    unfold rightB
    cases hq : rs.any (badR n) with
    | true => exact decide_eq_false (fun h => by cases h.2.2.2)
    | false => exact decide_eq_true ⟨h1, h2, h3, rfl⟩
  generalize rightB n l rs = R at *
  generalize rs.any (badR n) = bad at *
  obtain ⟨ln, hln⟩ : ∃ ln, ln = l.length := ⟨_, rfl⟩
  obtain ⟨rn, hrn⟩ : ∃ rn, rn = rs.length := ⟨_, rfl⟩
  rw [← hln] at hl HLE HOK
  rw [← hrn] at hr HLE HOK HCT
  rw [← hln, ← hrn]
  have HLN := Lib.hid hln
  clear hv hA hB hln hrn
  go_enter Tryz.func102, Tryz.ntmps102
  go_wp2_with fail
  refine HG.out.mono ?_
  rintro e w1 ⟨rfl, hb1⟩
  have HB1 := Lib.hid hb1
  have hfld := field0' (.int .i64 n) (.int .i64 m) (.int .i64 s) w1
  have hs2 : ((w1.alloc (.cells #[.int .i64 n] 3)).alloc (.map #[] 0)).heap[w1.heap.size + 1]? = some (.map #[] 0) := Je.two_new _ _ _
  have HSN : Hid (Seen w ((w1.alloc (.cells #[.int .i64 n] 3)).alloc (.map #[] 0)) w1.heap.size (w1.heap.size + 1) n []) := ⟨bl_alloc (bl_alloc hb1 _) _, alloc_old (alloc_new _ _) _, ⟨[], 0, hs2, rfl, by simp⟩, by simp, by simp⟩
  clear hb1 hs2
  go_wp2_with fail
  clear hfld
  go_loopw [17] (fun c17 wr => ∃ i : Nat, i ≤ ln ∧ c17 = .int .i64 i ∧ Hid (Seen w wr w1.heap.size (w1.heap.size + 1) n (l.take i))) (fun c17 _ => ln - (intOf c17).toNat)
  case atStart => exact ⟨0, Nat.zero_le _, rfl, HSN.out⟩
  case round =>
    obtain ⟨i, hi, rfl, HR⟩ := hrel
    have hc := HR.out.cell
    have q0 := cell_of hc 0
    have qlt := lt_of hc
    clear hc
    by_cases hlt : i < ln
    · obtain ⟨x, hx⟩ := some_at (l := l) (i := i) (by rw [← HLN.out]; exact hlt)
      obtain ⟨a, rfl, -, ha⟩ := (HA.out.below HR.out.bl) i x hx
      have HX := Lib.hid hx
      have hmem := List.mem_of_getElem? hx
      clear hx
      by_cases h0 : x < 0
      · have HF : Hid (R = false) := HNO.out (fun h => by have := h.1 x hmem; omega)
        clear hmem
        go_wp2_with fail
        go_ret
        exact ⟨by rw [HF.out]; rfl, HR.out.bl⟩
      · by_cases h1 : (n : Int) ≤ x
        · have HF : Hid (R = false) := HNO.out (fun h => by have := h.1 x hmem; omega)
          clear hmem
          go_wp2_with fail
          go_ret
          exact ⟨by rw [HF.out]; rfl, HR.out.bl⟩
        · by_cases hin : x ∈ l.take i
          · have HF : Hid (R = false) := HNO.out (fun h => by
              have h9 := h.2
              rw [← List.take_append_drop i l] at h9
              exact (List.nodup_append.1 h9).2.2 x hin x (by rw [List.mem_iff_getElem?]; exact ⟨0, by rw [List.getElem?_drop]; exact HX.out⟩) rfl)
            have hlk := HR.out.yes hin
            clear hmem hin
            go_wp2_with fail
            go_ret
            exact ⟨by rw [HF.out]; rfl, HR.out.bl⟩
          · have hlk := HR.out.no hin
            have HIN := Lib.hid hin
            obtain ⟨es, clock, hmp, hes, htr⟩ := HR.out.map
            have HMP := Lib.hid (And.intro hmp (And.intro hes htr))
            have h0' : 0 ≤ x := by omega
            have h1' : x < (n : Int) := by omega
            clear hmem hin hmp hes htr
            go_wp2_with (at_mapUpdate; refine Wl.wpl_put_new (kInt .i64) es rfl _ _ _ _ rfl Tryz.underlying211 Tryz.underlying3 rfl x rfl _ rfl HMP.out.1 (fun y hy e => HIN.out (by rw [← HMP.out.2.1, ← e]; exact List.mem_map_of_mem hy)) ?_; intro W2 hW2; (have HW2 := Lib.hid hW2); clear hW2)
            go_roundw
            case rel =>
              refine ⟨i + 1, by omega, by go_num, ?_⟩
              rw [take_next HX.out]
              have hup := HW2.out.upd [w1.heap.size + 1] (by simp)
              have hbel : Below w.heap.size w W2 := HR.out.bl.trans (hup.belowB HR.out.bl.size (fun k hk => by
                have e : k = w1.heap.size + 1 := by simpa using hk
                have := HB1.out.size
                omega))
              refine ⟨hbel, hup.blk HR.out.cell (by simp), ⟨_, _, HW2.out.here, by rw [List.map_append, HMP.out.2.1]; rfl, fun y hy => ?_⟩, fun y hy => ?_, List.nodup_append.2 ⟨HR.out.nodup, by simp, fun y hy z hz e => HIN.out (by simp at hz; rw [← hz, ← e]; exact hy)⟩⟩
              · rcases List.mem_append.1 hy with h | h
                · exact HMP.out.2.2 y h
                · simp at h; rw [h]; rfl
              · rcases List.mem_append.1 hy with h | h
                · exact HR.out.range y h
                · simp at h; rw [h]; exact ⟨h0', h1'⟩
            case measure => simp [intOf]; omega
    · obtain rfl : i = ln := by omega
      have hse := HR.out
      rw [List.take_of_length_le (by rw [← HLN.out]; exact Nat.le_refl _)] at hse
      by_cases hlr : i = rn
      · subst hlr
        have HF : Hid (R = !bad) := HOK.out hse.range hse.nodup rfl
        have HC := Lib.hid (HCT.out hse.bl q0 qlt)
        clear hse
        go_wp2_with (go_at_call 148; refine HC.out.mono ?_; rintro e w5 ⟨rfl, hb5⟩; (have HB5 := Lib.hid (bl_then HR.out.bl hb5)); clear hb5)
        go_ret
        exact ⟨by rw [HF.out]; rfl, HB5.out⟩
      · have e1 : ((i : Int) == (rn : Int)) = false := by rw [beq_eq_false_iff_ne]; omega
        have HF : Hid (R = false) := HLE.out hlr
        clear hse hlr
        go_wp2_with fail
        go_ret
        exact ⟨by rw [HF.out]; rfl, HR.out.bl⟩

end Go.Proofs.YtgnagbbdnlmgeaaGreat.Tr
end
