/- Parts of the proof, one behind the other: Cl, Wc. -/
import Derived.Test.YtgnagbbdnlmgeaaGreatL13
import Derived.OrdersHeld
set_option linter.unusedVariables false
set_option linter.unusedSimpArgs false
set_option linter.unusedSectionVars false
section
set_option maxHeartbeats 4000000
set_option maxRecDepth 100000
namespace Go.Proofs.YtgnagbbdnlmgeaaGreat.Tr
open Go Go.RowKit
open Ob Ba Oc Pk Ko Dv Vo Ra Su Lo Je
theorem rslot_call {W : World} {a8 : Addr} {ws : List Nat} {T c8 n m : Nat} (hr : Rk .u64 W (some a8) (Oc.ints ws)) (hT : ws.length = T) (hc : T ≤ c8) (hlt : ∀ x ∈ ws, x < 18446744073709551616) (hT9 : T ≤ 1000000) (hfit : 16 + 8 * m + n ≤ T) (z p3 p4 p5 i : Int) :
    Calls Tryz.prog 22 #[.agg #[.int .i64 n, .int .i64 m, .int .i64 z, .int .i64 16, .int .i64 (16 + 8 * (m : Int)), .int .i64 p3, .int .i64 p4, .int .i64 p5, .slice (some a8) T c8], .int .i64 i] W fun o w' => o = .returned (.tuple #[.agg #[.int .i64 (slV (slF ws n m i)).1, .int .i64 (slV (slF ws n m i)).2.1, .int .i64 (slV (slF ws n m i)).2.2], .bool (slF ws n m i).isSome]) ∧ Below W.heap.size W w' := by
  by_cases hi : i < 0 ∨ (n : Int) ≤ i
  · have hs : slF ws n m i = none := by unfold slF; rw [if_neg (by omega)]
    rw [hs]
    exact r15slot_out n m z _ p3 p4 p5 i hi
  · obtain ⟨k, hk⟩ : ∃ k : Nat, (k : Int) = 16 + 8 * m + i := ⟨(16 + 8 * m + i).toNat, by omega⟩
    have hkT : k < T := by omega
    obtain ⟨x, hx⟩ := some_at (l := ws) (i := k) (by omega)
    have hxe : ws.getD (16 + 8 * m + i.toNat) 0 = x := by
      rw [List.getD_eq_getElem?_getD, show 16 + 8 * m + i.toNat = k from by omega, hx]
      rfl
    have hs : slF ws n m i = if ok7 x then some (s7 x) else none := by
      unfold slF
      rw [if_pos (by omega), hxe]
    have hs7 : slV (slF ws n m i) = s7 x := by
      rw [hs]
      by_cases h9 : ok7 x = true
      · rw [if_pos h9]
        exact Option.getD_some
      · rw [if_neg h9]
        unfold s7
        rw [if_neg h9]
        exact Option.getD_none
    have hs8 : (slF ws n m i).isSome = ok7 x := by
      rw [hs]
      by_cases h9 : ok7 x = true
      · rw [if_pos h9, h9]; rfl
      · rw [if_neg h9]
        have : ok7 x = false := by simpa using h9
        rw [this]; rfl
    rw [hs7, hs8]
    exact r15slot_get hr hT hc hlt n m z (16 + 8 * m) p3 p4 p5 i (by omega) k hk hkT (by omega) (by omega) x hx
structure Rq (n : Nat) (sl : Int → Option Tri) (head : Int) (W wr : World) (V : Array Value) (A B : Option Addr) (c1 c2 d : Nat) (done : List (Int × Tri)) (s : Int) : Prop where
  len : done.length = d
  bl : Below W.heap.size W wr
  lt : W.heap.size + 3 ≤ wr.heap.size
  vol : wr.heap[W.heap.size]? = some (.cells V 30 (0, 0))
  res : wr.heap[W.heap.size + 1]? = some (.cells #[.slice none 0 0, .slice none 0 0] 100 (0, 0))
  box : wr.heap[W.heap.size + 2]? = some (.cells #[.slice A d c1, .slice B d c2] 100 (0, 0))
  ints : wr.ownsRow (W.heap.size + 3) 3 1 (.slice A d c1) d (ivs .i64 (done.map Prod.fst))
  tris : wr.ownsRow (W.heap.size + 3) 54 3 (.slice B d c2) d (tvs (done.map Prod.snd))
  path : Path n sl head done s
  nodup : (done.map Prod.fst).Nodup
  range : ∀ x ∈ done.map Prod.fst, 0 ≤ x ∧ x < n
theorem Rq.keep {n : Nat} {sl : Int → Option Tri} {head : Int} {W wr w' : World} {V : Array Value} {A B : Option Addr} {c1 c2 d : Nat} {done : List (Int × Tri)} {s : Int} (h : Rq n sl head W wr V A B c1 c2 d done s) (hb : Below wr.heap.size wr w') : Rq n sl head W w' V A B c1 c2 d done s :=
  ⟨h.len, bl_then h.bl hb, Nat.le_trans h.lt hb.size, blk_bl h.vol hb, blk_bl h.res hb, blk_bl h.box hb, own_bl h.ints hb, own_bl h.tris hb, h.path, h.nodup, h.range⟩
def lenAt (w : World) (q : Nat) : Nat := match w.cell? ⟨q, 0, none⟩ with | some (.slice _ k _) => k | _ => 0
theorem lenAt_is {w : World} {q k c : Nat} {A : Option Addr} (h : w.cell? ⟨q, 0, none⟩ = some (.slice A k c)) : lenAt w q = k := by unfold lenAt; rw [h]
theorem three_new (w : World) (o p q : Obj) : (((w.alloc o).alloc p).alloc q).heap[w.heap.size]? = some o ∧ (((w.alloc o).alloc p).alloc q).heap[w.heap.size + 1]? = some p ∧ (((w.alloc o).alloc p).alloc q).heap[w.heap.size + 2]? = some q := by
  have h1 := alloc_new w o
  have h2 := two_new w o p
  have h3 := alloc_new ((w.alloc o).alloc p) q
  rw [World.size_alloc, World.size_alloc] at h3
  exact ⟨alloc_old (alloc_old h1 p) q, alloc_old h2 q, h3⟩
theorem own_sets {W : World} {B T s n q : Nat} {v : Value} {xs : List Value} (h : W.ownsRow B T s v n xs) (hq : q < B) (y0 y1 : Value) : ((W.setCell ⟨q, 0, none⟩ y0).setCell ⟨q, 1, none⟩ y1).ownsRow B T s v n xs :=
  own_kp h fun k hk _ => (Below.heap_setCell _ _ _ k (fun e => by have : q = k := e.symm; omega)).trans (Below.heap_setCell W _ _ k (fun e => by have : q = k := e.symm; omega))
theorem ne_type {w : World} {B T sz n k T' : Nat} {v : Value} {xs : List Value} {cur : Array Value} {fr : Nat × Nat} (h : w.ownsRow B T sz v n xs) (hk : w.heap[k]? = some (.cells cur T' fr)) (hT : T ≠ T') : v.ownBlock ≠ some k := fun e => by
  obtain ⟨c, hc⟩ := Bm.own_blk' h e
  rw [hk] at hc
  simp only [Option.some.injEq, Obj.cells.injEq] at hc
  exact hT hc.2.1.symm
theorem grown_blk {w w' : World} {row : Option Nat} {k : Nat} {o : Obj} (hg : w.grownBy w' row) (hb : w.heap[k]? = some o) (hne : row ≠ some k) : w'.heap[k]? = some o :=
  (hg.block k (lt_of hb) (fun e => hne e.symm)).trans hb
theorem own_grown {w w' : World} {row : Option Nat} {B T sz n : Nat} {v : Value} {xs : List Value} (hg : w.grownBy w' row) (h : w.ownsRow B T sz v n xs) (hne : ∀ k, v.ownBlock = some k → row ≠ some k) : w'.ownsRow B T sz v n xs :=
  Vo.own_kq h fun k hk => by
    obtain ⟨c, hc⟩ := Bm.own_blk' h hk
    exact hg.block k (lt_of hc) (fun e => hne k hk e.symm)
theorem set_blk {w : World} {q k o : Nat} {v : Value} {ob : Obj} (hb : w.heap[k]? = some ob) (hne : q ≠ k) : (w.setCell ⟨q, o, none⟩ v).heap[k]? = some ob :=
  (Below.heap_setCell w _ _ k (fun e => hne e.symm)).trans hb
theorem tri_news (w : World) (q o : Nat) (v x y z : Value) (T : TypeId) : ∀ j u, [x, y, z][j]? = some u → ((w.setCell ⟨q, o, none⟩ v).alloc (.cells #[x, y, z] T)).cell? ((⟨w.heap.size, 0, none⟩ : Addr).add j) = some u := by
  have h := World.news_of_block (cs := #[x, y, z]) (t := T) (fr := (0, 0)) (heap_alloc_new (w.setCell ⟨q, o, none⟩ v) _)
  have e : (w.setCell ⟨q, o, none⟩ v).heap.size = w.heap.size := by simp
  rw [e] at h
  exact h
structure M7 (W w7 : World) (V : Array Value) (A B : Option Addr) (c1 c2 d q8 : Nat) (a b c : Int) (done : List (Int × Tri)) : Prop where
  bl : Below W.heap.size W w7
  lt : W.heap.size + 3 ≤ w7.heap.size
  vol : w7.heap[W.heap.size]? = some (.cells V 30 (0, 0))
  res : w7.heap[W.heap.size + 1]? = some (.cells #[.slice none 0 0, .slice none 0 0] 100 (0, 0))
  box : w7.heap[W.heap.size + 2]? = some (.cells #[.slice A d c1, .slice B d c2] 100 (0, 0))
  t8 : w7.heap[q8]? = some (.cells #[.int .i64 a, .int .i64 b, .int .i64 c] 54 (0, 0))
  tris : ∀ v o, ((w7.setCell ⟨W.heap.size + 2, 0, none⟩ v).alloc o).ownsRow (W.heap.size + 3) 54 3 (.slice B d c2) d (tvs (done.map Prod.snd))
theorem mid {n : Nat} {sl : Int → Option Tri} {head : Int} {W W3 w7 : World} {V : Array Value} {A B : Option Addr} {c1 c2 d q8 : Nat} {a b c : Int} {done : List (Int × Tri)} {s : Int} (h : Rq n sl head W W3 V A B c1 c2 d done s) (hq : W3.heap[q8]? = some (.cells #[.int .i64 a, .int .i64 b, .int .i64 c] 54 (0, 0))) {o : Obj}
    (hg : (W3.alloc o).grownBy w7 (Value.slice A d c1).ownBlock) : M7 W w7 V A B c1 c2 d q8 a b c done := by
  have hlo := own_lo h.ints
  have hall : ∀ {k : Nat} {cur : Array Value} {T' : Nat} {fr : Nat × Nat}, W3.heap[k]? = some (.cells cur T' fr) → 3 ≠ T' → w7.heap[k]? = some (.cells cur T' fr) := fun hk hT => grown_blk hg (alloc_old hk _) (ne_type h.ints hk hT)
  refine ⟨bl_grown (bl_alloc h.bl _) hg (fun k hk => by have := hlo k hk; omega), by have := hg.size; rw [World.size_alloc] at this; have := h.lt; omega, hall h.vol (by decide), hall h.res (by decide), hall h.box (by decide), hall hq (by decide), fun v o => ?_⟩
  have h1 := own_grown hg (own_kp (W' := W3.alloc _) h.tris (fun k _ hk => Below.heap_alloc _ _ k hk)) (fun k hk => by
    obtain ⟨cur, hc⟩ := Bm.own_blk' h.tris hk
    exact ne_type h.ints hc (by decide))
  have h2 : (w7.setCell ⟨W.heap.size + 2, 0, none⟩ v).ownsRow (W.heap.size + 3) 54 3 (.slice B d c2) d (tvs (done.map Prod.snd)) := own_kp h1 (fun k hk _ => Below.heap_setCell w7 _ _ k (fun e => by have : W.heap.size + 2 = k := e.symm; omega))
  exact own_kp h2 (fun k _ hk => Below.heap_alloc _ _ k hk)
theorem fin2 {n : Nat} {sl : Int → Option Tri} {head : Int} {W W3 w7 w9 : World} {V : Array Value} {A B A' B' : Option Addr} {c1 c2 c1' c2' d q8 : Nat} {a b c : Int} {done : List (Int × Tri)} {s : Int} (h : Rq n sl head W W3 V A B c1 c2 d done s) (h7 : M7 W w7 V A B c1 c2 d q8 a b c done)
    (hq8 : W.heap.size + 2 < q8) (hBq : ∀ k, (Value.slice B d c2).ownBlock = some k → k ≠ q8)
    (hp : Path n sl head (done ++ [(s, a, b, c)]) c) (hnd : (done.map Prod.fst ++ [s]).Nodup) (hrg : ∀ x ∈ done.map Prod.fst ++ [s], 0 ≤ x ∧ x < n)
    (ho7 : w7.ownsRow (W.heap.size + 3) 3 1 (.slice A' (d + 1) c1') (d + 1) (ivs .i64 (done.map Prod.fst) ++ [.int .i64 s]))
    (ho9 : w9.ownsRow (W.heap.size + 3) 54 3 (.slice B' (d + 1) c2') (d + 1) (tvs (done.map Prod.snd) ++ [.int .i64 a, .int .i64 b, .int .i64 c]))
    (hg : ((w7.setCell ⟨W.heap.size + 2, 0, none⟩ (.slice A' (d + 1) c1')).alloc (.cells #[.int .i64 a, .int .i64 b, .int .i64 c] 54)).grownBy w9 (Value.slice B d c2).ownBlock) :
    w9.heap[W.heap.size + 2]? = some (.cells #[.slice A' (d + 1) c1', .slice B d c2] 100 (0, 0)) ∧ (w9.setCell ⟨W.heap.size + 2, 1, none⟩ (.slice B' (d + 1) c2')).heap[q8]? = some (.cells #[.int .i64 a, .int .i64 b, .int .i64 c] 54 (0, 0)) ∧
    Rq n sl head W (w9.setCell ⟨W.heap.size + 2, 1, none⟩ (.slice B' (d + 1) c2')) V A' B' c1' c2' (d + 1) (done ++ [(s, a, b, c)]) c := by
  have hlo : ∀ k, (Value.slice B d c2).ownBlock = some k → W.heap.size + 3 ≤ k := own_lo h.tris
  have htr := h7.tris (.slice A' (d + 1) c1') (.cells #[.int .i64 a, .int .i64 b, .int .i64 c] 54)
  have hbox8 := set_same h7.box 0 (.slice A' (d + 1) c1')
  have low : ∀ {k : Nat} {ob : Obj}, w7.heap[k]? = some ob → k ≠ W.heap.size + 2 → k < W.heap.size + 3 → w9.heap[k]? = some ob := fun hk hne hlt => grown_blk hg (alloc_old (set_blk hk (fun e => hne e.symm)) _) (fun e => by have := hlo _ e; omega)
  have hb9 : w9.heap[W.heap.size + 2]? = some (.cells #[.slice A' (d + 1) c1', .slice B d c2] 100 (0, 0)) := grown_blk hg (alloc_old hbox8 _) (fun e => by have := hlo _ e; omega)
  have ht9 : w9.heap[q8]? = some (.cells #[.int .i64 a, .int .i64 b, .int .i64 c] 54 (0, 0)) := grown_blk hg (alloc_old (set_blk h7.t8 (by omega)) _) (fun e => hBq _ e rfl)
  have hi8 : ((w7.setCell ⟨W.heap.size + 2, 0, none⟩ (.slice A' (d + 1) c1')).alloc (.cells #[.int .i64 a, .int .i64 b, .int .i64 c] 54)).ownsRow (W.heap.size + 3) 3 1 (.slice A' (d + 1) c1') (d + 1) (ivs .i64 (done.map Prod.fst) ++ [.int .i64 s]) :=
    own_kp (own_kp (W' := w7.setCell ⟨W.heap.size + 2, 0, none⟩ (.slice A' (d + 1) c1')) ho7 (fun k hk _ => Below.heap_setCell w7 _ _ k (fun e => by have : W.heap.size + 2 = k := e.symm; omega))) (fun k _ hk => Below.heap_alloc _ _ k hk)
  have hi9 := own_grown hg hi8 (fun k hk => by
    obtain ⟨cur, hc⟩ := Bm.own_blk' hi8 hk
    exact ne_type htr hc (by decide))
  have hset : ∀ (k : Nat), W.heap.size + 3 ≤ k → (w9.setCell ⟨W.heap.size + 2, 1, none⟩ (.slice B' (d + 1) c2')).heap[k]? = w9.heap[k]? := fun k hk => Below.heap_setCell w9 _ _ k (fun e => by have : W.heap.size + 2 = k := e.symm; omega)
  have hs9 : w7.heap.size ≤ w9.heap.size := by have := hg.size; rw [World.size_alloc] at this; simp at this; omega
  refine ⟨hb9, set_blk ht9 (by omega), ?_⟩
  refine ⟨by simp [h.len], bl_set (bl_grown (bl_alloc (bl_set h7.bl (by omega) _) _) hg (fun k hk => by have := hlo k hk; omega)) (by omega) _, by have := h7.lt; simp; omega, set_blk (low h7.vol (by omega) (by omega)) (by omega), set_blk (low h7.res (by omega) (by omega)) (by omega), set_same hb9 1 _, ?_, ?_, hp, by rw [List.map_append]; exact hnd, by rw [List.map_append]; exact hrg⟩
  · rw [List.map_append, ivs_append]
    exact own_kp hi9 (fun k hk _ => hset k hk)
  · rw [List.map_append, tvs_append]
    exact own_kp ho9 (fun k hk _ => hset k hk)
theorem rread_ {W : World} {a8 : Addr} {ws : List Nat} {T c8 n m : Nat} (hr : Rk .u64 W (some a8) (Oc.ints ws)) (hT : ws.length = T) (hc : T ≤ c8) (hlt : ∀ x ∈ ws, x < 18446744073709551616) (hT9 : T ≤ 1000000) (hfit : 16 + 8 * m + n ≤ T) (z p3 p4 p5 head : Int) :
    Calls Tryz.prog 43 #[.agg #[.int .i64 n, .int .i64 m, .int .i64 z, .int .i64 16, .int .i64 (16 + 8 * (m : Int)), .int .i64 p3, .int .i64 p4, .int .i64 p5, .slice (some a8) T c8], .int .i64 head] W fun o w' =>
      (∀ L, chainF n (slF ws n m) n head = some L → ∃ A c B d, o = .returned (.tuple #[.agg #[.slice A L.length c, .slice B L.length d], .bool true]) ∧ w'.ownsRow W.heap.size 3 1 (.slice A L.length c) L.length (ivs .i64 (L.map Prod.fst)) ∧ w'.ownsRow W.heap.size 54 3 (.slice B L.length d) L.length (tvs (L.map Prod.snd))) ∧
      (chainF n (slF ws n m) n head = none → o = .returned (.tuple #[.agg #[.slice none 0 0, .slice none 0 0], .bool false])) ∧ Below W.heap.size W w' := by
  have hu := Tryz.underlying100
  have hu2 := Tryz.underlying54
  have hu3 := Tryz.underlying30
  obtain ⟨z1, hi1, hz10, hz11, hz12⟩ := info_parts info_int
  obtain ⟨z3, hi3, hz30, hz31, hz32⟩ := info_parts (show (Tryz.prog.info? 54).map (fun i => (i.zero, i.size, i.bytes)) = some (some (.agg #[.int .i64 0, .int .i64 0, .int .i64 0]), 3, 24) by kernel_rfl)
  have HS : Hid (∀ {W' : World} (i : Int), Below W.heap.size W W' → _) := fun {W'} i hb => rslot_call (hr.below hb) hT hc hlt hT9 hfit z p3 p4 p5 i
  have HMAY : Hid (∀ i t, slF ws n m i = some t → sMay t.1 t.2.1 t.2.2 = true ∧ 0 ≤ i ∧ i < n) := fun i t h => slF_may h
  generalize slF ws n m = sl at *
  obtain ⟨R, hR⟩ : ∃ R, R = chainF n sl n head := ⟨_, rfl⟩
  have HR := Lib.hid hR
  rw [← hR]
  have hn9 : n ≤ 1000000 := by omega
  clear hr hT hc hlt hT9 hfit hR
  obtain ⟨q1, q2, q3⟩ := three_new W (.cells #[.int .i64 n, .int .i64 m, .int .i64 z, .int .i64 16, .int .i64 (16 + 8 * (m : Int)), .int .i64 p3, .int .i64 p4, .int .i64 p5, .slice (some a8) T c8] 30) (.cells #[.slice none 0 0, .slice none 0 0] 100) (.cells #[.slice none 0 0, .slice none 0 0] 100)
  have HQ := Lib.hid (And.intro q1 (And.intro q2 q3))
  clear q1 q2 q3
  go_enter Tryz.func43, Tryz.ntmps43
  go_wp2_with fail
  go_loopw [7] (fun c7 wr => ∃ (s : Int) (d : Nat) (A B : Option Addr) (c1 c2 : Nat), c7 = .int .i64 s ∧ d ≤ n ∧ Hid (∃ done, Rq n sl head W wr #[.int .i64 n, .int .i64 m, .int .i64 z, .int .i64 16, .int .i64 (16 + 8 * (m : Int)), .int .i64 p3, .int .i64 p4, .int .i64 p5, .slice (some a8) T c8] A B c1 c2 d done s)) (fun c7 wr => n + 1 - lenAt wr (W.heap.size + 2))
  case atStart => exact ⟨head, 0, none, none, 0, 0, rfl, Nat.zero_le _, [], rfl, bl_alloc (bl_alloc (bl_alloc (Below.refl _ _) _) _) _, by simp, HQ.out.1, HQ.out.2.1, HQ.out.2.2, own_nil0 _ _ _ _, own_nil0 _ _ _ _, rfl, by simp, by simp⟩
  case round =>
    obtain ⟨s, d, A, B, c1, c2, rfl, hd, HI⟩ := hrel
    obtain ⟨done, r1⟩ := HI.out
    clear HI
    have hpr := Path.run r1.path (n - d)
    rw [r1.len, Nat.sub_add_cancel hd, ← HR.out] at hpr
    by_cases hs : s = -1
    · subst hs
      rw [chainF_stop] at hpr
      have HD := Lib.hid (And.intro hpr r1)
      have hbx := r1.box
      have hrs := r1.res
      have l0 := cell_of hbx 0
      have l1 := cell_of hbx 1
      have m0 := cell_of hrs 0
      have m1 := cell_of hrs 1
      have f0 := free_of hrs 0
      have f1 := free_of hrs 1
      clear hpr r1 hbx hrs
      go_wp2_with fail
      refine bodyPost_ret (res_ct (u := 5) rfl _ _ (W.heap.size + 1) 100 #[.slice A d c1, .slice B d c2] (0, 0) _ rfl (Rr.put2 HD.out.2.res _ _) hu rfl (by kernel_rfl)) rfl ⟨fun L hL => ?_, fun hn => ?_, bl_set (bl_set HD.out.2.bl (by omega) _) (by omega) _⟩
      · obtain ⟨h1, h2⟩ := HD.out
        have e9 : L = done := by
          rw [hL] at h1
          simpa using h1
        subst e9
        rw [h2.len]
        exact ⟨A, c1, B, c2, rfl, own_base (own_sets h2.ints (by omega) _ _) (by omega), own_base (own_sets h2.tris (by omega) _ _) (by omega)⟩
      · obtain ⟨h1, -⟩ := HD.out
        rw [hn] at h1
        cases h1
    · have HSC := Lib.hid (HS.out (W' := wr) s r1.bl)
      have hsn : (s != -1) = true := bne_iff_ne.2 hs
      have hv := r1.vol
      have m0 := cell_of hv 0
      have m1 := cell_of hv 1
      have m2 := cell_of hv 2
      have m3 := cell_of hv 3
      have m4 := cell_of hv 4
      have m5 := cell_of hv 5
      have m6 := cell_of hv 6
      have m7 := cell_of hv 7
      have m8 := cell_of hv 8
      have HR1 := Lib.hid r1
      have HPR := Lib.hid hpr
      have HSN := Lib.hid hs
      clear hv r1 hpr hs
      go_wp2_with fail
      refine HSC.out.mono ?_
      rintro e w2 ⟨rfl, hb2⟩
      have HR2 := Lib.hid (HR1.out.keep hb2)
      clear hb2 m0 m1 m2 m3 m4 m5 m6 m7 m8
      cases ht : sl s with
      | none =>
        have hRn : R = none := by rw [HPR.out, chainF_bad HSN.out (.inl ht)]; rfl
        have HF := Lib.hid hRn
        have hrs := HR2.out.res
        have m0 := cell_of hrs 0
        have m1 := cell_of hrs 1
        have f0 := free_of hrs 0
        have f1 := free_of hrs 1
        have hlt := lt_of hrs
        rw [show slV none = (0, 0, 0) from rfl]
        clear hrs hRn ht
        go_wp2_with fail
        exact bodyPost_ret (res_ct (u := 5) rfl _ _ (W.heap.size + 1) 100 #[.slice none 0 0, .slice none 0 0] (0, 0) _ rfl (alloc_old (Rr.put2 HR2.out.res _ _) _) hu rfl (by kernel_rfl)) rfl ⟨fun L hL => (by rw [HF.out] at hL; cases hL), fun _ => rfl, bl_alloc (bl_set (bl_set HR2.out.bl (by omega) _) (by omega) _) _⟩
      | some t =>
        obtain ⟨a, b, c⟩ := t
        rw [show slV (some (a, b, c)) = (a, b, c) from rfl, show (some (a, b, c) : Option Tri).isSome = true from rfl]
        have hmay := HMAY.out s _ ht
        have hmm := of_decide_eq_true hmay.1
        obtain ⟨y1, y2, y3, y4, y5, y6⟩ := hmm
        have hbx := HR2.out.box
        have l0 := cell_of hbx 0
        have hlt := lt_of hbx
        have HT := Lib.hid (And.intro ht hmay.2)
        have r3 := HR2.out.keep (bl_alloc (Below.refl _ _) (.cells #[.int .i64 a, .int .i64 b, .int .i64 c] 54))
        have hq9 := alloc_new w2 (.cells #[.int .i64 a, .int .i64 b, .int .i64 c] 54)
        have hin := in_ (own_rk (k := .i64) r3.ints).1 c1 (by rw [List.length_map, r3.len]; omega) s
        rw [List.length_map, r3.len] at hin
        have HIN := Lib.hid hin
        have HR3 := Lib.hid r3
        have HQ9 := Lib.hid hq9
        clear hmay ht hbx r3 hin hq9
        obtain ⟨W3, hW3⟩ : ∃ W3, W3 = w2.alloc (.cells #[.int .i64 a, .int .i64 b, .int .i64 c] 54) := ⟨_, rfl⟩
        have HW3 := Lib.hid hW3
        rw [← hW3] at HIN HR3 HQ9
        clear hW3
        go_wp2_with fail
        rw [← HW3.out]
        refine HIN.out.mono ?_
        rintro e w4 ⟨rfl, hw4⟩
        have hw5 := hw4.symm
        subst hw5
        clear hw4
        have hq9 := HQ9.out
        have k0 := cell_of hq9 0
        have k1 := cell_of hq9 1
        have k2 := cell_of hq9 2
        have hrs := HR3.out.res
        have f0 := free_of hrs 0
        have f1 := free_of hrs 1
        have c0 := cell_of hrs 0
        have c1' := cell_of hrs 1
        have hvv := HR3.out.vol
        have v0 := cell_of hvv 0
        by_cases hmem : s ∈ done.map Prod.fst
        · have hRn : R = none := by
            obtain ⟨x, hx, hx1⟩ := List.mem_map.1 hmem
            obtain ⟨r, hr, hp⟩ := Path.mid HR3.out.path hx
            rw [hx1] at hp
            rw [HPR.out, Path.loop hp hr]; rfl
          have HF := Lib.hid hRn
          rw [decide_eq_true hmem]
          clear hq9 hrs hvv hmem hRn
          go_wp2_with fail
          exact bodyPost_ret (res_ct (u := 5) rfl _ _ (W.heap.size + 1) 100 #[.slice none 0 0, .slice none 0 0] (0, 0) _ rfl (Rr.put2 HR3.out.res _ _) hu rfl (by kernel_rfl)) rfl ⟨fun L hL => (by rw [HF.out] at hL; cases hL), fun _ => rfl, bl_set (bl_set HR3.out.bl (by omega) _) (by omega) _⟩
        · rw [decide_eq_false hmem]
          have HMEM := Lib.hid hmem
          clear hmem
          by_cases hab : (n : Int) < a + b
          · have hRn : R = none := by rw [HPR.out, chainF_bad HSN.out (.inr (.inl ⟨_, HT.out.1, hab⟩))]; rfl
            have HF := Lib.hid hRn
            clear hq9 hrs hvv hRn
            go_wp2_with fail
            exact bodyPost_ret (res_ct (u := 5) rfl _ _ (W.heap.size + 1) 100 #[.slice none 0 0, .slice none 0 0] (0, 0) _ rfl (Rr.put2 HR3.out.res _ _) hu rfl (by kernel_rfl)) rfl ⟨fun L hL => (by rw [HF.out] at hL; cases hL), fun _ => rfl, bl_set (bl_set HR3.out.bl (by omega) _) (by omega) _⟩
          · have HPS := Lib.hid (Path.snoc HR3.out.path HSN.out HT.out.1 hab)
            have hnd : (done.map Prod.fst ++ [s]).Nodup := List.nodup_append.2 ⟨HR3.out.nodup, by simp, fun x hx y hy e => HMEM.out (by simp at hy; rw [← hy, ← e]; exact hx)⟩
            have hrg : ∀ x ∈ done.map Prod.fst ++ [s], 0 ≤ x ∧ x < n := fun x hx => by
              rcases List.mem_append.1 hx with h1 | h1
              · exact HR3.out.range x h1
              · simp at h1; rw [h1]; exact HT.out.2
            have hdn : d + 1 ≤ n := by
              have := pigeon n _ hnd hrg
              rw [List.length_append, List.length_map, HR3.out.len] at this
              exact this
            have HND := Lib.hid (And.intro hnd hrg)
            have hbx := HR3.out.box
            have b0 := cell_of hbx 0
            have b1 := cell_of hbx 1
            have g0 := free_of hbx 0
            have g1 := free_of hbx 1
            have HOI : Hid (∀ o, (W3.alloc o).ownsRow (W.heap.size + 3) 3 1 (.slice A d c1) d (ivs .i64 (done.map Prod.fst))) := fun o => own_kp HR3.out.ints (fun k _ hk => Below.heap_alloc _ _ k hk)
            have hsz : Hid (W.heap.size + 3 ≤ W3.heap.size + 1) := by show _ ≤ _; have := HR3.out.lt; omega
            have HQ8 : Hid (W.heap.size + 2 < w2.heap.size ∧ ∀ k, (Value.slice B d c2).ownBlock = some k → k ≠ w2.heap.size) := ⟨lt_of HR2.out.box, fun k hk => by
              obtain ⟨cur, hc⟩ := Bm.own_blk' HR2.out.tris hk
              exact Nat.ne_of_lt (lt_of hc)⟩
            have hne8 : ¬ (W.heap.size + 2 = w2.heap.size) := by have := HQ8.out.1; omega
            clear hq9 hrs hvv hbx hnd hrg f0 f1 c0 c1' hlt
            go_wp2_with (first | (at_builtin; refine wpList_append_own _ rfl (.tmp 40) (.tmp 42) 79 rfl (W.heap.size + 3) 3 z1 (.int .i64 0) 1 8 Tryz.underlying79 hi1 hz10 hz11 hz12 rfl (by decide) _ d _ rfl (HOI.out _) ⟨W3.heap.size, 0, none⟩ 1 1 [.int .i64 s] rfl rfl (one_at _ _ _) (by intro u hu; simp at hu; subst hu; rfl) (by unfold maxLen; omega) (by omega) (by have h1 := hsz.out; simp; omega) ?_; intro v' w7 hown' hgrow _; (obtain ⟨A7, c7, hv7⟩ := own_slice hown'); subst hv7; (have HO7 := Lib.hid hown'); (have HM7 := Lib.hid (mid HR3.out HQ9.out hgrow)); (have hb7 := HM7.out.box); (have e0 := cell_of hb7 0); (have e1 := cell_of hb7 1); (have r0 := free_of hb7 0); (have r1 := free_of hb7 1); (have ht7 := HM7.out.t8); (have t0 := cell_of ht7 0); (have t1 := cell_of ht7 1); (have t2 := cell_of ht7 2); (have hsz7 : Hid (W.heap.size + 3 ≤ w7.heap.size + 1) := (by show _ ≤ _; have := HM7.out.lt; omega)); (have HOT : Hid (∀ v o, _) := HM7.out.tris); clear hown' hgrow hb7 ht7) |
              (at_builtin; refine wpList_append_own _ rfl (.tmp 46) (.tmp 48) 98 rfl (W.heap.size + 3) 54 z3 (.agg #[.int .i64 0, .int .i64 0, .int .i64 0]) 3 24 Tryz.underlying98 hi3 hz30 hz31 hz32 rfl (by decide) _ d _ rfl (HOT.out _ _) ⟨w7.heap.size, 0, none⟩ 1 1 [.int .i64 a, .int .i64 b, .int .i64 c] rfl rfl (tri_news _ _ _ _ _ _ _ _) (by intro u hu; simp at hu; rcases hu with rfl | rfl | rfl <;> rfl) (by unfold maxLen; omega) (by omega) (by have h1 := hsz7.out; simp; omega) ?_; intro v'' w9 hown9 hgrow9 _; (obtain ⟨A9, c9, hv9⟩ := own_slice hown9); subst hv9; (have HF9 := Lib.hid (fin2 HR3.out HM7.out HQ8.out.1 HQ8.out.2 HPS.out HND.out.1 HND.out.2 HO7.out hown9 hgrow9)); (have hb9 := HF9.out.1); (have j0 := cell_of hb9 0); (have j1 := cell_of hb9 1); (have s0 := free_of hb9 0); (have s1 := free_of hb9 1); (have ht9 := HF9.out.2.1); (have i2 := cell_of ht9 2); clear hown9 hgrow9 hb9 ht9))
            have HLN : Hid (lenAt wr (W.heap.size + 2) = d ∧ lenAt (w9.setCell ⟨W.heap.size + 2, 1, none⟩ (.slice A9 (d + 1) c9)) (W.heap.size + 2) = d + 1) := ⟨lenAt_is (cell_of HR1.out.box 0), lenAt_is (cell_of HF9.out.2.2.box 0)⟩
            go_roundw
            case rel => exact ⟨c, d + 1, A7, A9, c7, c9, rfl, hdn, done ++ [(s, a, b, c)], HF9.out.2.2⟩
            case measure =>
              obtain ⟨q1, q2⟩ := HLN.out
              have q2 : lenAt (w9.setCell ⟨W.heap.size + 1 + 1, 1, none⟩ (.slice A9 (d + 1) c9)) (W.heap.size + 2) = d + 1 := q2
              rw [q1, q2]
              omega
end Go.Proofs.YtgnagbbdnlmgeaaGreat.Tr
end
section
namespace Go.Proofs.YtgnagbbdnlmgeaaGreat.Wc
open Go
section
variable {P : Program} {ops : Array Oper} {Q : Exit → Act → World → Prop} {md : Region.Mode} {S0 S1 : World → Prop} {E : Nat → Bool}
def Till (P : Program) (md : Region.Mode) (ops : Array Oper) (Q : Exit → Act → World → Prop) (S0 S1 : World → Prop) (E : Nat → Bool) : Nat → Array Bool → Act → World → Prop
  | 0, l, a, w => Region.ready md ops l = [] ∧ Q .normal a w
  | k + 1, l, a, w => (Region.ready md ops l = [] → Q .normal a w) ∧
    ∀ i ∈ Region.ready md ops l, wpOp P ops Q i (fun a' w' => (S0 w' ∧ (E i = true → S1 w')) ∧ Till P md ops Q S0 S1 E k (l.setIfInBounds i true) a' w') a w
theorem till_any : ∀ (k : Nat) (l : Array Bool) (a : Act) (w : World), Till P md ops Q S0 S1 E k l a w → wpAny P md ops Q k l a w
  | 0, _, _, _, h => h
  | k + 1, _, _, _, h => ⟨h.1, fun i hi => wpOp_mono (fun a' w' g => till_any k _ a' w' g.2) (h.2 i hi)⟩
theorem not_waited {i : Nat} {oj : Oper} {l : Array Bool} (hi : l.getD i true = false) (hall : ∀ e ∈ oj.after, Region.binds md e = true → l.getD e.on false = true) :
    ∀ e ∈ oj.after, Region.binds md e = true → e.on ≠ i := fun e he hb hon => by
  have h1 := hall e he hb
  rw [hon] at h1
  rcases Nat.lt_or_ge i l.size with h | h
  · simp [h] at hi h1
    rw [hi] at h1
    cases h1
  · simp [Array.getElem?_eq_none h] at h1
theorem till_first {T : World → Prop} {i : Nat} {oi : Oper} {v : Value} (hi : ops[i]? = some oi) (hsel : ∀ (j : Nat) (o : Oper) cs b, ops[j]? = some o → o.op ≠ .select cs b)
    (hQ : ∀ c a w, Q (.panic c) (a.put oi.dst v) w → Q (.panic c) a w) (k : Nat) :
    ∀ (l : Array Bool) (a : Act) (w : World),
      (∀ j oj, ops[j]? = some oj → j ≠ i → l.getD j true = false → (∀ e ∈ oj.after, Region.binds md e = true → e.on ≠ i) → oi.apart ops oj = true) →
      (∀ j oj w, ops[j]? = some oj → l.getD j true = false → (∀ e ∈ oj.after, Region.binds md e = true → e.on ≠ i) → S0 w → (E j = true → S1 w) → T w ∧ (E i = true → S1 w)) →
      i ∈ Region.ready md ops l → YieldsIf P ops T oi v a → T w → S0 w → (E i = true → S1 w) →
      Till P md ops Q S0 S1 E k (l.setIfInBounds i true) (a.put oi.dst v) w → Till P md ops Q S0 S1 E (k + 1) l a w := by
  induction k with
  | zero =>
    intro l a w _ _ hr hy hT h0 h1 H
    refine ⟨fun h => (by rw [h] at hr; cases hr), fun j hj => ?_⟩
    rcases Decidable.em (j = i) with rfl | hne
    · exact hy.wpOp hi hT ⟨⟨h0, h1⟩, H⟩
    · have h0 := ready_mono hj hne
      rw [H.1] at h0
      cases h0
  | succ k ih =>
    intro l a w hfree hkeep hr hy hT h0 h1 H
    refine ⟨fun h => (by rw [h] at hr; cases hr), fun j hj => ?_⟩
    rcases Decidable.em (j = i) with rfl | hne
    · exact hy.wpOp hi hT ⟨⟨h0, h1⟩, H⟩
    · obtain ⟨hjun, oj, hoj, hall⟩ := mem_ready.1 hj
      have hno := not_waited (md := md) (mem_ready.1 hr).1 hall
      have h2 := wpOp_putIf hoj (hfree j oj hoj hne hjun hno) (fun cs b => hsel i oi cs b hi) (fun cs b => hsel j oj cs b hoj) hQ hy (H.2 j (ready_mono hj hne))
      refine wpOp_mono (fun a' w' h3 => ?_) h2
      obtain ⟨hy', ⟨g0, g1⟩, hW⟩ := h3
      obtain ⟨gT, gi⟩ := hkeep j oj w' hoj hjun hno g0 g1
      have back : ∀ m, (l.setIfInBounds j true).getD m true = false → l.getD m true = false := fun m hun => by
        rcases Decidable.em (j = m) with rfl | hjm
        · exact hjun
        · rw [getD_set_ne true hjm] at hun; exact hun
      refine ⟨⟨g0, g1⟩, ih (l.setIfInBounds j true) a' w' (fun m om hm hmi hun hnm => hfree m om hm hmi (back m hun) hnm) (fun m om w hm hun hnm => hkeep m om w hm (back m hun) hnm) (ready_mono hr (Ne.symm hne)) hy' gT g0 gi ?_⟩
      rw [Array.setIfInBounds_comm _ _ hne]
      exact hW
def lateB (md : Region.Mode) (ops : Array Oper) (E : Nat → Bool) (l : Array Bool) (i : Nat) : Bool :=
  (List.range ops.size).all fun j => l.getD j true || E j || match ops[j]? with | some oj => oj.after.any (fun e => Region.binds md e && e.on == i) | none => false
theorem till_take {i : Nat} {oi : Oper} {v : Value} {k : Nat} {l : Array Bool} {a : Act} {w : World} (hi : ops[i]? = some oi)
    (hs : Region.noSelect ops = true) (hf : Region.free md ops l i = true) (hr : (Region.ready md ops l).contains i = true) (hl : lateB md ops E l i = true)
    (hQ : ∀ c a w, Q (.panic c) (a.put oi.dst v) w → Q (.panic c) a w) (hy : YieldsIf P ops (fun w => S0 w ∧ S1 w) oi v a) (h0 : S0 w) (h1 : S1 w)
    (h : Till P md ops Q S0 S1 E k (l.setIfInBounds i true) (a.put oi.dst v) w) : Till P md ops Q S0 S1 E (k + 1) l a w := by
  refine till_first hi (Region.noSelect_spec hs) hQ k l a w (Region.free_spec hi hf) (fun j oj w' hoj hun hno g0 g1 => ?_) (by simpa using hr) hy ⟨h0, h1⟩ h0 (fun _ => h1) h
  have hlt := (Array.getElem?_eq_some_iff.1 hoj).1
  have h9 := List.all_eq_true.1 hl j (List.mem_range.2 hlt)
  rw [hun, Bool.false_or, hoj, Bool.or_eq_true] at h9
  rcases h9 with h9 | h9
  · exact ⟨⟨g0, g1 h9⟩, fun _ => g1 h9⟩
  · obtain ⟨e, he, hb⟩ := Array.any_eq_true'.1 h9
    simp only [Bool.and_eq_true, beq_iff_eq] at hb
    exact absurd hb.2 (hno e he hb.1)
theorem till_take0 {i : Nat} {oi : Oper} {v : Value} {k : Nat} {l : Array Bool} {a : Act} {w : World} (hi : ops[i]? = some oi) (hE : E i = false)
    (hs : Region.noSelect ops = true) (hf : Region.free md ops l i = true) (hr : (Region.ready md ops l).contains i = true)
    (hQ : ∀ c a w, Q (.panic c) (a.put oi.dst v) w → Q (.panic c) a w) (hy : YieldsIf P ops S0 oi v a) (h0 : S0 w)
    (h : Till P md ops Q S0 S1 E k (l.setIfInBounds i true) (a.put oi.dst v) w) : Till P md ops Q S0 S1 E (k + 1) l a w :=
  till_first hi (Region.noSelect_spec hs) hQ k l a w (Region.free_spec hi hf) (fun j oj w' _ _ _ g0 _ => ⟨g0, fun h => (by rw [hE] at h; cases h)⟩) (by simpa using hr) hy h0 h0 (fun h => (by rw [hE] at h; cases h)) h
theorem till_all {rs : List Nat} {k : Nat} {l : Array Bool} {a : Act} {w : World} (hr : Region.ready md ops l = rs) (hne : rs ≠ [])
    (h : ∀ i ∈ rs, wpOp P ops Q i (fun a' w' => (S0 w' ∧ (E i = true → S1 w')) ∧ Till P md ops Q S0 S1 E k (l.setIfInBounds i true) a' w') a w) : Till P md ops Q S0 S1 E (k + 1) l a w :=
  ⟨fun h0 => absurd (hr ▸ h0) hne, hr ▸ h⟩
theorem till_done {l : Array Bool} {a : Act} {w : World} (hr : Region.ready md ops l = []) (h : Q .normal a w) : ∀ k, Till P md ops Q S0 S1 E k l a w
  | 0 => ⟨hr, h⟩
  | _ + 1 => ⟨fun _ => h, by rw [hr]; simp⟩
theorem region_till {id : Nat} {a : Act} {w : World} (hm : P.follows .mixedOrders = true)
    (h : Till P .any ops Q S0 S1 E ops.size (Array.replicate ops.size false) a { w with drawn := w.drawn + 1 }) : (Code.region id ops true).wp P Q a w :=
  wp_region_any hm (till_any _ _ _ _ h)
end
end Go.Proofs.YtgnagbbdnlmgeaaGreat.Wc
end
