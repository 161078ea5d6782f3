/- Parts of the proof, one behind the other: Yb, El. -/
import Derived.Test.YtgnagbbdnlmgeaaGreatL20
import Derived.Test.YtgnagbbdnlmgeaaGreatL18
import Derived.OwnWalk
set_option linter.unusedVariables false
set_option linter.unusedSimpArgs false
set_option linter.unusedSectionVars false
section
set_option maxHeartbeats 4000000
set_option maxRecDepth 100000
namespace Go.Proofs.YtgnagbbdnlmgeaaGreat.Cm
open Go Go.RowKit
open Rr Ob Ba Ko Ge Oc Pk Su Rf Dv Vo Ra Jh Tr Iq Bm In Je Lo
theorem scanR_succ (n s : Nat) (sl : Int → Option Tri) (inf : Int → Option (Int × Int × Int)) (k i : Nat) (st : Rt) : scanR n s sl inf (k + 1) i st = match stepR n s sl inf i st with
    | none => none
    | some st' => scanR n s sl inf k (i + 1) st' := rfl
theorem addR_next {S l : List Int} {j : Nat} {x : Int} (hx : l[j]? = some x) : addR S (l.drop j) = if x ∈ S then none else addR (S ++ [x]) (l.drop (j + 1)) := by
  obtain ⟨h1, h2⟩ := List.getElem?_eq_some_iff.1 hx
  rw [List.drop_eq_getElem_cons h1, h2]
  rfl
theorem Zw.plus {W wr : World} {n : Nat} {V : Array Value} {c5 c6 v1 v2 : Value} {S B : List Int} {di dc es : List Own} {e : Own} (h : Zw W wr n V c5 c6 v1 v2 S B di dc es) (he : Ea wr (W.heap.size + 3) c5 c6 e) : Zw W wr n V c5 c6 v1 v2 S B di dc (es ++ [e]) :=
  ⟨h.bl, h.vol, h.res, h.box, h.s, h.b, h.ap, h.ins, h.chs, fun x hx => by
    rcases List.mem_append.1 hx with h9 | h9
    · exact h.each x h9
    · obtain rfl : x = e := by simpa using h9
      exact he⟩
theorem Zw.farI {W wr w7 : World} {n : Nat} {V : Array Value} {c5 c6 v1 v2 : Value} {S B : List Int} {di dc es : List Own} (h : Zw W wr n V c5 c6 v1 v2 S B di dc es) (hg : wr.grownBy w7 v1.ownBlock) {k : Nat} {cur : Array Value} {T' : Nat} {fr : Nat × Nat} (hk : wr.heap[k]? = some (.cells cur T' fr)) (hT : 47 ≠ T') : w7.heap[k]? = some (.cells cur T' fr) := grown_blk hg hk (ne_type h.ins hk hT)
theorem apart_lies {v : Value} {g ln cap H : Nat} (h : v.ownBlock = some g ∨ g = H) : (Value.slice (some ⟨g, 0, none⟩) ln cap).ownBlock = v.ownBlock ∨ (Value.slice (some ⟨g, 0, none⟩) ln cap).ownBlock = some H := by
  rcases h with h | h
  · exact .inl h.symm
  · exact .inr (by rw [h]; rfl)
def ScanIs (W w' : World) (n : Nat) (o : Ending) : Option Rt → Prop
  | none => o = .returned (.tuple #[.agg #[.int .i64 0, .slice none 0 0, .slice none 0 0], .bool false])
  | some rt => ∃ IA ic CA cc ds, o = .returned (.tuple #[.agg #[.int .i64 n, .slice IA ds.length ic, .slice CA ds.length cc], .bool true]) ∧ Dm w' IA CA ds ∧ ds.map Own.dat = rt.2.2
theorem zw_start (W : World) (n : Nat) (V : Array Value) :
    Zw W (((W.alloc (.cells V 30)).alloc (.cells #[.int .i64 0, .slice none 0 0, .slice none 0 0] 125)).alloc (.cells #[.int .i64 n, .slice none 0 0, .slice none 0 0] 125)) n V (.slice none 0 0) (.slice none 0 0) (.slice none 0 0) (.slice none 0 0) [] [] [] [] [] := by
  obtain ⟨q1, q2, q3⟩ := three_new W (.cells V 30) (.cells #[.int .i64 0, .slice none 0 0, .slice none 0 0] 125) (.cells #[.int .i64 n, .slice none 0 0, .slice none 0 0] 125)
  exact ⟨bl_alloc (bl_alloc (bl_alloc (Below.refl _ _) _) _) _, q1, q2, q3, own_nil0 _ _ _ _, own_nil0 _ _ _ _, fun k hk => (by cases hk), own_nil0 _ _ _ _, own_nil0 _ _ _ _, fun e he => (by cases he)⟩
theorem appI_ {W wC w7 : World} {n nb' ns' i d : Nat} {V : Array Value} {A5 A6 A1 A2 A7 : Option Addr} {k5 k6 k1 k2 k7 q10 : Nat} {S B : List Int} {es : List Own} {x y z : Int} {CA CB : Option Addr} {cc cd : Nat} {L : List (Int × Tri)} {E : Own} (hB : B.length = nb')
    (h : Zw W wC n V (.slice A5 nb' k5) (.slice A6 ns' k6) (.slice A1 i k1) (.slice A2 i k2) S B es es (es ++ [E])) (hl : es.length = i) (o : Obj) (hq : wC.heap[q10]? = some (.cells #[.slice CA d cc, .slice CB d cd] 100 (0, 0)))
    (ho : w7.ownsRow (W.heap.size + 3) 47 3 (.slice A7 (i + 1) k7) (i + 1) (tvs (es.map Own.tri) ++ [.int .i64 x, .int .i64 y, .int .i64 z])) (hg : (wC.alloc o).grownBy w7 (Value.slice A1 i k1).ownBlock) (hE : E = ⟨x, y, z, CA, cc, CB, cd, L⟩) :
    w7.heap[W.heap.size + 2]? = some (.cells #[.int .i64 n, .slice A1 i k1, .slice A2 i k2] 125 (0, 0)) ∧ w7.heap[q10]? = some (.cells #[.slice CA d cc, .slice CB d cd] 100 (0, 0)) ∧
    Zw W (w7.setCell ⟨W.heap.size + 2, 1, none⟩ (.slice A7 (i + 1) k7)) n V (.slice A5 nb' k5) (.slice A6 ns' k6) (.slice A7 (i + 1) k7) (.slice A2 i k2) S B (es ++ [E]) es (es ++ [E]) ∧
    ∀ v o, ((w7.setCell ⟨W.heap.size + 2, 1, none⟩ v).alloc o).ownsRow (W.heap.size + 3) 100 2 (.slice A2 i k2) i (cvs es) := by
  have hz := h.keep (bl_alloc (Below.refl _ _) o)
  obtain ⟨r1, -, r3⟩ := hz.appI (e := E) hg (by rw [hl, hE]; exact ho)
  refine ⟨r1, hz.farI hg (alloc_old hq _) (by decide), r3, fun v o' => ?_⟩
  have h1 := own_grownT hz.ins hg hz.chs (by decide)
  rw [hl] at h1
  exact own_kp (own_set1 h1 (by omega)) (fun k _ hk => Below.heap_alloc _ _ k hk)
theorem appC_ {W w7 w9 : World} {n i d : Nat} {V : Array Value} {c5 c6 : Value} {A2 A7 A10 : Option Addr} {k2 k7 k10 : Nat} {S B : List Int} {es : List Own} {x y z : Int} {CA CB : Option Addr} {cc cd : Nat} {L : List (Int × Tri)} {E : Own}
    (h : Zw W w7 n V c5 c6 (.slice A7 (i + 1) k7) (.slice A2 i k2) S B (es ++ [E]) es (es ++ [E])) (hl : es.length = i) (o : Obj)
    (ho : w9.ownsRow (W.heap.size + 3) 100 2 (.slice A10 (i + 1) k10) (i + 1) (cvs es ++ [.slice CA d cc, .slice CB d cd])) (hg : (w7.alloc o).grownBy w9 (Value.slice A2 i k2).ownBlock) (hE : E = ⟨x, y, z, CA, cc, CB, cd, L⟩) (hd : d = L.length) :
    w9.heap[W.heap.size + 2]? = some (.cells #[.int .i64 n, .slice A7 (i + 1) k7, .slice A2 i k2] 125 (0, 0)) ∧
    Zw W (w9.setCell ⟨W.heap.size + 2, 2, none⟩ (.slice A10 (i + 1) k10)) n V c5 c6 (.slice A7 (i + 1) k7) (.slice A10 (i + 1) k10) S B (es ++ [E]) (es ++ [E]) (es ++ [E]) := by
  have hz := h.keep (bl_alloc (Below.refl _ _) o)
  exact hz.appC (e := E) hg (by rw [hl, hE, ← hd]; exact ho)
theorem r17scan_ {W : World} {a8 : Addr} {ws : List Nat} {T c8 n m s : Nat} (hr : Rk .u64 W (some a8) (Oc.ints ws)) (hT : ws.length = T) (hc : T ≤ c8) (hlt : ∀ x ∈ ws, x < 18446744073709551616) (hT9 : T ≤ 1000000) (hfit : 16 + 8 * m + n ≤ T) (hn : n ≤ 24) (hm : m ≤ 24) (hs : s = 64 ∨ s = 128) (p3 p4 p5 : Int) :
    Calls Tryz.prog 60 #[.agg #[.int .i64 n, .int .i64 m, .int .i64 s, .int .i64 16, .int .i64 (16 + 8 * (m : Int)), .int .i64 p3, .int .i64 p4, .int .i64 p5, .slice (some a8) T c8]] W fun o w' =>
      ScanIs W w' n o (scanR n s (slF ws n m) (inF ws m) m 0 ([], [], [])) ∧ Below W.heap.size W w' := by
  have hu := Tryz.underlying100
  have hu2 := Tryz.underlying47
  have hu3 := Tryz.underlying30
  have hu4 := Tryz.underlying125
  obtain ⟨z1, hi1, hz10, hz11, hz12⟩ := info_parts info_int
  obtain ⟨zI, hiI, hzI0, hzI1, hzI2⟩ := info_parts (show (Tryz.prog.info? 47).map (fun i => (i.zero, i.size, i.bytes)) = some (some (.agg #[.int .i64 0, .int .i64 0, .int .i64 0]), 3, 24) by kernel_rfl)
  obtain ⟨zC, hiC, hzC0, hzC1, hzC2⟩ := info_parts (show (Tryz.prog.info? 100).map (fun i => (i.zero, i.size, i.bytes)) = some (some (.agg #[.slice none 0 0, .slice none 0 0]), 2, 48) by kernel_rfl)
  have HIN : Hid (∀ {W' : World} (i : Nat), i < m → Below W.heap.size W W' → _) := fun {W'} i hi hb => rin_call (hr.below hb) hT hc hlt hT9 hfit s p3 p4 p5 i hi
  have HRD : Hid (∀ {W' : World} (h : Int), Below W.heap.size W W' → _) := fun {W'} h hb => rread_ (hr.below hb) hT hc hlt hT9 hfit s p3 p4 p5 h
  have HND : Hid (∀ (z : Int), ¬ (s : Int) * (n : Int) < z → ∀ w, _) := fun z hz w => rneed_ s hs z (by rcases hs with rfl | rfl <;> omega) w
  have HMAY : Hid (∀ i t, slF ws n m i = some t → sMay t.1 t.2.1 t.2.2 = true ∧ 0 ≤ i ∧ i < n) := fun i t h => slF_may h
  have hsn0 : 0 ≤ (s : Int) * (n : Int) := Int.mul_nonneg (by omega) (by omega)
  have hsn1 : (s : Int) * (n : Int) ≤ 100000 := by rcases hs with rfl | rfl <;> omega
  generalize slF ws n m = sl at *
  generalize inF ws m = inf at *
  obtain ⟨R, hR⟩ : ∃ R, R = scanR n s sl inf m 0 ([], [], []) := ⟨_, rfl⟩
  rw [← hR]
  have HR0 := Lib.hid hR
  have hs9 : s ≤ 128 := by rcases hs with rfl | rfl <;> omega
  obtain ⟨V, hV⟩ : ∃ V : Array Value, V = #[.int .i64 n, .int .i64 m, .int .i64 s, .int .i64 16, .int .i64 (16 + 8 * (m : Int)), .int .i64 p3, .int .i64 p4, .int .i64 p5, .slice (some a8) T c8] := ⟨_, rfl⟩
  have HZ0 := Lib.hid (zw_start W n V)
  have HVV : Hid (∀ {wr : World}, wr.heap[W.heap.size]? = some (.cells V 30 (0, 0)) → wr.heap[W.heap.size]? = some (.cells #[.int .i64 n, .int .i64 m, .int .i64 s, .int .i64 16, .int .i64 (16 + 8 * (m : Int)), .int .i64 p3, .int .i64 p4, .int .i64 p5, .slice (some a8) T c8] 30 (0, 0))) := fun {wr} h => by rw [← hV]; exact h
  have HV := Lib.hid hV
  clear hr hT hc hlt hT9 hfit hs hR hV
  go_enter Tryz.func60, Tryz.ntmps60
  go_wp2_with fail
  go_loopw [22, 5, 6] (fun c22 c5 c6 wr => ∃ (i nb ns k5 k6 : Nat) (A5 A6 : Option Addr), i ≤ m ∧ c22 = .int .i64 i ∧ c5 = .slice A5 nb k5 ∧ c6 = .slice A6 ns k6 ∧ nb ≤ i * 2000000 ∧ ns ≤ i * 2000000 ∧
    Hid (∃ (S B : List Int) (es : List Own) (A1 A2 : Option Addr) (k1 k2 : Nat), R = scanR n s sl inf (m - i) i (S, B, es.map Own.dat) ∧ S.length = ns ∧ B.length = nb ∧ es.length = i ∧ Zw W wr n V c5 c6 (.slice A1 i k1) (.slice A2 i k2) S B es es es)) (fun c22 _ _ _ => m - (intOf c22).toNat)
  case atStart => exact ⟨0, 0, 0, 0, 0, none, none, Nat.zero_le _, rfl, rfl, rfl, Nat.zero_le _, Nat.zero_le _, [], [], [], none, none, 0, 0, HR0.out, rfl, rfl, rfl, by have h9 := HZ0.out; rw [HV.out] at h9; rw [HV.out]; exact h9⟩
  case round =>
    obtain ⟨i, nb, ns, k5, k6, A5, A6, hi, rfl, rfl, rfl, hnb, hns, HI⟩ := hrel
    generalize wr = wA at *
    obtain ⟨S, B, es, A1, A2, k1, k2, r1, r2, r3, r4, r5⟩ := HI.out
    by_cases hlt : i < m
    rotate_left
    · obtain rfl : i = m := by omega
      have hbx := r5.box
      have hrs := r5.res
      have b0 := cell_of hbx 0
      have b1 := cell_of hbx 1
      have b2 := cell_of hbx 2
      have m0 := cell_of hrs 0
      have m1 := cell_of hrs 1
      have m2 := cell_of hrs 2
      have f0 := free_of hrs 0
      have f1 := free_of hrs 1
      have f2 := free_of hrs 2
      have HR5 := Lib.hid (And.intro r1 (And.intro r4 r5))
      clear r1 r2 r3 r4 r5 HI hbx hrs
      go_wp2_with fail
      refine bodyPost_ret (res_ct (u := 3) rfl _ _ (W.heap.size + 1) 125 #[.int .i64 n, .slice A1 i k1, .slice A2 i k2] (0, 0) _ rfl (put3 HR5.out.2.2.res _ _ _) hu4 rfl (by kernel_rfl)) rfl ⟨?_, bl_set (bl_set (bl_set HR5.out.2.2.bl (by omega) _) (by omega) _) (by omega) _⟩
      obtain ⟨r1, r4, r5⟩ := HR5.out
      rw [Nat.sub_self] at r1
      rw [r1]
      refine ⟨A1, k1, A2, k2, es, by rw [r4]; rfl, ?_, rfl⟩
      subst r4
      exact r5.dm (fun k hk => (Below.heap_setCell _ _ _ k (fun e => by have : k = W.heap.size + 1 := e; omega)).trans ((Below.heap_setCell _ _ _ k (fun e => by have : k = W.heap.size + 1 := e; omega)).trans (Below.heap_setCell wA _ _ k (fun e => by have : k = W.heap.size + 1 := e; omega))))
    obtain ⟨j, hj⟩ : ∃ j, m - i = j + 1 := ⟨m - i - 1, by omega⟩
    have HJ : Hid (m - (i + 1) = j) := by show _ = _; omega
    rw [hj] at r1
    have HIC := Lib.hid (HIN.out (W' := wA) i hlt r5.bl)
    have hq := HVV.out r5.vol
    have m0 := cell_of hq 0
    have m1 := cell_of hq 1
    have m2 := cell_of hq 2
    have m3 := cell_of hq 3
    have m4 := cell_of hq 4
    have m5 := cell_of hq 5
    have m6 := cell_of hq 6
    have m7 := cell_of hq 7
    have m8 := cell_of hq 8
    have HZ := Lib.hid r5
    have HR1 := Lib.hid r1
    have HLS := Lib.hid (And.intro r2 (And.intro r3 r4))
    clear hj r1 r2 r3 r4 r5 HI hq
    go_wp2_with fail
    refine HIC.out.mono ?_
    rintro e w2 ⟨rfl, hb2⟩
    have HZ2 := Lib.hid (HZ.out.keep hb2)
    clear hb2 m0 m1 m2 m3 m4 m5 m6 m7 m8
    cases ht : inf (i : Int) with
    | none =>
      have hRn : R = none := by rw [HR1.out]; unfold scanR stepR; rw [ht]
      subst hRn
      have hrs := HZ2.out.res
      have m0 := cell_of hrs 0
      have m1 := cell_of hrs 1
      have m2 := cell_of hrs 2
      have f0 := free_of hrs 0
      have f1 := free_of hrs 1
      have f2 := free_of hrs 2
      have hlt9 := lt_of hrs
      rw [show inV none = (0, -1, 0) from rfl, show (none : Option (Int × Int × Int)).isSome = false from rfl]
      clear hrs ht
      go_wp2_with fail
      exact bodyPost_ret (res_ct (u := 3) rfl _ _ (W.heap.size + 1) 125 #[.int .i64 0, .slice none 0 0, .slice none 0 0] (0, 0) _ rfl (alloc_old (put3 HZ2.out.res _ _ _) _) hu4 rfl (by kernel_rfl)) rfl ⟨rfl, bl_alloc (bl_set (bl_set (bl_set HZ2.out.bl (by omega) _) (by omega) _) (by omega) _) _⟩
    | some t =>
    obtain ⟨x, y, z⟩ := t
    rw [show inV (some (x, y, z)) = (x, y, z) from rfl, show (some (x, y, z) : Option (Int × Int × Int)).isSome = true from rfl]
    obtain ⟨W3, hW3⟩ : ∃ W3, W3 = w2.alloc (.cells #[.int .i64 x, .int .i64 y, .int .i64 z] 47) := ⟨_, rfl⟩
    have hbw : Below w2.heap.size w2 W3 := by rw [hW3]; exact bl_alloc (Below.refl _ _) _
    have HQ8 : Hid (W3.heap[w2.heap.size]? = some (.cells #[.int .i64 x, .int .i64 y, .int .i64 z] 47 (0, 0))) := by rw [hW3]; exact alloc_new _ _
    have HZ3 := Lib.hid (HZ2.out.keep hbw)
    have HRC := Lib.hid (HRD.out (W' := W3) y HZ3.out.bl)
    have hq := HVV.out HZ3.out.vol
    rw [hW3] at hq
    have m0 := cell_of hq 0
    have m1 := cell_of hq 1
    have m2 := cell_of hq 2
    have m3 := cell_of hq 3
    have m4 := cell_of hq 4
    have m5 := cell_of hq 5
    have m6 := cell_of hq 6
    have m7 := cell_of hq 7
    have m8 := cell_of hq 8
    have HT := Lib.hid ht
    clear ht hbw hq
    go_wp2_with fail
    rw [← hW3]
    clear hW3 m0 m1 m2 m3 m4 m5 m6 m7 m8
    generalize w2.heap.size = q8 at *
    refine HRC.out.mono ?_
    rintro e w4 ⟨hso, hno, hb4⟩
    have HZ4 := Lib.hid (HZ3.out.keep hb4)
    have HQ4 := Lib.hid (blk_bl HQ8.out hb4)
    cases hch : chainF n sl n y with
    | none =>
      obtain rfl := hno hch
      have hRn : R = none := by rw [HR1.out]; unfold scanR stepR; rw [HT.out]; simp only; rw [hch]
      subst hRn
      have HBK : Hid (∀ {W' : World}, _) := fun {W'} => rblocks_ (w := W') (A := none) (B := none) (l := []) (fun i p hi => by simp at hi) 0 0 0 (by simp) (by simp)
      have HB4 := Lib.hid HZ4.out.bl
      have hsz4 := HZ4.out.lt
      clear hso hno hch hb4
      go_wp2_with fail
      refine HBK.out.mono ?_
      rintro e w5 ⟨v5, rfl, ho5, hb5⟩
      have hrs := blk_bl (alloc_old HZ4.out.res _) hb5
      have m0 := cell_of hrs 0
      have m1 := cell_of hrs 1
      have m2 := cell_of hrs 2
      have f0 := free_of hrs 0
      have f1 := free_of hrs 1
      have f2 := free_of hrs 2
      have HX := Lib.hid (And.intro hrs (bl_then (bl_alloc HB4.out _) hb5))
      clear hrs ho5 hb5
      go_wp2_with fail
      exact bodyPost_ret (res_ct (u := 3) rfl _ _ (W.heap.size + 1) 125 #[.int .i64 0, .slice none 0 0, .slice none 0 0] (0, 0) _ rfl (put3 HX.out.1 _ _ _) hu4 rfl (by kernel_rfl)) rfl ⟨rfl, bl_set (bl_set (bl_set HX.out.2 (by omega) _) (by omega) _) (by omega) _⟩
    | some L =>
    obtain ⟨CA, cc, CB, cd, rfl, hi4, ht4⟩ := hso L hch
    have hLn := chainF_len n y L hch
    have hTT : ∀ t ∈ L.map Prod.snd, 0 ≤ t.1 ∧ t.1 ≤ 65534 ∧ 0 ≤ t.2.1 ∧ t.2.1 ≤ 65534 := fun t ht => by
      obtain ⟨u, hu, rfl⟩ := List.mem_map.1 ht
      obtain ⟨i, hil, rfl⟩ := List.mem_iff_getElem.1 hu
      obtain ⟨-, h2, -, -⟩ := chainF_at n y L hch i _ (List.getElem?_eq_getElem hil)
      have := of_decide_eq_true (HMAY.out _ _ h2).1
      omega
    obtain ⟨E, hE⟩ : ∃ E : Own, E = ⟨x, y, z, CA, cc, CB, cd, L⟩ := ⟨_, rfl⟩
    have hEa : Ea w4 (W.heap.size + 3) (.slice A5 nb k5) (.slice A6 ns k6) E := by
      rw [hE]
      exact Ea.new HZ3.out.b HZ3.out.s HZ3.out.lt hi4 ht4
    obtain ⟨ll, hll⟩ : ∃ ll, ll = L.length := ⟨_, rfl⟩
    rw [← hll]
    rw [← hll] at hLn
    obtain ⟨W5, hW5⟩ : ∃ W5, W5 = w4.alloc (.cells #[.slice CA ll cc, .slice CB ll cd] 100) := ⟨_, rfl⟩
    have hbw : Below w4.heap.size w4 W5 := by rw [hW5]; exact bl_alloc (Below.refl _ _) _
    have HQ5 : Hid (W5.heap[w4.heap.size]? = some (.cells #[.slice CA ll cc, .slice CB ll cd] 100 (0, 0))) := by rw [hW5]; exact alloc_new _ _
    have HQ85 := Lib.hid (blk_bl HQ4.out hbw)
    have HZ5 : Hid (Zw W W5 n V (.slice A5 nb k5) (.slice A6 ns k6) (.slice A1 i k1) (.slice A2 i k2) S B es es (es ++ [E])) := (HZ4.out.plus hEa).keep hbw
    have HLT : Hid (W.heap.size + 2 < w4.heap.size) := lt_of HZ4.out.box
    obtain ⟨bl, hbl⟩ : ∃ bl, bl = blocksOf (L.map Prod.snd) := ⟨_, rfl⟩
    obtain ⟨bn, hbn⟩ : ∃ bn, bn = bl.length := ⟨_, rfl⟩
    have hbn9 : bn ≤ 1600000 := by
      have h9 := blocks_lenC (L.map Prod.snd)
      have h8 := sumR_in (runsOf (L.map Prod.snd)) (fun p hp => by
        simp only [runsOf, List.mem_map] at hp
        obtain ⟨t, ht, rfl⟩ := hp
        exact (hTT t (by simpa using ht)).2.2.2)
      have e9 : (runsOf (L.map Prod.snd)).length = ll := by simp [runsOf, hll]
      rw [h9, ← hbl, ← hbn, e9] at h8
      omega
    have HBK : Hid (Calls Tryz.prog 45 #[.agg #[.slice CA ll cc, .slice CB ll cd]] W5 fun e w' => ∃ A c, e = .returned (.slice A bn c) ∧ w'.ownsRow W5.heap.size 3 1 (.slice A bn c) bn (ivs .i64 bl) ∧ Below W5.heap.size W5 w') := by
      have hmem : E ∈ es ++ [E] := by simp
      have h8 := (HZ5.out.each E hmem).pt
      rw [hE] at h8
      have h9 := rblocks_ (A := CA) (l := L.map Prod.snd) (own_tr h8).1 L.length cc cd (by rw [List.length_map]; omega) hTT
      rw [List.length_map, ← hll, ← hbl, ← hbn] at h9
      refine h9.mono ?_
      rintro e w' ⟨v', rfl, ho, hb'⟩
      obtain ⟨A, c, rfl⟩ := own_slice ho
      exact ⟨A, c, rfl, ho, hb'⟩
    obtain ⟨nd, hnd⟩ : ∃ nd, nd = needF s z := ⟨_, rfl⟩
    have HNE : Hid (¬ (s : Int) * (n : Int) < z → ∀ w, Calls Tryz.prog 117 #[.int .i64 s, .int .i64 z] w fun e w' => e = .returned (.int .i64 nd) ∧ w' = w) := fun h w => by
      rw [hnd]
      exact HND.out z (Int.not_lt.1 h) w
    have HST : Hid (R = if (s : Int) * (n : Int) < z then none else if (bn : Int) ≠ nd then none else
        match addR S (L.map Prod.fst) with
        | none => none
        | some S' => match addR B bl with
          | none => none
          | some B' => scanR n s sl inf j (i + 1) (S', B', (es ++ [E]).map Own.dat)) := by
      show _ = _
      rw [HR1.out]
      have e9 : (es ++ [E]).map Own.dat = es.map Own.dat ++ [((x, y, z), L)] := by rw [List.map_append, hE]; rfl
      rw [e9]
      rw [scanR_succ]
      unfold stepR
      rw [HT.out]
      simp only
      rw [hch]
      simp only
      rw [← hbl, ← hbn, ← hnd]
      by_cases g1 : (s : Int) * (n : Int) < z
      · rw [if_pos g1, if_pos g1]
      rw [if_neg g1, if_neg g1]
      by_cases g2 : (bn : Int) ≠ nd
      · rw [if_pos g2, if_pos g2]
      rw [if_neg g2, if_neg g2]
      cases addR S (L.map Prod.fst) with
      | none => rfl
      | some S' =>
        simp only
        cases addR B bl with
        | none => rfl
        | some B' => rfl
    have HEL : Hid (E = ⟨x, y, z, CA, cc, CB, cd, L⟩ ∧ ll = L.length ∧ bn = bl.length) := ⟨hE, hll, hbn⟩
    clear hso hno hch hb4 hi4 ht4 hTT hEa hbw hE hll hbl hbn hnd HT HR1
    go_wp2_with fail
    rw [← hW5]
    clear hW5
    generalize w4.heap.size = q10 at *
    refine HBK.out.mono ?_
    rintro e w6 ⟨A9, c9, rfl, hr6, hb6⟩
    have HZ6 := Lib.hid (HZ5.out.keep hb6)
    have HQ86 := Lib.hid (blk_bl HQ85.out hb6)
    have HQ6 := Lib.hid (blk_bl HQ5.out hb6)
    have HBL : Hid (w6.ownsRow (W.heap.size + 3) 3 1 (.slice A9 bn c9) bn (ivs .i64 bl) ∧ apart (.slice A9 bn c9) (.slice A5 nb k5) ∧ apart (.slice A9 bn c9) (.slice A6 ns k6)) := ⟨own_base hr6 HZ5.out.lt, apart_new HZ5.out.b hr6, apart_new HZ5.out.s hr6⟩
    clear hb6 hr6
    have hq := HVV.out HZ6.out.vol
    have m0 := cell_of hq 0
    have m2 := cell_of hq 2
    have hq8 := HQ86.out
    have n2 := cell_of hq8 2
    have hrs := HZ6.out.res
    have o0 := cell_of hrs 0
    have o1 := cell_of hrs 1
    have o2 := cell_of hrs 2
    have f0 := free_of hrs 0
    have f1 := free_of hrs 1
    have f2 := free_of hrs 2
    have HRES : Hid (∀ {wr : World}, wr.heap[W.heap.size + 1]? = some (.cells #[.int .i64 0, .slice none 0 0, .slice none 0 0] 125 (0, 0)) → Below W.heap.size W wr → Below W.heap.size W (((wr.setCell ⟨W.heap.size + 1, 0, none⟩ (.int .i64 0)).setCell ⟨W.heap.size + 1, 1, none⟩ (.slice none 0 0)).setCell ⟨W.heap.size + 1, 2, none⟩ (.slice none 0 0))) := fun {wr} _ hb => bl_set (bl_set (bl_set hb (by omega) _) (by omega) _) (by omega) _
    clear hq hq8 hrs
    by_cases hbig : (s : Int) * (n : Int) < z
    · have hRn : R = none := by rw [HST.out, if_pos hbig]
      subst hRn
      go_wp2_with fail
      exact bodyPost_ret (res_ct (u := 3) rfl _ _ (W.heap.size + 1) 125 #[.int .i64 0, .slice none 0 0, .slice none 0 0] (0, 0) _ rfl (put3 HZ6.out.res _ _ _) hu4 rfl (by kernel_rfl)) rfl ⟨rfl, HRES.out HZ6.out.res HZ6.out.bl⟩
    have HNE2 := Lib.hid (HNE.out (Int.not_lt.1 hbig))
    rw [if_neg hbig] at HST
    clear HNE
    by_cases hne : (bn : Int) ≠ nd
    · have hRn : R = none := by rw [HST.out, if_pos hne]
      subst hRn
      have hb1 : ((bn : Int) != nd) = true := bne_iff_ne.2 hne
      clear hne
      go_wp2_with fail
      refine (HNE2.out _).mono ?_
      rintro e w7 ⟨rfl, hw7⟩
      obtain rfl : w6 = w7 := hw7.symm
      go_wp2_with fail
      exact bodyPost_ret (res_ct (u := 3) rfl _ _ (W.heap.size + 1) 125 #[.int .i64 0, .slice none 0 0, .slice none 0 0] (0, 0) _ rfl (put3 HZ6.out.res _ _ _) hu4 rfl (by kernel_rfl)) rfl ⟨rfl, HRES.out HZ6.out.res HZ6.out.bl⟩
    rw [if_neg hne] at HST
    have hb1 : ((bn : Int) != nd) = false := by simpa using hne
    have l0 := cell_of HQ6.out 0
    clear hne
    go_wp2_with fail
    refine (HNE2.out _).mono ?_
    rintro e w7 ⟨rfl, hw7⟩
    obtain rfl : w6 = w7 := hw7.symm
    go_wp2_with fail
    clear m0 m2 n2 o0 o1 o2 f0 f1 f2 l0 hw7 hb1 hbig HNE2
    have HS0 : Hid (addR S (L.map Prod.fst) = addR S ((L.map Prod.fst).drop 0)) := rfl
    go_loopw [69, 6] (fun c69 c6 wr => ∃ (d ns' k6' : Nat) (A6' : Option Addr), d ≤ ll ∧ c69 = .int .i64 d ∧ c6 = .slice A6' ns' k6' ∧ ns' ≤ ns + d ∧
      Hid (∃ S', addR S (L.map Prod.fst) = addR S' ((L.map Prod.fst).drop d) ∧ S'.length = ns' ∧ Zw W wr n V (.slice A5 nb k5) c6 (.slice A1 i k1) (.slice A2 i k2) S' B es es (es ++ [E]) ∧ wr.heap[q8]? = some (.cells #[.int .i64 x, .int .i64 y, .int .i64 z] 47 (0, 0)) ∧ wr.heap[q10]? = some (.cells #[.slice CA ll cc, .slice CB ll cd] 100 (0, 0)) ∧
        wr.ownsRow (W.heap.size + 3) 3 1 (.slice A9 bn c9) bn (ivs .i64 bl) ∧ apart (.slice A9 bn c9) c6)) (fun c69 _ _ => ll - (intOf c69).toNat)
    case atStart => exact ⟨0, ns, k6, A6, Nat.zero_le _, rfl, rfl, Nat.le_refl _, S, HS0.out, HLS.out.1, HZ6.out, HQ86.out, HQ6.out, HBL.out.1, HBL.out.2.2⟩
    case round =>
      obtain ⟨d, ns', k6', A6', hd, rfl, rfl, hns', HI⟩ := hrel
      generalize wr = wB at *
      obtain ⟨S', r1, r2, r3, r4, r5, r6, r7⟩ := HI.out
      have hrs := r3.res
      have o0 := cell_of hrs 0
      have o1 := cell_of hrs 1
      have o2 := cell_of hrs 2
      have f0 := free_of hrs 0
      have f1 := free_of hrs 1
      have f2 := free_of hrs 2
      by_cases hlt2 : d < ll
      · obtain ⟨u, hu9⟩ := some_at (l := L.map Prod.fst) (i := d) (by rw [List.length_map, ← HEL.out.2.1]; exact hlt2)
        have hEs := (r3.each E (by simp)).sl
        rw [HEL.out.1] at hEs
        obtain ⟨a, ha0, -, ha⟩ := (own_rk (k := .i64) hEs).1 d u hu9
        have ha0 : CA = some a := ha0
        subst ha0
        have hs9 := r3.s
        rw [r2] at hs9
        have hhas := rhas_ (own_rk (k := .i64) hs9).1 k6' (by rw [r2]; omega) u
        rw [r2] at hhas
        have hstep := addR_next (S := S') hu9
        rw [← r1] at hstep
        by_cases hm : u ∈ S'
        · rw [if_pos hm] at hstep
          have hRn : R = none := by rw [HST.out, hstep]
          subst hRn
          rw [decide_eq_true hm] at hhas
          have HH := Lib.hid hhas
          have HRS := Lib.hid (And.intro r3.res r3.bl)
          clear hm hstep hhas r1 r2 r3 r4 r5 r6 r7 HI hrs hEs hu9
          go_wp2_with fail
          refine HH.out.mono ?_
          rintro e w8 ⟨rfl, hw8⟩
          obtain rfl : wB = w8 := hw8.symm
          clear hw8
          go_wp2_with fail
          exact bodyPost_ret (res_ct (u := 3) rfl _ _ (W.heap.size + 1) 125 #[.int .i64 0, .slice none 0 0, .slice none 0 0] (0, 0) _ rfl (put3 HRS.out.1 _ _ _) hu4 rfl (by kernel_rfl)) rfl ⟨rfl, HRES.out HRS.out.1 HRS.out.2⟩
        · rw [if_neg hm] at hstep
          rw [decide_eq_false hm] at hhas
          have HH := Lib.hid hhas
          have HOS : Hid (∀ o, (wB.alloc o).ownsRow (W.heap.size + 3) 3 1 (.slice A6' ns' k6') ns' (ivs .i64 S')) := fun o => by have h9 := r3.s; rw [r2] at h9; exact own_kp h9 (fun k _ hk => Below.heap_alloc _ _ k hk)
          have hsz : Hid (W.heap.size + 3 ≤ wB.heap.size) := r3.lt
          have HK := Lib.hid (And.intro hstep (And.intro r2 (And.intro r3 (And.intro r4 (And.intro r5 (And.intro r6 r7))))))
          clear hm hstep hhas r1 r2 r3 r4 r5 r6 r7 HI hrs hEs hu9
          go_wp2_with fail
          refine HH.out.mono ?_
          rintro e w8 ⟨rfl, hw8⟩
          obtain rfl : wB = w8 := hw8.symm
          clear hw8
          go_wp2_with (at_builtin; refine wpList_append_lies _ rfl (.tmp 77) (.tmp 79) 79 rfl (W.heap.size + 3) 3 z1 (.int .i64 0) 1 8 Tryz.underlying79 hi1 hz10 hz11 hz12 rfl (by decide) _ ns' _ rfl (HOS.out _) ⟨wB.heap.size, 0, none⟩ 1 1 [.int .i64 u] rfl rfl (one_at _ _ _) (by intro v hv; simp at hv; subst hv; rfl) (by decide) (by unfold maxLen; omega) (by omega) (by have h1 := hsz.out; simp; omega) (wB.alloc (.cells #[.int .i64 u] 3)).heap.size rfl ?_; intro g7 k7 w7 hown7 hgrow7 hlie7 hlt7; (have HO7 := Lib.hid hown7); (have HG7 := Lib.hid hgrow7); (have HL7 := Lib.hid hlie7); clear hown7 hgrow7 hlie7 hlt7)
          have HN : Hid (addR S (L.map Prod.fst) = addR (S' ++ [u]) ((L.map Prod.fst).drop (d + 1)) ∧ (S' ++ [u]).length = ns' + 1 ∧ Zw W w7 n V (.slice A5 nb k5) (.slice (some ⟨g7, 0, none⟩) (ns' + 1) k7) (.slice A1 i k1) (.slice A2 i k2) (S' ++ [u]) B es es (es ++ [E]) ∧ w7.heap[q8]? = some (.cells #[.int .i64 x, .int .i64 y, .int .i64 z] 47 (0, 0)) ∧ w7.heap[q10]? = some (.cells #[.slice (some a) ll cc, .slice CB ll cd] 100 (0, 0)) ∧
              w7.ownsRow (W.heap.size + 3) 3 1 (.slice A9 bn c9) bn (ivs .i64 bl) ∧ apart (.slice A9 bn c9) (.slice (some ⟨g7, 0, none⟩) (ns' + 1) k7)) := by
            obtain ⟨s1, s2, s3, s4, s5, s6, s7⟩ := HK.out
            have hz := s3.keep (bl_alloc (Below.refl _ _) (.cells #[.int .i64 u] 3))
            have hap := ap_grow (v' := .slice (some ⟨g7, 0, none⟩) (ns' + 1) k7) (own_kp (W' := wB.alloc _) s6 (fun k _ hk => Below.heap_alloc _ _ k hk)) s7 HG7.out (apart_lies HL7.out)
            exact ⟨s1, by simp [s2], hz.app6 HG7.out (by rw [s2]; exact HO7.out) (apart_lies HL7.out), hz.far6 HG7.out (alloc_old s4 _) (by decide), hz.far6 HG7.out (alloc_old s5 _) (by decide), hap.1, hap.2⟩
          go_roundw
          case rel => exact ⟨d + 1, ns' + 1, k7, some ⟨g7, 0, none⟩, by omega, by go_num, rfl, by omega, S' ++ [u], HN.out⟩
          case measure => simp [intOf]; omega
      obtain rfl : d = ll := by omega
      have hS9 : addR S (L.map Prod.fst) = some S' := by rw [r1, List.drop_of_length_le (by rw [List.length_map, ← HEL.out.2.1]; exact Nat.le_refl _)]; rfl
      rw [hS9] at HST
      have HST2 : Hid (R = match addR B bl with | none => none | some B' => scanR n s sl inf j (i + 1) (S', B', (es ++ [E]).map Own.dat)) := HST.out
      have HK := Lib.hid (And.intro r2 (And.intro r3 (And.intro r4 (And.intro r5 (And.intro r6 r7)))))
      have HB0 : Hid (addR B bl = addR B (bl.drop 0)) := rfl
      clear r1 r2 r3 r4 r5 r6 r7 HI hrs hS9 HST
      go_wp2_with fail
      clear o0 o1 o2 f0 f1 f2
      go_loopw [84, 5] (fun c84 c5 wr => ∃ (b nb' k5' : Nat) (A5' : Option Addr), b ≤ bn ∧ c84 = .int .i64 b ∧ c5 = .slice A5' nb' k5' ∧ nb' ≤ nb + b ∧
        Hid (∃ B', addR B bl = addR B' (bl.drop b) ∧ B'.length = nb' ∧ Zw W wr n V c5 (.slice A6' ns' k6') (.slice A1 i k1) (.slice A2 i k2) S' B' es es (es ++ [E]) ∧ wr.heap[q8]? = some (.cells #[.int .i64 x, .int .i64 y, .int .i64 z] 47 (0, 0)) ∧ wr.heap[q10]? = some (.cells #[.slice CA d cc, .slice CB d cd] 100 (0, 0)) ∧
          wr.ownsRow (W.heap.size + 3) 3 1 (.slice A9 bn c9) bn (ivs .i64 bl) ∧ apart (.slice A9 bn c9) c5)) (fun c84 _ _ => bn - (intOf c84).toNat)
      case atStart => exact ⟨0, nb, k5, A5, Nat.zero_le _, rfl, rfl, Nat.le_refl _, B, HB0.out, HLS.out.2.1, HK.out.2.1, HK.out.2.2.1, HK.out.2.2.2.1, HK.out.2.2.2.2.1, HBL.out.2.1⟩
      case round =>
        obtain ⟨b, nb', k5', A5', hb, rfl, rfl, hnb', HI⟩ := hrel
        generalize wr = wC at *
        obtain ⟨B', r1, r2, r3, r4, r5, r6, r7⟩ := HI.out
        have hrs := r3.res
        have o0 := cell_of hrs 0
        have o1 := cell_of hrs 1
        have o2 := cell_of hrs 2
        have f0 := free_of hrs 0
        have f1 := free_of hrs 1
        have f2 := free_of hrs 2
        by_cases hlt3 : b < bn
        · obtain ⟨u, hu9⟩ := some_at (l := bl) (i := b) (by rw [← HEL.out.2.2]; exact hlt3)
          obtain ⟨a, ha0, -, ha⟩ := (own_rk (k := .i64) r6).1 b u hu9
          have ha0 : A9 = some a := ha0
          subst ha0
          have hs9 := r3.b
          rw [r2] at hs9
          have hhas := rhas_ (own_rk (k := .i64) hs9).1 k5' (by rw [r2]; omega) u
          rw [r2] at hhas
          have hstep := addR_next (S := B') hu9
          rw [← r1] at hstep
          by_cases hm : u ∈ B'
          · rw [if_pos hm] at hstep
            have hRn : R = none := by rw [HST2.out, hstep]
            subst hRn
            rw [decide_eq_true hm] at hhas
            have HH := Lib.hid hhas
            have HRS := Lib.hid (And.intro r3.res r3.bl)
            clear hm hstep hhas r1 r2 r3 r4 r5 r6 r7 HI hrs hu9
            go_wp2_with fail
            refine HH.out.mono ?_
            rintro e w8 ⟨rfl, hw8⟩
            obtain rfl : wC = w8 := hw8.symm
            clear hw8
            go_wp2_with fail
            exact bodyPost_ret (res_ct (u := 3) rfl _ _ (W.heap.size + 1) 125 #[.int .i64 0, .slice none 0 0, .slice none 0 0] (0, 0) _ rfl (put3 HRS.out.1 _ _ _) hu4 rfl (by kernel_rfl)) rfl ⟨rfl, HRES.out HRS.out.1 HRS.out.2⟩
          · rw [if_neg hm] at hstep
            rw [decide_eq_false hm] at hhas
            have HH := Lib.hid hhas
            have HOS : Hid (∀ o, (wC.alloc o).ownsRow (W.heap.size + 3) 3 1 (.slice A5' nb' k5') nb' (ivs .i64 B')) := fun o => by have h9 := r3.b; rw [r2] at h9; exact own_kp h9 (fun k _ hk => Below.heap_alloc _ _ k hk)
            have hsz : Hid (W.heap.size + 3 ≤ wC.heap.size) := r3.lt
            have HK2 := Lib.hid (And.intro hstep (And.intro r2 (And.intro r3 (And.intro r4 (And.intro r5 (And.intro r6 r7))))))
            clear hm hstep hhas r1 r2 r3 r4 r5 r6 r7 HI hrs hu9
            go_wp2_with fail
            refine HH.out.mono ?_
            rintro e w8 ⟨rfl, hw8⟩
            obtain rfl : wC = w8 := hw8.symm
            clear hw8
            go_wp2_with (at_builtin; refine wpList_append_lies _ rfl (.tmp 92) (.tmp 94) 79 rfl (W.heap.size + 3) 3 z1 (.int .i64 0) 1 8 Tryz.underlying79 hi1 hz10 hz11 hz12 rfl (by decide) _ nb' _ rfl (HOS.out _) ⟨wC.heap.size, 0, none⟩ 1 1 [.int .i64 u] rfl rfl (one_at _ _ _) (by intro v hv; simp at hv; subst hv; rfl) (by decide) (by unfold maxLen; omega) (by omega) (by have h1 := hsz.out; simp; omega) (wC.alloc (.cells #[.int .i64 u] 3)).heap.size rfl ?_; intro g7 k7 w7 hown7 hgrow7 hlie7 hlt7; (have HO7 := Lib.hid hown7); (have HG7 := Lib.hid hgrow7); (have HL7 := Lib.hid hlie7); clear hown7 hgrow7 hlie7 hlt7)
            have HN : Hid (addR B bl = addR (B' ++ [u]) (bl.drop (b + 1)) ∧ (B' ++ [u]).length = nb' + 1 ∧ Zw W w7 n V (.slice (some ⟨g7, 0, none⟩) (nb' + 1) k7) (.slice A6' ns' k6') (.slice A1 i k1) (.slice A2 i k2) S' (B' ++ [u]) es es (es ++ [E]) ∧ w7.heap[q8]? = some (.cells #[.int .i64 x, .int .i64 y, .int .i64 z] 47 (0, 0)) ∧ w7.heap[q10]? = some (.cells #[.slice CA d cc, .slice CB d cd] 100 (0, 0)) ∧
                w7.ownsRow (W.heap.size + 3) 3 1 (.slice (some a) bn c9) bn (ivs .i64 bl) ∧ apart (.slice (some a) bn c9) (.slice (some ⟨g7, 0, none⟩) (nb' + 1) k7)) := by
              obtain ⟨s1, s2, s3, s4, s5, s6, s7⟩ := HK2.out
              have hz := s3.keep (bl_alloc (Below.refl _ _) (.cells #[.int .i64 u] 3))
              have hap := ap_grow (v' := .slice (some ⟨g7, 0, none⟩) (nb' + 1) k7) (own_kp (W' := wC.alloc _) s6 (fun k _ hk => Below.heap_alloc _ _ k hk)) s7 HG7.out (apart_lies HL7.out)
              exact ⟨s1, by simp [s2], hz.app5 HG7.out (by rw [s2]; exact HO7.out) (apart_lies HL7.out), hz.far5 HG7.out (alloc_old s4 _) (by decide), hz.far5 HG7.out (alloc_old s5 _) (by decide), hap.1, hap.2⟩
            go_roundw
            case rel => exact ⟨b + 1, nb' + 1, k7, some ⟨g7, 0, none⟩, by omega, by go_num, rfl, by omega, B' ++ [u], HN.out⟩
            case measure => simp [intOf]; omega
        obtain rfl : b = bn := by omega
        have hB9 : addR B bl = some B' := by rw [r1, List.drop_of_length_le (by rw [← HEL.out.2.2]; exact Nat.le_refl _)]; rfl
        rw [hB9] at HST2
        have HST3 : Hid (R = scanR n s sl inf j (i + 1) (S', B', (es ++ [E]).map Own.dat)) := HST2.out
        have hbx := r3.box
        have b0 := cell_of hbx 0
        have b1 := cell_of hbx 1
        have b2 := cell_of hbx 2
        have g1 := free_of hbx 1
        have g2 := free_of hbx 2
        have x0 := cell_of r4 0
        have x1 := cell_of r4 1
        have x2 := cell_of r4 2
        have y0 := cell_of r5 0
        have y1 := cell_of r5 1
        have HOI : Hid (∀ o, (wC.alloc o).ownsRow (W.heap.size + 3) 47 3 (.slice A1 i k1) i (tvs (es.map Own.tri))) := fun o => by have h9 := r3.ins; rw [HLS.out.2.2] at h9; exact own_kp h9 (fun k _ hk => Below.heap_alloc _ _ k hk)
        have hsz : Hid (W.heap.size + 3 ≤ wC.heap.size) := r3.lt
        have HK2 := Lib.hid (And.intro r2 (And.intro r3 r5))
        have hne10 : ¬ (W.heap.size + 2 = q10) := by have := HLT.out; omega
        have hi9 : i ≤ 24 := by omega
        clear r1 r2 r3 r4 r5 r6 r7 HI hrs hB9 HST2 hbx o0 o1 o2 f0 f1 f2
        go_wp2_with (first | (at_builtin; refine wpList_append_own _ rfl (.tmp 98) (.tmp 100) 122 rfl (W.heap.size + 3) 47 zI (.agg #[.int .i64 0, .int .i64 0, .int .i64 0]) 3 24 Tryz.underlying122 hiI hzI0 hzI1 hzI2 rfl (by decide) _ i _ rfl (HOI.out _) ⟨wC.heap.size, 0, none⟩ 1 1 [.int .i64 x, .int .i64 y, .int .i64 z] rfl rfl (many_at wC #[.int .i64 x, .int .i64 y, .int .i64 z] 47) (by intro v hv; simp at hv; rcases hv with rfl | rfl | rfl <;> rfl) (by unfold maxLen; omega) (by omega) (by have h1 := hsz.out; simp; omega) ?_; intro v' w7 hown7 hgrow7 _; (obtain ⟨A7, k7, hv7⟩ := own_slice hown7); subst hv7; (have HZ7 := Lib.hid (appI_ HK2.out.1 HK2.out.2.1 HLS.out.2.2 (E := E) (.cells #[.int .i64 x, .int .i64 y, .int .i64 z] 47) HK2.out.2.2 hown7 hgrow7 HEL.out.1)); (have hb7 := HZ7.out.1); (have e1 := cell_of hb7 1); (have e2 := cell_of hb7 2); (have j1 := free_of hb7 1); (have j2 := free_of hb7 2); (have hc7 := HZ7.out.2.1); (have h0 := cell_of hc7 0); (have h1 := cell_of hc7 1); (have HOC : Hid (∀ v o, _) := HZ7.out.2.2.2); (have hsz7 := Lib.hid HZ7.out.2.2.1.lt); clear hown7 hgrow7 hb7 hc7) |
          (at_builtin; refine wpList_append_own _ rfl (.tmp 104) (.tmp 106) 123 rfl (W.heap.size + 3) 100 zC (.agg #[.slice none 0 0, .slice none 0 0]) 2 48 Tryz.underlying123 hiC hzC0 hzC1 hzC2 rfl (by decide) _ i _ rfl (HOC.out _ _) ⟨w7.heap.size, 0, none⟩ 1 1 [.slice CA d cc, .slice CB d cd] rfl rfl (many_set w7 _ _ _ #[.slice CA d cc, .slice CB d cd] 100) (by intro v hv; simp at hv; rcases hv with rfl | rfl <;> rfl) (by unfold maxLen; omega) (by omega) (by have h1 := hsz7.out; simp at h1 ⊢; omega) ?_; intro v' w9 hown9 hgrow9 _; (obtain ⟨A10, k10, hv9⟩ := own_slice hown9); subst hv9; (have HZ9 := Lib.hid (appC_ HZ7.out.2.2.1 HLS.out.2.2 (.cells #[.slice CA d cc, .slice CB d cd] 100) hown9 hgrow9 HEL.out.1 HEL.out.2.1)); (have hb9 := HZ9.out.1); (have n1 := cell_of hb9 1); (have n2 := cell_of hb9 2); (have p1 := free_of hb9 1); (have p2 := free_of hb9 2); clear hown9 hgrow9 hb9))
        go_roundw
        case rel => exact ⟨i + 1, nb', ns', k5', k6', A5', A6', by omega, by go_num, rfl, rfl, by omega, by omega, S', B', es ++ [E], A7, A10, k7, k10, by rw [HJ.out]; exact HST3.out, HK.out.1, HK2.out.1, by simp [HLS.out.2.2], HZ9.out.2⟩
        case measure => simp [intOf]; omega
end Go.Proofs.YtgnagbbdnlmgeaaGreat.Cm
end
section
set_option maxHeartbeats 4000000
set_option maxRecDepth 100000
namespace Go.Proofs.YtgnagbbdnlmgeaaGreat.Cm
open Go Go.RowKit
open Rr Ob Ba Ko Ge Oc Pk Su Rf Dv Vo Ra Jh Tr Iq Bm In Je Lo Ho Jd
theorem cfree_ {W : World} {B q b1 b2 n x1 x2 : Nat} {g1 g2 c1 c2 : Nat} {es : List Own} {LA : Option Addr} {lc : Nat} (h : Cl W B q b1 b2 n [x1] [x2] g1 g2 c1 c2 es LA lc) (hx1 : x1 < 2 ^ n) (hx2 : x2 < 2 ^ n) (hn : n ≤ 24) (hl : es.length ≤ 65534) :
    Calls Tryz.prog 56 #[.pointer (some ⟨q, 0, none⟩)] W fun e w' => e = .returned (.tuple #[.int .i64 ((n : Int) - (cnt (bitsOf x1 n) : Nat)), .int .i64 ((n : Int) - (cnt (bitsOf x2 n) : Nat)), .int .i64 ((es.length : Int) - ((usedD (es.map Own.dat) 0).length : Nat))]) ∧ Below W.heap.size W w' := by
  have hu := Tryz.underlying179
  have HF1 : Hid (∀ {W' : World}, Bk W W' → _) := fun {W'} hb => free_ (h.bm1.keep hb.below) hx1 hn
  have HF2 : Hid (∀ {W' : World}, Bk W W' → _) := fun {W'} hb => free_ (h.bm2.keep hb.below) hx2 hn
  have HU : Hid (∀ {W' : World}, Bk W W' → Calls Tryz.prog 57 #[.pointer (some ⟨q, 0, none⟩)] W' fun e w' => ∃ A c, e = .returned (.slice A (usedD (es.map Own.dat) 0).length c) ∧ Below W'.heap.size W' w') := fun {W'} hb => by
    refine (used_ (h.keep hb.below) hl).mono ?_
    rintro e w' ⟨v, rfl, ho, hb'⟩
    obtain ⟨A, c, rfl⟩ := own_slice ho
    exact ⟨A, c, rfl, hb'⟩
  have hul := usedD_len (es.map Own.dat) 0
  rw [List.length_map] at hul
  have HCL : Hid (∀ W', Bk W W' → W'.cell? ⟨q, 0, none⟩ = some (.slice LA es.length lc) ∧ W'.cell? ⟨q, 1, none⟩ = some (.pointer (some ⟨b1, 0, none⟩)) ∧ W'.cell? ⟨q, 2, none⟩ = some (.pointer (some ⟨b2, 0, none⟩)) ∧ Bk W W') := fun W' hb => ⟨cell_of (blk_bl h.blk hb.below) 0, cell_of (blk_bl h.blk hb.below) 1, cell_of (blk_bl h.blk hb.below) 2, hb⟩
  have HB0 : Hid (Bk W W.drew) := ⟨bl_drew (Below.refl _ _)⟩
  generalize (usedD (es.map Own.dat) 0).length = ul at *
  generalize es.length = m at *
  generalize (n : Int) - (cnt (bitsOf x1 n) : Nat) = f1 at *
  generalize (n : Int) - (cnt (bitsOf x2 n) : Nat) = f2 at *
  have hw : IntKind.i64.wrap ((m : Int) - (ul : Int)) = (m : Int) - (ul : Int) := wi64 _ (by omega) (by omega)
  clear h
  go_enter Tryz.func56, Tryz.ntmps56
  go_wp2_with fail
  go_region_held3 (fun W' => W'.cell? ⟨q, 0, none⟩ = some (.slice LA m lc) ∧ W'.cell? ⟨q, 1, none⟩ = some (.pointer (some ⟨b1, 0, none⟩)) ∧ W'.cell? ⟨q, 2, none⟩ = some (.pointer (some ⟨b2, 0, none⟩)) ∧ Bk W W')
    (first | exact HCL.out _ HB0.out | exact HCL.out _ HC5.out | exact HCL.out _ HC6.out | exact HCL.out _ HC7.out)
    (first | (go_at_call 97; refine (HF1.out HB0.out).mono ?_; rintro e w5 ⟨rfl, hb5⟩; (have HC5 : Hid (Bk W w5) := ⟨bl_then HB0.out.below hb5⟩); clear hb5) |
      (go_at_call 97; refine (HF2.out HC5.out).mono ?_; rintro e w6 ⟨rfl, hb6⟩; (have HC6 : Hid (Bk W w6) := ⟨bl_then HC5.out.below hb6⟩); clear hb6) |
      (go_at_call 57; refine (HU.out HC6.out).mono ?_; rintro e w7 ⟨A7, c7, rfl, hb7⟩; (have HC7 : Hid (Bk W w7) := ⟨bl_then HC6.out.below hb7⟩); clear hb7))
  go_wp2_with fail
  go_ret3
  exact ⟨rfl, HC7.out.below⟩
end Go.Proofs.YtgnagbbdnlmgeaaGreat.Cm
end
