/- Parts of the proof, one behind the other: Az, Vg, Vh, Io, Ip, Is. -/
import Derived.Test.YtichcdoijieddaaGreatG01
import Derived.Lib.AppendZerosOnto
import Derived.Test.YtichcdoijieddaaGreatG11
import Derived.Test.YtichcdoijieddaaGreatG08
import Derived.Test.YtichcdoijieddaaGreatG07
import Derived.Deep.RegionHeld3
import Derived.Test.YtichcdoijieddaaGreatG06

/- append(own, make([]T, k)...) to a row of one's own, of one-cell elements. No program is named. -/
section
set_option linter.unusedVariables false
set_option linter.unusedSimpArgs false
namespace Go.Proofs.YtichcdoijieddaaGreat.Az
open Go Go.RowKit
open Go.Proofs.YtichcdoijieddaaGreat.Ob Go.Proofs.YtichcdoijieddaaGreat.Ba

theorem zeroCells_one (z : Value) (k : Nat) : Builtin.zeroCells #[z] k = (List.replicate k z).toArray := by
  unfold Builtin.zeroCells
  apply Array.ext
  · simp
  · intro i h1 h2
    simp [Nat.mod_one]

theorem run_append_own_zeros {P : Program} (w : World) (base : Nat) (t tn ty e : TypeId) (i : TypeInfo) (z : Value) (bytes : Nat) (kq kn : IntKind) (ht : P.underlying t = some (.slice e)) (htn : P.underlying tn = some (.int kn)) (hi : P.info? e = some i) (hz : i.zero = some z)
    (hsize : i.size = 1) (hby : i.bytes = bytes) (hzs : z.cells = #[z]) (h1 : z.oneCell' = true)
    (v : Value) (n : Nat) (xs : List Value) (hown : w.ownsRow base e 1 v n xs) (k : Nat)
    (h63 : n + k ≤ maxLen) (hbytes : (n + k) * bytes ≤ 140737488355328) (hbase : base ≤ w.heap.size) :
    ∃ v' w', (Builtin.append_ #[t, tn] ty #[v, .int kq k]).run P w = .ok v' w' ∧ w'.ownsRow base e 1 v' (n + k) (xs ++ List.replicate k z) ∧ w.grownBy w' v.ownBlock := by
  subst hby
  have hsmall : n + k ≤ 9223372036854775807 := by simp only [maxLen] at h63; omega
  have hkb : k * i.bytes ≤ 281474976710656 := by
    have : k * i.bytes ≤ (n + k) * i.bytes := Nat.mul_le_mul_right _ (by omega)
    omega
  have hzl : ∀ m, Builtin.zeroCells z.cells m = (List.replicate m z).toArray := fun m => by rw [hzs]; exact zeroCells_one z m
  have hlen : (xs ++ List.replicate k z).length = (n + k) * 1 := by rw [List.length_append, hown.1, List.length_replicate]; omega
  have hw : IntKind.i64.wrap (k : Int) = k := by rw [IntKind.wrap_i64]; omega
  have hneg : ¬ ((k : Int) < 0) := by omega
  have h48i : ¬ (281474976710656 < (k : Int) * (i.bytes : Int)) := by
    rw [← Int.natCast_mul]
    omega
  have grown : ∀ (old : Nat), old < n + k → ∀ (row : Option Nat),
      (w.drew.alloc (.cells (xs.toArray ++ Builtin.zeroCells z.cells k ++ Builtin.zeroCells z.cells (grownCap w (n + k) old e - (n + k))) e)).ownsRow base e 1
        (.slice (some ⟨w.heap.size, 0, none⟩) (n + k) (grownCap w (n + k) old e)) (n + k) (xs ++ List.replicate k z) ∧
      w.grownBy (w.drew.alloc (.cells (xs.toArray ++ Builtin.zeroCells z.cells k ++ Builtin.zeroCells z.cells (grownCap w (n + k) old e - (n + k))) e)) row := by
    intro old ho row
    have hge := grownCap_ge w (n + k) old e
    have hcm : grownCap w (n + k) old e ≤ maxLen := grownCap_le_maxLen w (n + k) old e h63
    refine ⟨⟨hlen, .inr ⟨w.heap.size, _, _, rfl, hbase, heap_alloc_new w.drew _, hge, hcm, ?_, ?_⟩⟩, ⟨rfl, rfl, rfl, by simp, fun q hq _ => Below.heap_alloc w.drew _ q hq⟩⟩
    · have := hown.1
      simp only [Array.size_append, List.size_toArray, hzl, List.length_replicate]
      omega
    · simp only [Array.toList_append, hzl, List.append_assoc]
      rw [← List.append_assoc, ← hlen]
      exact List.take_left
  rcases hown.2 with ⟨rfl, rfl⟩ | ⟨g, cap, cur, rfl, hbg, hg, hnc, hcm, hcs, htake⟩
  · have hx : xs = [] := List.eq_nil_of_length_eq_zero (by simpa using hown.1)
    subst hx
    by_cases hk : k = 0
    · subst hk
      refine ⟨.slice none 0 0, w, ?_, World.ownsRow_nil w base e 1, ⟨rfl, rfl, rfl, Nat.le_refl _, fun _ _ _ => rfl⟩⟩
      simp [Builtin.append_, run_underlying ht, run_underlying htn, sizeOf, typeInfo, zeroValue, hi, hz, asInt, asIntOf, hsize, IntKind.wrap_i64]
    · have hr := Lib.run_append_nil_zeros (P := P) w t tn ty e i z kq kn ht htn hi hz k (by omega) (by omega) (by omega) hkb
      have hgr := grown 0 (by omega) (Value.ownBlock (.slice none 0 0))
      simp only [Nat.zero_add, List.nil_append, Array.empty_append] at hgr ⊢
      exact ⟨_, _, hr, hgr.1, hgr.2⟩
  · by_cases hroom : n + k ≤ cap
    · have hst := run_storeCells_at P g n e (List.replicate k z) 0 cur w hg (by rw [List.length_replicate]; omega) (by intro u hu; rw [(List.mem_replicate.1 hu).2]; exact h1)
      simp only [Nat.add_zero] at hst
      have hr : (Builtin.append_ #[t, tn] ty #[.slice (some ⟨g, 0, none⟩) n cap, .int kq k]).run P w =
          .ok (.slice (some ⟨g, 0, none⟩) (n + k) cap) (w.setRow g (cur.toList.take n ++ List.replicate k z ++ cur.toList.drop (n + k)).toArray) := by
        by_cases hk : k = 0
        · subst hk
          simp only [List.replicate_zero, List.length_nil, Nat.add_zero] at hst
          simp [Builtin.append_, run_underlying ht, run_underlying htn, sizeOf, typeInfo, zeroValue, hi, hz, asInt, asIntOf, hw, hneg, hroom, hsize, Addr.add_lit, IntKind.wrap_i64, show n ≤ cap from by omega]
          rw [hst]
          simp [Result.andThen]
        · have hz0 : (Builtin.zeroCells z.cells k).toList = List.replicate k z := by rw [hzl]
          rw [List.length_replicate] at hst
          simp [Builtin.append_, run_underlying ht, run_underlying htn, sizeOf, typeInfo, zeroValue, hi, hz, asInt, asIntOf, hw, hneg, h48i, hroom, hsize, hk, Addr.add_lit, hz0, hst]
      refine ⟨_, _, hr, ⟨hlen, .inr ⟨g, cap, _, rfl, hbg, setRow_heap w g cur _ e _ hg, hroom, hcm, ?_, ?_⟩⟩, ⟨rfl, rfl, rfl, by simp, fun k _ hk => setRow_other w g k _ (fun e => hk (by simp [Value.ownBlock, e]))⟩⟩
      · simp only [List.size_toArray, List.length_append, List.length_take, List.length_drop, Array.length_toList, List.length_replicate]
        omega
      · rw [← hlen, ← htake, Nat.mul_one]
        exact List.take_left
    · have holds : ∀ j u, xs[j]? = some u → w.cell? ((⟨g, 0, none⟩ : Addr).add j) = some u := hown.cells (g := g) rfl
      have hf := run_firstCells_some (P := P) w.drew 1 n ⟨g, 0, none⟩ n cap xs hown.1 holds
      have hr := Lib.run_append_grow_zeros (P := P) w t tn ty e i z kq kn ht htn hi hz (some ⟨g, 0, none⟩) n cap xs (by rw [hsize]; exact hf) k (by omega) (by omega) (by omega) (by omega) hkb (growslice_fits (by omega) hbytes)
      have hgr := grown cap (by omega) (Value.ownBlock (.slice (some ⟨g, 0, none⟩) n cap))
      exact ⟨_, _, hr, hgr.1, hgr.2⟩

theorem wpList_append_zeros {P : Program} {w : World} {ops : Array Oper} {rest : List Oper} {o : Oper} {a : Act} {Q : Exit → Act → World → Prop} (hgd : o.guard = none) (s x : Operand) (t tn : TypeId)
    (ho : o.op = .call { callee := .builtin .append, args := #[s, x], argTypes := #[t, tn] })
    (base : Nat) (e : TypeId) (i : TypeInfo) (z : Value) (bytes : Nat) (kq kn : IntKind) (ht : P.underlying t = some (.slice e)) (htn : P.underlying tn = some (.int kn)) (hi : P.info? e = some i) (hz : i.zero = some z)
    (hsize : i.size = 1) (hby : i.bytes = bytes) (hzs : z.cells = #[z]) (h1 : z.oneCell' = true)
    (v : Value) (n : Nat) (xs : List Value) (hs : a.eval s = v) (hown : w.ownsRow base e 1 v n xs) (k : Nat) (hx : a.eval x = .int kq k)
    (h63 : n + k ≤ maxLen) (hbytes : (n + k) * bytes ≤ 140737488355328) (hbase : base ≤ w.heap.size)
    (h : ∀ v' w', w'.ownsRow base e 1 v' (n + k) (xs ++ List.replicate k z) → w.grownBy w' v.ownBlock → wpList P ops Q rest (a.put o.dst v') w') : wpList P ops Q (o :: rest) a w := by
  obtain ⟨v', w', hr, h2, h3⟩ := run_append_own_zeros (P := P) w base t tn o.type e i z bytes kq kn ht htn hi hz hsize hby hzs h1 v n xs hown k h63 hbytes hbase
  exact Lib.wpList_append_run w hgd s x t tn ho v (.int kq k) hs hx v' w' hr (h v' w' h2 h3)

end Go.Proofs.YtichcdoijieddaaGreat.Az
end

/- What stands behind an opened volume in the laws: kept, still, written. -/
section
set_option linter.unusedVariables false
set_option linter.unusedSimpArgs false
set_option maxHeartbeats 2000000
set_option maxRecDepth 100000
namespace Go.Proofs.YtichcdoijieddaaGreat.Vs
open Go Go.RowKit
open Go.Proofs.YtichcdoijieddaaGreat.Ob Go.Proofs.YtichcdoijieddaaGreat.Ba Go.Proofs.YtichcdoijieddaaGreat.Ko Go.Proofs.YtichcdoijieddaaGreat.Ge Go.Proofs.YtichcdoijieddaaGreat.Oc Go.Proofs.YtichcdoijieddaaGreat.Pk Go.Proofs.YtichcdoijieddaaGreat.Su Go.Proofs.YtichcdoijieddaaGreat.Rf Go.Proofs.YtichcdoijieddaaGreat.Dv Go.Proofs.YtichcdoijieddaaGreat.Vo Go.Proofs.YtichcdoijieddaaGreat.Ra Go.Proofs.YtichcdoijieddaaGreat.Lo Go.Proofs.YtichcdoijieddaaGreat.Li Go.Proofs.YtichcdoijieddaaGreat.Cc

/-- the document's volume at block q, its words beside it -/
structure Sv (w W : World) (q : Nat) (n m s p3 p4 p5 : Int) (A8 : Option Addr) (T c8 : Nat) (L : List Int) : Prop where
  vol : W.heap[q]? = some (.cells #[.int .i64 n, .int .i64 m, .int .i64 s, .int .i64 16, .int .i64 (16 + 8 * m), .int .i64 p3, .int .i64 p4, .int .i64 p5, .slice A8 T c8] 33 (0, 0))
  row : Rk .u64 W A8 L
  below : Below w.heap.size w W
  lo : w.heap.size ≤ q
theorem Sv.keep {w W W' : World} {q : Nat} {n m s p3 p4 p5 : Int} {A8 : Option Addr} {T c8 : Nat} {L : List Int} (h : Sv w W q n m s p3 p4 p5 A8 T c8 L) (hb : Below W.heap.size W W') : Sv w W' q n m s p3 p4 p5 A8 T c8 L :=
  ⟨blk_bl h.vol hb, h.row.below hb, bl_then h.below hb, h.lo⟩
theorem Sv.to {w W W' : World} {q : Nat} {n m s p3 p4 p5 : Int} {A8 : Option Addr} {T c8 : Nat} {L : List Int} {F : List Nat} (h : Sv w W q n m s p3 p4 p5 A8 T c8 L) (hu : Upd F W W') (hF : ∀ k ∈ F, w.heap.size ≤ k ∧ k ≠ q) (hA : ∀ a, A8 = some a → a.block ∉ F) (hL : 1 ≤ L.length) : Sv w W' q n m s p3 p4 p5 A8 T c8 L := by
  refine ⟨hu.blk h.vol (fun hm => (hF _ hm).2 rfl), ?_, h.below.trans (hu.belowB h.below.size (fun k hk => (hF k hk).1)), h.lo⟩
  refine h.row.keep (fun a ha => ?_) hu.size
  obtain ⟨u, hu9⟩ := some_at (l := L) (i := 0) (by omega)
  obtain ⟨a', ha', hlt, -⟩ := h.row 0 u hu9
  rw [ha] at ha'
  cases ha'
  exact hu.block _ hlt (hA a ha)
theorem Sv.grown {w W W' : World} {q : Nat} {n m s p3 p4 p5 : Int} {A8 : Option Addr} {T c8 : Nat} {L : List Int} {row : Option Nat} (h : Sv w W q n m s p3 p4 p5 A8 T c8 L) (hg : W.grownBy W' row) (hr : ∀ k, row = some k → w.heap.size ≤ k ∧ k ≠ q ∧ ∀ a, A8 = some a → a.block ≠ k) (hL : 1 ≤ L.length) : Sv w W' q n m s p3 p4 p5 A8 T c8 L := by
  refine h.to (F := row.toList) ⟨hg.os, hg.tape, hg.output, hg.size, fun k hk hn => hg.block k hk (fun e => hn (by rw [← e]; simp))⟩ ?_ ?_ hL
  · intro k hk
    have := hr k (by simpa using hk)
    exact ⟨this.1, this.2.1⟩
  · intro a ha hm
    exact (hr _ (by simpa using hm)).2.2 a ha rfl

theorem Sv.still {w W : World} {q : Nat} {n m s p3 p4 p5 : Int} {A8 : Option Addr} {T c8 : Nat} {L : List Int} (h : Sv w W q n m s p3 p4 p5 A8 T c8 L) {v b n' m' s' : Nat} {g : Lay} (hv : VolIs W v b n' m' s' (Pm.devOf L) g) (hL : L.length = T) (h1 : 1 ≤ T) :
    Calls Tryz.prog 11 #[.pointer (some ⟨v, 0, none⟩), .agg #[.int .i64 n, .int .i64 m, .int .i64 s, .int .i64 16, .int .i64 (16 + 8 * m), .int .i64 p3, .int .i64 p4, .int .i64 p5, .slice A8 T c8]] W fun e w' => e = .returned (.bool true) ∧ Below W.heap.size W w' := by
  have hr : Rk .u64 W A8 (Pm.wordsOf (Pm.devOf L)) := by rw [words_devOf]; exact h.row
  have := still_yes hv (las_some hv.dev (by show 1 ≤ L.length; omega)) rfl (c := c8) hr n m s 16 (16 + 8 * m) p3 p4 p5
  rw [show (Pm.devOf L).las.length = T from hL] at this
  exact this

theorem _root_.Go.Proofs.YtichcdoijieddaaGreat.Vo.VolIs.grown {w w' : World} {v b n m s : Nat} {d : Dev} {g : Lay} {row : Option Nat} (h : VolIs w v b n m s d g) (hg : w.grownBy w' row) (hr : ∀ k, row = some k → k ≠ v ∧ k ∉ g.foot b) : VolIs w' v b n m s d g :=
  h.keep (hg.block v (lt_of h.blk) (fun e => (hr v e.symm).1 rfl)) (fun k hk => hg.block k (h.dev.lt k hk) (fun e => (hr k e.symm).2 hk))

/-- behind a write -/
theorem Sv.wrote {w W : World} {q : Nat} {n m s p3 p4 p5 : Int} {A8 : Option Addr} {T c8 : Nat} {L : List Int} (h : Sv w W q n m s p3 p4 p5 A8 T c8 L) {v b n' m' s' : Nat} {g : Lay} {d : Dev} (hv : VolIs W v b n' m' s' d g) (hL : L.length = T) (h1 : 1 ≤ T) {xs : List Int} (k : Nat)
    (hp : Wp.Pt (Pm.devOf L) d (wput L k xs) xs.length (nline k xs.length)) (hk : k + xs.length ≤ T) {B : Option Addr} {c2 : Nat} (hx : Rk .u64 W B xs) :
    Calls Tryz.prog 13 #[.pointer (some ⟨v, 0, none⟩), .agg #[.int .i64 n, .int .i64 m, .int .i64 s, .int .i64 16, .int .i64 (16 + 8 * m), .int .i64 p3, .int .i64 p4, .int .i64 p5, .slice A8 T c8], .int .i64 k, .slice B xs.length c2] W fun e w' => e = .returned (.bool true) ∧ Below W.heap.size W w' := by
  have hwr := wrote_yes hv (las_some hv.dev (by rw [hp.las]; show 1 ≤ L.length; omega)) (c := c8) (c2 := c2) h.row hx k (by omega) (by omega) hp.words (by rw [hp.stores]; show 0 + _ = _; omega) (by rw [hp.steps]; show 0 + _ + _ = _; omega) n m s 16 (16 + 8 * m) p3 p4 p5
  rw [hL] at hwr
  exact hwr

theorem conv_rk {W : World} {D : Option Addr} {l : List Nat} (h : Rk .u8 W D (ints l)) (c : Nat) :
    (convert 95 9 (.slice D l.length c)).run Tryz.prog W = .ok (.string (txt l)) W := by
  cases D with
  | none =>
    have hl : l = [] := by
      cases l with
      | nil => rfl
      | cons x r =>
        obtain ⟨a, e, -⟩ := h 0 x (by simp [ints])
        cases e
    subst hl
    exact run_convert_bytes_nil W 95 5 Tryz.underlying95 Tryz.underlying5 0 c 9 Tryz.underlying9
  | some a =>
    have hl : (loadCells a l.length).run Tryz.prog W = .ok ((ints l).map (Value.int .u8)).toArray W := by
      have := run_loadCells_list (P := Tryz.prog) W a ((ints l).map (Value.int .u8)) (fun j v hj => by
        simp only [List.getElem?_map, Option.map_eq_some_iff] at hj
        obtain ⟨z, hz, rfl⟩ := hj
        exact h.at_ hz)
      rw [List.length_map, ints_length] at this
      exact this
    rw [run_convert_bytes_string W 95 9 5 (some a) l.length c Tryz.underlying95 Tryz.underlying5 Tryz.underlying9, run_bytesToString W a l.length c (ints l) hl, foldl_push_bytes]
    simp [txt, strOfNums, ByteArray.empty, ByteArray.emptyWithCapacity]
    rfl

theorem run_append_arg (w : World) (base : Nat) (ty : TypeId) (n : Nat) (xs : List Value) (hown : w.ownsRow base 5 1 (.slice (some ⟨base, 0, none⟩) n n) n xs) {D : Option Addr} {data : List Nat} (hD : Rk .u8 w D (ints data)) (c : Nat) (hn : n + data.length ≤ 1000000) (hbase : base ≤ w.heap.size) :
    ∃ v' w', (Builtin.append_ #[95, 95] ty #[.slice (some ⟨base, 0, none⟩) n n, .slice D data.length c]).run Tryz.prog w = .ok v' w' ∧ w'.ownsRow base 5 1 v' (n + data.length) (xs ++ ivs .u8 (ints data)) ∧ w.grownBy w' (some base) := by
  obtain ⟨i0, hinf, hz0, hz1, hz2⟩ := info_parts (show (Tryz.prog.info? 5).map (fun i => (i.zero, i.size, i.bytes)) = some (some (.int .u8 0), 1, 1) by kernel_rfl)
  cases D with
  | none =>
    have hl : data = [] := by
      cases data with
      | nil => rfl
      | cons x r =>
        obtain ⟨a, e, -⟩ := hD 0 x (by simp [ints])
        cases e
    subst hl
    obtain ⟨h1, ⟨h2, _⟩ | ⟨g, cap, cur, hv, hg, hb, hnc, hm, hs, ht⟩⟩ := hown
    · cases h2
    · simp only [Value.slice.injEq, Option.some.injEq, Addr.mk.injEq, and_true, true_and] at hv
      obtain ⟨rfl, rfl⟩ := hv
      have hst : (storeCells ⟨base, n, none⟩ []).run Tryz.prog w = .ok () w := rfl
      refine ⟨_, w, ?_, ⟨by simpa [ivs, ints] using h1, .inr ⟨base, n, cur, rfl, hg, hb, hnc, hm, hs, by simpa [ivs, ints] using ht⟩⟩, ⟨rfl, rfl, rfl, Nat.le_refl _, fun _ _ _ => rfl⟩⟩
      simp [Builtin.append_, run_underlying Tryz.underlying95, sizeOf, typeInfo, hinf, Builtin.lenOf, Builtin.firstCells, hz1, Addr.add_lit, hst, Result.andThen]
  | some a =>
    obtain ⟨v', w', h1, h2, h3, -⟩ := run_append_own (P := Tryz.prog) w base 95 ty 5 i0 (.int .u8 0) 1 1 Tryz.underlying95 hinf hz0 hz1 hz2 rfl (by decide) _ n xs hown a data.length c (ivs .u8 (ints data)) (by rw [ivs_length, ints_length]; omega)
      (fun j u hj => by
        simp only [ivs, List.getElem?_map, Option.map_eq_some_iff] at hj
        obtain ⟨z, hz, rfl⟩ := hj
        exact hD.at_ hz) (ivs_oneCell _ _) (by unfold maxLen; omega) (by omega) hbase
    exact ⟨v', w', h1, h2, h3⟩

end Go.Proofs.YtichcdoijieddaaGreat.Vs
end

/- Words and bytes there and back; words put and read again (plain). -/
section
set_option linter.unusedVariables false
set_option linter.unusedSimpArgs false
namespace Go.Proofs.YtichcdoijieddaaGreat.Vh
open Go Go.RowKit
open Go.Proofs.YtichcdoijieddaaGreat.Ob Go.Proofs.YtichcdoijieddaaGreat.Ba Go.Proofs.YtichcdoijieddaaGreat.Oc Go.Proofs.YtichcdoijieddaaGreat.Pk Go.Proofs.YtichcdoijieddaaGreat.Rf Go.Proofs.YtichcdoijieddaaGreat.Dv Go.Proofs.YtichcdoijieddaaGreat.Vo Go.Proofs.YtichcdoijieddaaGreat.Cc

theorem octs_get (l : List Nat) (q r x : Nat) (hr : r < 8) (hx : l[q]? = some x) : (octs l)[8 * q + r]? = some (x / 256 ^ r % 256) := by
  induction l generalizing q with
  | nil => simp at hx
  | cons a l ih =>
    have e : octs (a :: l) = oct a ++ octs l := rfl
    rw [e]
    cases q with
    | zero =>
      simp at hx
      subst hx
      rw [List.getElem?_append_left (by simp [oct]; omega)]
      simp [oct, hr]
    | succ q =>
      rw [List.getElem?_cons_succ] at hx
      rw [List.getElem?_append_right (by simp [oct]; omega)]
      have := ih q hx
      rw [show 8 * (q + 1) + r - (oct a).length = 8 * q + r from by simp [oct]; omega]
      exact this
theorem digit (b : List Nat) (h : ∀ x ∈ b, x < 256) (q r : Nat) (hr : r < 8) : wd8 b q / 256 ^ r % 256 = by_ b q r := by
  have h0 := by_lt h q 0
  have h1 := by_lt h q 1
  have h2 := by_lt h q 2
  have h3 := by_lt h q 3
  have h4 := by_lt h q 4
  have h5 := by_lt h q 5
  have h6 := by_lt h q 6
  have h7 := by_lt h q 7
  unfold wd8
  match r, hr with
  | 0, _ => omega
  | 1, _ => rw [show (256 : Nat) ^ 1 = 256 from rfl]; omega
  | 2, _ => rw [show (256 : Nat) ^ 2 = 65536 from rfl]; omega
  | 3, _ => rw [show (256 : Nat) ^ 3 = 16777216 from rfl]; omega
  | 4, _ => rw [show (256 : Nat) ^ 4 = 4294967296 from rfl]; omega
  | 5, _ => rw [show (256 : Nat) ^ 5 = 1099511627776 from rfl]; omega
  | 6, _ => rw [show (256 : Nat) ^ 6 = 281474976710656 from rfl]; omega
  | 7, _ => rw [show (256 : Nat) ^ 7 = 72057594037927936 from rfl]; omega
theorem octs_wds (b : List Nat) (h : ∀ x ∈ b, x < 256) (h8 : b.length % 8 = 0) : octs (wds b) = b := by
  apply List.ext_getElem?
  intro i
  by_cases hi : i < b.length
  · obtain ⟨q, r, hqr, hr⟩ : ∃ q r, i = 8 * q + r ∧ r < 8 := ⟨i / 8, i % 8, by omega, by omega⟩
    subst hqr
    rw [octs_get (wds b) q r (wd8 b q) hr (by rw [wds_get, if_pos (by omega)]), digit b h q r hr]
    unfold by_
    rw [List.getD_eq_getElem?_getD, List.getElem?_eq_getElem hi]
    rfl
  · rw [List.getElem?_eq_none (by rw [octs_length, wds_len]; omega), List.getElem?_eq_none (by omega)]
theorem wds_lt {b : List Nat} (h : ∀ x ∈ b, x < 256) : ∀ x ∈ wds b, x < 18446744073709551616 := by
  intro x hx
  simp only [wds, List.mem_map] at hx
  obtain ⟨i, _, rfl⟩ := hx
  exact wd8_lt h i

theorem wput_get (L : List Int) (k : Nat) (xs : List Int) (hk : k + xs.length ≤ L.length) (j : Nat) : (wput L k xs)[j]? = if k ≤ j ∧ j < k + xs.length then xs[j - k]? else L[j]? := by
  induction xs generalizing L k with
  | nil => rw [if_neg (by simp only [List.length_nil]; omega)]; rfl
  | cons x r ih =>
    show (wput (L.set k x) (k + 1) r)[j]? = _
    rw [ih (L.set k x) (k + 1) (by simp at hk ⊢; omega)]
    by_cases h1 : k + 1 ≤ j ∧ j < k + 1 + r.length
    · rw [if_pos h1, if_pos (by simp; omega)]
      rw [show j - k = (j - (k + 1)) + 1 from by omega, List.getElem?_cons_succ]
    · rw [if_neg h1]
      by_cases h2 : j = k
      · subst h2
        rw [if_pos (by simp), Nat.sub_self, List.getElem?_set_self (by simp at hk; omega)]
        rfl
      · rw [if_neg (by simp; omega), List.getElem?_set_ne (by omega)]
theorem lds_wput {d : Dev} {L : List Int} {k : Nat} {xs : List Int} (hw : Pm.wordsOf d = wput L k xs) (hk : k + xs.length ≤ L.length) : lds d k xs.length = xs := by
  have hlen : d.las.length = L.length := by
    have := congrArg List.length hw
    rw [Pm.wordsOf_length, wput_length] at this
    exact this
  apply List.ext_getElem?
  intro i
  by_cases hi : i < xs.length
  · unfold lds
    rw [List.getElem?_map, List.getElem?_range hi]
    have h1 := Pm.wordsOf_get d (k + i) (by omega)
    rw [hw, wput_get L k xs hk, if_pos (by omega), show k + i - k = i from by omega] at h1
    rw [h1]
    rfl
  · rw [List.getElem?_eq_none (by rw [lds_length]; omega), List.getElem?_eq_none (by omega)]

end Go.Proofs.YtichcdoijieddaaGreat.Vh
end

/- package inode: what may be, whatever it is; and its line. -/
section
set_option linter.unusedVariables false
set_option linter.unusedSimpArgs false
set_option maxHeartbeats 2000000
set_option maxRecDepth 100000
namespace Go.Proofs.YtichcdoijieddaaGreat.In
open Go Go.RowKit
open Go.Proofs.YtichcdoijieddaaGreat.Ob Go.Proofs.YtichcdoijieddaaGreat.Ba Go.Proofs.YtichcdoijieddaaGreat.Oc Go.Proofs.YtichcdoijieddaaGreat.Pk Go.Proofs.YtichcdoijieddaaGreat.Su Go.Proofs.YtichcdoijieddaaGreat.Cc Go.Proofs.YtichcdoijieddaaGreat.Cr Go.Proofs.YtichcdoijieddaaGreat.Ge

/-- an inode may be -/
def iAll (k h z : Int) : Prop := (k = 0 ∧ h = -1 ∧ z = 0) ∨ iOk k h z
instance (k h z : Int) : Decidable (iOk k h z) := inferInstanceAs (Decidable (_ ∧ _))
instance (k h z : Int) : Decidable (iAll k h z) := inferInstanceAs (Decidable (_ ∨ _))
def iB (k h z : Int) : Bool := decide (iAll k h z)

theorem none_ (w : World) : Calls Tryz.prog 59 #[] w fun e w' => e = .returned (.agg #[.int .i64 0, .int .i64 (-1), .int .i64 0]) ∧ Below w.heap.size w w' := by
  have hu := Tryz.underlying27
  go_enter Tryz.func59, Tryz.ntmps59
  go_wp2
  exact bodyPost_ret (res_c rfl _ _ w.heap.size 27 _ (0, 0) _ rfl (alloc_new w _) hu rfl (by kernel_rfl)) rfl ⟨rfl, bl_alloc (Below.refl _ _) _⟩

theorem may_free (h z : Int) (w : World) : Calls Tryz.prog 100 #[.agg #[.int .i64 0, .int .i64 h, .int .i64 z]] w fun e w' => e = .returned (.bool (decide (h = -1 ∧ z = 0))) ∧ Below w.heap.size w w' := by
  have hu := Tryz.underlying27
  by_cases h1 : h = -1
  · subst h1
    by_cases h2 : z = 0
    · subst h2
      rw [show decide ((-1 : Int) = -1 ∧ (0 : Int) = 0) = true from rfl]
      go_enter Tryz.func100, Tryz.ntmps100
      go_wp2_with fail
      go_region_held3 (fun w' => w'.cell? ⟨w.heap.size, 0, none⟩ = some (.int .i64 0) ∧ w'.cell? ⟨w.heap.size, 1, none⟩ = some (.int .i64 (-1)) ∧ w'.cell? ⟨w.heap.size, 2, none⟩ = some (.int .i64 0) ∧ Bx w w')
        (first | assumption | exact bx_start rfl | exact bx_keep ‹_› ‹_›)
        ((go_at_call 59; refine (none_ _).mono ?_; rintro e w2 ⟨rfl, hb2⟩))
      all_goals
        go_wp2
        go_ret
        exact ⟨rfl, (bx_of ‹_›).below⟩
    · rw [show decide ((-1 : Int) = -1 ∧ z = 0) = false from decide_eq_false (fun h => h2 h.2)]
      go_enter Tryz.func100, Tryz.ntmps100
      go_wp2_with fail
      go_region_held3 (fun w' => w'.cell? ⟨w.heap.size, 0, none⟩ = some (.int .i64 0) ∧ w'.cell? ⟨w.heap.size, 1, none⟩ = some (.int .i64 (-1)) ∧ w'.cell? ⟨w.heap.size, 2, none⟩ = some (.int .i64 z) ∧ Bx w w')
        (first | assumption | exact bx_start rfl | exact bx_keep ‹_› ‹_›)
        ((go_at_call 59; refine (none_ _).mono ?_; rintro e w2 ⟨rfl, hb2⟩))
      all_goals
        go_wp2
        go_ret
        exact ⟨rfl, (bx_of ‹_›).below⟩
  · rw [show decide (h = -1 ∧ z = 0) = false from decide_eq_false (fun hh => h1 hh.1)]
    go_enter Tryz.func100, Tryz.ntmps100
    go_wp2_with fail
    go_region_held3 (fun w' => w'.cell? ⟨w.heap.size, 0, none⟩ = some (.int .i64 0) ∧ w'.cell? ⟨w.heap.size, 1, none⟩ = some (.int .i64 h) ∧ w'.cell? ⟨w.heap.size, 2, none⟩ = some (.int .i64 z) ∧ Bx w w')
      (first | assumption | exact bx_start rfl | exact bx_keep ‹_› ‹_›)
      ((go_at_call 59; refine (none_ _).mono ?_; rintro e w2 ⟨rfl, hb2⟩))
    all_goals
      go_wp2
      go_ret
      exact ⟨rfl, (bx_of ‹_›).below⟩

theorem may_no (k h z : Int) (hk : k ≠ 0) (hn : ¬ iOk k h z) (w : World) : Calls Tryz.prog 100 #[.agg #[.int .i64 k, .int .i64 h, .int .i64 z]] w fun e w' => e = .returned (.bool false) ∧ Below w.heap.size w w' := by
  have hu := Tryz.underlying27
  have e0 : (k == 0) = false := beq_eq_false_iff_ne.2 hk
  by_cases hk12 : k = 1 ∨ k = 2
  · have hc : z < 0 ∨ (0 ≤ z ∧ 268435456 < z) ∨ (0 ≤ z ∧ z ≤ 268435456 ∧ h < -1) ∨ (0 ≤ z ∧ z ≤ 268435456 ∧ -1 ≤ h ∧ 65534 ≤ h) ∨ (0 ≤ z ∧ z ≤ 268435456 ∧ -1 ≤ h ∧ h < 65534 ∧ ((decide (h < 0)) == (z == 0)) = false) ∨ (0 ≤ z ∧ z ≤ 268435456 ∧ -1 ≤ h ∧ h < 65534 ∧ ((decide (h < 0)) == (z == 0)) = true ∧ k = 2 ∧ z % 64 ≠ 0) := by
      by_cases c1 : z < 0
      · exact .inl c1
      by_cases c2 : 268435456 < z
      · exact .inr (.inl ⟨by omega, c2⟩)
      by_cases c3 : h < -1
      · exact .inr (.inr (.inl ⟨by omega, by omega, c3⟩))
      by_cases c4 : 65534 ≤ h
      · exact .inr (.inr (.inr (.inl ⟨by omega, by omega, by omega, c4⟩)))
      cases c5 : ((decide (h < 0)) == (z == 0)) with
      | false => exact .inr (.inr (.inr (.inr (.inl ⟨by omega, by omega, by omega, by omega, rfl⟩))))
      | true =>
        have h5 : h < 0 ↔ z = 0 := by
          have := beq_iff_eq.1 c5
          constructor
          · intro hh
            rw [decide_eq_true hh] at this
            exact beq_iff_eq.1 this.symm
          · intro hz
            rw [beq_iff_eq.2 hz] at this
            exact of_decide_eq_true this
        refine .inr (.inr (.inr (.inr (.inr ⟨by omega, by omega, by omega, by omega, rfl, ?_, ?_⟩))))
        · rcases hk12 with rfl | h2
          · exact absurd ⟨.inl rfl, by omega, by omega, by omega, by omega, h5, .inl rfl⟩ hn
          · exact h2
        · intro hz
          exact hn ⟨hk12, by omega, by omega, by omega, by omega, h5, .inr hz⟩
    clear hn
    rcases hk12 with rfl | rfl <;> rcases hc with c | ⟨c1, c2⟩ | ⟨c1, c2, c3⟩ | ⟨c1, c2, c3, c4⟩ | ⟨c1, c2, c3, c4, c5⟩ | ⟨c1, c2, c3, c4, c5, c6, c7⟩
    all_goals
      first
        | (cases c6; done)
        | ((try have e7 : (z % 64 == 0) = false := beq_eq_false_iff_ne.2 c7)
           go_enter Tryz.func100, Tryz.ntmps100
           go_wp2
           go_ret
           exact ⟨rfl, bl_alloc (Below.refl _ _) _⟩)
  · have e1 : (k == 1) = false := beq_eq_false_iff_ne.2 (by omega)
    have e2 : (k == 2) = false := beq_eq_false_iff_ne.2 (by omega)
    clear hn hk12
    go_enter Tryz.func100, Tryz.ntmps100
    go_wp2
    go_ret
    exact ⟨rfl, bl_alloc (Below.refl _ _) _⟩

theorem may_ (k h z : Int) (w : World) : Calls Tryz.prog 100 #[.agg #[.int .i64 k, .int .i64 h, .int .i64 z]] w fun e w' => e = .returned (.bool (iB k h z)) ∧ Below w.heap.size w w' := by
  by_cases hk : k = 0
  · subst hk
    have e : iB 0 h z = decide (h = -1 ∧ z = 0) := by
      unfold iB iAll iOk
      by_cases c : h = -1 ∧ z = 0
      · rw [decide_eq_true (p := h = -1 ∧ z = 0) c]; exact decide_eq_true (.inl ⟨rfl, c⟩)
      · rw [decide_eq_false c]
        refine decide_eq_false ?_
        rintro (⟨_, h1⟩ | ⟨h1, _⟩)
        · exact c h1
        · omega
    rw [e]
    exact may_free h z w
  · by_cases hn : iOk k h z
    · rw [show iB k h z = true from decide_eq_true (.inr hn)]
      exact may_yes k h z hn w
    · rw [show iB k h z = false from decide_eq_false (by rintro (⟨h1, _⟩ | h1); · exact hk h1
                                                         · exact hn h1)]
      exact may_no k h z hk hn w

/-- its line -/
def iLine (k h z : Int) : List Nat := if k = 0 then List.replicate 8 0 else line (k.toNat + 65536 * (h + 1).toNat) z.toNat
theorem iLine_len (k h z : Int) : (iLine k h z).length = 8 := by unfold iLine; split <;> simp [line, head7]

theorem encode_no (k h z : Int) (hn : iB k h z = false) (w : World) : Calls Tryz.prog 57 #[.agg #[.int .i64 k, .int .i64 h, .int .i64 z]] w fun e w' => e = .returned (.tuple #[.slice none 0 0, .int .i64 1]) ∧ Below w.heap.size w w' := by
  have hu := Tryz.underlying27
  have HM : Hid (∀ W, Calls Tryz.prog 100 #[.agg #[.int .i64 k, .int .i64 h, .int .i64 z]] W fun e w' => e = .returned (.bool false) ∧ Below W.heap.size W w') := by
    intro W
    have := may_ k h z W
    rw [hn] at this
    exact this
  clear hn
  go_enter Tryz.func57, Tryz.ntmps57
  go_wp2_with fail
  refine (HM.out _).mono ?_
  rintro e w1 ⟨rfl, hb⟩
  have HB := Lib.hid (bl_then (bl_alloc (Below.refl _ _) _) hb)
  clear hb
  go_wp2_with fail
  go_ret2
  exact ⟨rfl, HB.out⟩

theorem encode_free (w : World) : Calls Tryz.prog 57 #[.agg #[.int .i64 0, .int .i64 (-1), .int .i64 0]] w fun e w' => ∃ v, e = .returned (.tuple #[v, .int .i64 0]) ∧ w'.ownsRow w.heap.size 60 1 v 8 (ivs .u64 (ints (List.replicate 8 0))) ∧ Below w.heap.size w w' := by
  have hu := Tryz.underlying27
  go_enter Tryz.func57, Tryz.ntmps57
  go_wp2_with fail
  refine (may_free (-1) 0 _).mono ?_
  rintro e w1 ⟨rfl, hb⟩
  rw [show decide ((-1 : Int) = -1 ∧ (0 : Int) = 0) = true from rfl]
  have hq := blk_bl (alloc_new w (.cells #[.int .i64 0, .int .i64 (-1), .int .i64 0] 27)) hb
  have k0 := cell_of hq 0
  have hlt := lt_of hq
  have HB := Lib.hid (bl_then (bl_alloc (Below.refl _ _) _) hb)
  clear hb hq
  go_wp2_with (at_make; refine Go.Proofs.YtichcdoijieddaaGreat.Wl.wpl_make rfl _ 22 60 rfl (.int .u64 0) 8 Tryz.underlying22 info_u64 rfl 8 .i64 _ rfl rfl (by decide) (by decide) ?_)
  go_ret2
  refine ⟨_, rfl, own_new (k := .u64) (l := ints (List.replicate 8 0)) (q := w1.heap.size) ?_ HB.out.size rfl (by unfold maxLen; omega), bl_alloc HB.out _⟩
  exact alloc_new w1 _

theorem encode_yes (k h z : Int) (hn : iB k h z = true) (w : World) : Calls Tryz.prog 57 #[.agg #[.int .i64 k, .int .i64 h, .int .i64 z]] w fun e w' => ∃ v, e = .returned (.tuple #[v, .int .i64 0]) ∧ w'.ownsRow w.heap.size 60 1 v 8 (ivs .u64 (ints (iLine k h z))) ∧ Below w.heap.size w w' := by
  rcases of_decide_eq_true hn with ⟨rfl, rfl, rfl⟩ | hk
  · exact encode_free w
  · have hk' := hk
    obtain ⟨h1, h2, h3, h4, h5, h6, h7⟩ := hk'
    obtain ⟨kk, rfl⟩ : ∃ kk : Nat, k = kk := ⟨k.toNat, by omega⟩
    obtain ⟨zz, rfl⟩ : ∃ zz : Nat, z = zz := ⟨z.toNat, by omega⟩
    have := encode_file kk (h + 1).toNat zz h (by omega) hk w
    unfold iLine
    rw [if_neg (by omega)]
    exact this

end Go.Proofs.YtichcdoijieddaaGreat.In
end

/- inode.Decode of a line. -/
section
set_option linter.unusedVariables false
set_option linter.unusedSimpArgs false
set_option maxHeartbeats 2000000
set_option maxRecDepth 100000
namespace Go.Proofs.YtichcdoijieddaaGreat.In
open Go Go.RowKit
open Go.Proofs.YtichcdoijieddaaGreat.Ob Go.Proofs.YtichcdoijieddaaGreat.Ba Go.Proofs.YtichcdoijieddaaGreat.Oc Go.Proofs.YtichcdoijieddaaGreat.Pk Go.Proofs.YtichcdoijieddaaGreat.Su Go.Proofs.YtichcdoijieddaaGreat.Cc Go.Proofs.YtichcdoijieddaaGreat.Cr Go.Proofs.YtichcdoijieddaaGreat.Ge

/-- whose line words are -/
def ok6 (l : List Nat) : Bool := decide (l.getD 0 0 < 4294967296) && (decide (l.getD 1 0 ≤ 268435456) && (iB (l.getD 0 0 % 65536 : Nat) ((l.getD 0 0 / 65536 : Nat) - 1) (l.getD 1 0) && decide (iLine (l.getD 0 0 % 65536 : Nat) ((l.getD 0 0 / 65536 : Nat) - 1) (l.getD 1 0) = l)))
def n6 (l : List Nat) : Int × Int × Int := if ok6 l then (((l.getD 0 0 % 65536 : Nat) : Int), ((l.getD 0 0 / 65536 : Nat) : Int) - 1, (l.getD 1 0 : Int)) else (0, -1, 0)
def D6 (l : List Nat) (e : Ending) : Prop := e = .returned (.tuple #[.agg #[.int .i64 (n6 l).1, .int .i64 (n6 l).2.1, .int .i64 (n6 l).2.2], .int .i64 (if ok6 l then 0 else 2)])
theorem d6_no {l : List Nat} (h : ok6 l = false) : D6 l (.returned (.tuple #[.agg #[.int .i64 0, .int .i64 (-1), .int .i64 0], .int .i64 2])) := by unfold D6 n6; rw [h]; rfl
theorem d6_yes {l : List Nat} {a b z : Nat} (ha : a = l.getD 0 0 % 65536) (hb : b = l.getD 0 0 / 65536) (hz : z = l.getD 1 0) (h : ok6 l = true) : D6 l (.returned (.tuple #[.agg #[.int .i64 a, .int .i64 ((b : Int) - 1), .int .i64 z], .int .i64 0])) := by unfold D6 n6; rw [h, ha, hb, hz]; rfl

theorem spl2 (x : Nat) (hx : x < 4294967296) : spl x [16, 16] = [x % 65536, x / 65536] := by
  simp only [spl]
  simp
  omega
theorem two_at' (w : World) (q T : Nat) (fr : Nat × Nat) (h : w.heap[q]? = some (.cells #[.int .i64 16, .int .i64 16] T fr)) : Rk .i64 w (some ⟨q, 0, none⟩) (ints [16, 16]) := by
  refine blk_rk h fun i x hx => ?_
  match i with
  | 0 => simpa [ints] using hx
  | 1 => simpa [ints] using hx
  | i + 2 => simp [ints] at hx

theorem dec_big {w : World} {A : Option Addr} {l : List Nat} (h : Rk .u64 w A (ints l)) (c : Nat) (hl : l.length = 8) (hlt : ∀ x ∈ l, x < 18446744073709551616) (hx : ¬ (l.getD 0 0 < 4294967296 ∧ l.getD 1 0 ≤ 268435456)) :
    Calls Tryz.prog 60 #[.slice A 8 c] w fun e w' => e = .returned (.tuple #[.agg #[.int .i64 0, .int .i64 (-1), .int .i64 0], .int .i64 2]) ∧ Below w.heap.size w w' := by
  have hu := Tryz.underlying27
  obtain ⟨x, hx0⟩ := some_at (l := l) (i := 0) (by omega)
  obtain ⟨y, hy1⟩ := some_at (l := l) (i := 1) (by omega)
  have hxe : l.getD 0 0 = x := by rw [List.getD_eq_getElem?_getD, hx0]; rfl
  have hye : l.getD 1 0 = y := by rw [List.getD_eq_getElem?_getD, hy1]; rfl
  rw [hxe, hye] at hx
  obtain ⟨a, rfl, ha0, ha⟩ := h 0 x (ints_get hx0)
  obtain ⟨_, e2, -, hb⟩ := h 1 y (ints_get hy1)
  cases e2
  have ha : w.cell? a = some (.int .u64 x) := ha
  have hb : w.cell? ⟨a.block, a.off + 1, none⟩ = some (.int .u64 y) := hb
  have hx64 := hlt x (List.mem_of_getElem? hx0)
  have hy64 := hlt y (List.mem_of_getElem? hy1)
  clear h hl hlt hx0 hy1 hxe hye
  have hsp : ∀ W : World, W.heap[w.heap.size + 1]? = some (.cells #[.int .i64 16, .int .i64 16] 3 (0, 0)) → _ := fun W hW => split_ (two_at' W (w.heap.size + 1) 3 (0, 0) hW) x hx64 2 (by simp) (by decide) (by decide)
  have hal : ((w.alloc (.cells #[.int .i64 0, .int .i64 0, .int .i64 0] 27)).alloc (.cells #[.int .i64 16, .int .i64 16] 3)).heap[w.heap.size + 1]? = some (.cells #[.int .i64 16, .int .i64 16] 3 (0, 0)) := by
    have := alloc_new (w.alloc (.cells #[.int .i64 0, .int .i64 0, .int .i64 0] 27)) (.cells #[.int .i64 16, .int .i64 16] 3)
    rw [World.size_alloc] at this
    exact this
  have HS := Lib.hid (hsp _ hal)
  have HO := Lib.hid (alloc_old (alloc_new w (.cells #[.int .i64 0, .int .i64 0, .int .i64 0] 27)) (.cells #[.int .i64 16, .int .i64 16] 3))
  have HN := Lib.hid none_
  clear hsp hal
  by_cases hxx : x < 4294967296
  · have hyy : 268435456 < y := by omega
    have hd : decide (x / 2 ^ ([16, 16] : List Nat).sum = 0) = true := decide_eq_true (by simp; omega)
    rw [hd] at HS
    clear hd hx hxx
    go_enter Tryz.func60, Tryz.ntmps60
    go_wp2_with fail
    refine (show Calls _ _ #[.int .u64 x, .slice (some ⟨w.heap.size + 1, 0, none⟩) 2 2] _ _ from HS.out).mono ?_
    rintro e w1 ⟨v, rfl, -, hb1⟩
    obtain ⟨hc, hf⟩ := bcell (bl_then (bl_alloc (bl_alloc (Below.refl _ _) _) _) hb1)
    have hq1 := blk_bl HO.out hb1
    have HB1 := Lib.hid (bl_then (bl_alloc (bl_alloc (Below.refl _ _) _) _) hb1)
    have hb9 : w1.cell? ⟨a.block, a.off + 1, none⟩ = some (.int .u64 y) := by rw [hc _ _ ha0]; exact hb
    have HQ1 := Lib.hid hq1
    clear hb1 hc hf hq1
    go_wp2_with fail
    refine (HN.out _).mono ?_
    rintro e w2 ⟨rfl, hb2⟩
    have hq2 := blk_bl HQ1.out hb2
    have l0 := cell_of hq2 0
    have l1 := cell_of hq2 1
    have l2 := cell_of hq2 2
    have f0 := free_of hq2 0
    have f1 := free_of hq2 1
    have f2 := free_of hq2 2
    have HQ2 := Lib.hid hq2
    have HB2 := Lib.hid (bl_then HB1.out hb2)
    clear hb2 hq2
    go_wp2_with fail
    exact bodyPost_ret (res_ct (u := 3) rfl _ _ w.heap.size 27 #[.int .i64 0, .int .i64 (-1), .int .i64 0] (0, 0) _ rfl (put3 HQ2.out _ _ _) hu rfl (by kernel_rfl)) rfl ⟨rfl, bl_put3 HB2.out (Nat.le_refl _) _ _ _⟩
  · have hd : decide (x / 2 ^ ([16, 16] : List Nat).sum = 0) = false := decide_eq_false (by simp; omega)
    rw [hd] at HS
    clear hd hx hxx
    go_enter Tryz.func60, Tryz.ntmps60
    go_wp2_with fail
    refine (show Calls _ _ #[.int .u64 x, .slice (some ⟨w.heap.size + 1, 0, none⟩) 2 2] _ _ from HS.out).mono ?_
    rintro e w1 ⟨v, rfl, -, hb1⟩
    have hq1 := blk_bl HO.out hb1
    have HB1 := Lib.hid (bl_then (bl_alloc (bl_alloc (Below.refl _ _) _) _) hb1)
    have HQ1 := Lib.hid hq1
    clear hb1 hq1
    go_wp2_with fail
    refine (HN.out _).mono ?_
    rintro e w2 ⟨rfl, hb2⟩
    have hq2 := blk_bl HQ1.out hb2
    have l0 := cell_of hq2 0
    have l1 := cell_of hq2 1
    have l2 := cell_of hq2 2
    have f0 := free_of hq2 0
    have f1 := free_of hq2 1
    have f2 := free_of hq2 2
    have HQ2 := Lib.hid hq2
    have HB2 := Lib.hid (bl_then HB1.out hb2)
    clear hb2 hq2
    go_wp2_with fail
    exact bodyPost_ret (res_ct (u := 3) rfl _ _ w.heap.size 27 #[.int .i64 0, .int .i64 (-1), .int .i64 0] (0, 0) _ rfl (put3 HQ2.out _ _ _) hu rfl (by kernel_rfl)) rfl ⟨rfl, bl_put3 HB2.out (Nat.le_refl _) _ _ _⟩

theorem dec_rest6 {w : World} {A : Option Addr} {l : List Nat} (h : Rk .u64 w A (ints l)) (c : Nat) (hl : l.length = 8) (hlt : ∀ x ∈ l, x < 18446744073709551616) (hx : l.getD 0 0 < 4294967296 ∧ l.getD 1 0 ≤ 268435456) :
    Calls Tryz.prog 60 #[.slice A 8 c] w fun e w' => D6 l e ∧ Below w.heap.size w w' := by
  have hu := Tryz.underlying27
  obtain ⟨x, hx0⟩ := some_at (l := l) (i := 0) (by omega)
  obtain ⟨y, hy1⟩ := some_at (l := l) (i := 1) (by omega)
  have hxe : l.getD 0 0 = x := by rw [List.getD_eq_getElem?_getD, hx0]; rfl
  have hye : l.getD 1 0 = y := by rw [List.getD_eq_getElem?_getD, hy1]; rfl
  rw [hxe, hye] at hx
  obtain ⟨hx9, hy9⟩ := hx
  obtain ⟨a, ha1⟩ : ∃ a, a = x % 65536 := ⟨_, rfl⟩
  obtain ⟨b, hb1⟩ : ∃ b, b = x / 65536 := ⟨_, rfl⟩
  have ha9 : a < 65536 := by omega
  have hb9 : b < 65536 := by omega
  have HF : Hid (a = l.getD 0 0 % 65536 ∧ b = l.getD 0 0 / 65536 ∧ y = l.getD 1 0) := ⟨by rw [hxe]; exact ha1, by rw [hxe]; exact hb1, hye.symm⟩
  have HOK : Hid (ok6 l = (iB a ((b : Int) - 1) y && decide (iLine a ((b : Int) - 1) y = l))) := by
    show _ = _
    unfold ok6
    rw [hxe, hye, ← ha1, ← hb1, decide_eq_true hx9, decide_eq_true hy9]
    rfl
  have H := Lib.hid h
  obtain ⟨ad, rfl, ha0, ha⟩ := h 0 x (ints_get hx0)
  obtain ⟨_, e2, -, hb⟩ := h 1 y (ints_get hy1)
  cases e2
  have ha : w.cell? ad = some (.int .u64 x) := ha
  have hb : w.cell? ⟨ad.block, ad.off + 1, none⟩ = some (.int .u64 y) := hb
  have hx64 := hlt x (List.mem_of_getElem? hx0)
  have HL := Lib.hid hl
  have hal : ((w.alloc (.cells #[.int .i64 0, .int .i64 0, .int .i64 0] 27)).alloc (.cells #[.int .i64 16, .int .i64 16] 3)).heap[w.heap.size + 1]? = some (.cells #[.int .i64 16, .int .i64 16] 3 (0, 0)) := by
    have := alloc_new (w.alloc (.cells #[.int .i64 0, .int .i64 0, .int .i64 0] 27)) (.cells #[.int .i64 16, .int .i64 16] 3)
    rw [World.size_alloc] at this
    exact this
  have hsp := split_ (two_at' _ _ _ _ hal) x hx64 2 (by simp) (by decide) (by decide)
  have hne : x / 2 ^ ([16, 16] : List Nat).sum = 0 := by simp; omega
  rw [decide_eq_true hne, spl2 x hx9, ← ha1, ← hb1, show ([16, 16] : List Nat).length = 2 from rfl] at hsp
  have HS := Lib.hid (And.intro hsp hne)
  have HO := Lib.hid (alloc_old (alloc_new w (.cells #[.int .i64 0, .int .i64 0, .int .i64 0] 27)) (.cells #[.int .i64 16, .int .i64 16] 3))
  have HN := Lib.hid none_
  clear hsp hal hne h hl hlt hx0 hy1 hxe hye ha1 hb1
  go_enter Tryz.func60, Tryz.ntmps60
  go_wp2_with fail
  refine (show Calls _ _ #[.int .u64 x, .slice (some ⟨w.heap.size + 1, 0, none⟩) 2 2] _ _ from HS.out.1).mono ?_
  rintro e w1 ⟨v, rfl, hown, hb1⟩
  have hown := hown HS.out.2
  obtain ⟨A1, c1, rfl⟩ := own_slice hown
  obtain ⟨g1, rfl, hc0, hf0⟩ := own_at (i := 0) (x := (a : Nat)) hown rfl
  obtain ⟨g2, e2, hc1, hf1⟩ := own_at (i := 1) (x := (b : Nat)) hown rfl
  cases e2
  obtain ⟨hc, hf⟩ := bcell (bl_then (bl_alloc (bl_alloc (Below.refl _ _) _) _) hb1)
  have hq1 : Hid (w1.heap[w.heap.size]? = some (.cells #[.int .i64 0, .int .i64 0, .int .i64 0] 27 (0, 0))) := blk_bl HO.out hb1
  have HQ1 : Hid (Below w.heap.size w w1) := bl_then (bl_alloc (bl_alloc (Below.refl _ _) _) _) hb1
  have hy1 : w1.cell? ⟨ad.block, ad.off + 1, none⟩ = some (.int .u64 y) := by rw [hc _ _ ha0]; exact hb
  have hg : g1 < w1.heap.size := by
    have := hc0
    unfold World.cell? at this
    cases hq : w1.heap[g1]? with
    | none => simp [hq] at this
    | some o => exact lt_of hq
  have had : ad.block < w1.heap.size := Nat.lt_of_lt_of_le ha0 HQ1.out.size
  have hz1 : w.heap.size < w1.heap.size := lt_of hq1.out
  clear hown hb1 hf0 hf1 ha hb hc hf
  go_wp2_with fail
  go_region
  by_cases hgeo : iB a ((b : Int) - 1) y = true
  · have HG := Lib.hid hgeo
    have hen := encode_yes a ((b : Int) - 1) y hgeo
    have hn8 : (iLine a ((b : Int) - 1) y).length = 8 := iLine_len _ _ _
    have HLE0 := Lib.hid HOK.out
    obtain ⟨L6, hL6⟩ : ∃ L6, L6 = iLine a ((b : Int) - 1) y := ⟨_, rfl⟩
    rw [← hL6] at hen hn8 HOK
    have HEN := Lib.hid hen
    clear hgeo hen hL6 HLE0
    go_wp2_with fail
    refine (HEN.out _).mono ?_
    rintro e w2 ⟨v2, rfl, hown2, hb2⟩
    have hb2' : Below w1.heap.size w1 w2 := bl_then (bl_drew (bl_alloc (Below.refl _ _) _)) hb2
    obtain ⟨A2, c2, rfl⟩ := own_slice hown2
    have hrk2 := (own_rk (k := .u64) hown2).1
    have hlr : Rk .u64 w2 (some ad) (ints l) := H.out.below (bl_then HQ1.out hb2')
    have heq := Go.Proofs.YtichcdoijieddaaGreat.Pm.equal_any (rk_rd hrk2) (rk_rd hlr) c2 c (by rw [ints_length, hn8]; decide) (by rw [ints_length, HL.out]; decide)
    rw [ints_length, ints_length, hn8, HL.out] at heq
    have HE := Lib.hid heq
    have hgb := blk_bl (W := (w1.alloc (.cells #[.int .i64 a, .int .i64 ((b : Int) - 1), .int .i64 y] 27)).drew) (alloc_new w1 (.cells #[.int .i64 a, .int .i64 ((b : Int) - 1), .int .i64 y] 27)) hb2
    have m0 := cell_of hgb 0
    have m1 := cell_of hgb 1
    have m2 := cell_of hgb 2
    have hq2 := Lib.hid (blk_bl hq1.out hb2')
    have HQ2 := Lib.hid (bl_then HQ1.out hb2')
    have hgl := lt_of hgb
    have l0 := cell_of hq2.out 0
    have l1 := cell_of hq2.out 1
    have l2 := cell_of hq2.out 2
    have f0 := free_of hq2.out 0
    have f1 := free_of hq2.out 1
    have f2 := free_of hq2.out 2
    clear hown2 hb2 hb2' hrk2 hlr heq hgb hn8
    go_wp2_with fail
    refine HE.out.mono ?_
    rintro e w3 ⟨rfl, n3, rfl⟩
    by_cases hle : ints L6 = ints l
    · have hle' : L6 = l := ints_inj.1 hle
      rw [decide_eq_true hle]
      have HLE : Hid (ok6 l = true) := by show _ = _; rw [HOK.out, HG.out, decide_eq_true hle']; rfl
      clear hle hle'
      go_wp2_with fail
      exact bodyPost_ret (res_ct (u := 3) rfl _ _ w.heap.size 27 #[.int .i64 a, .int .i64 ((b : Int) - 1), .int .i64 y] (0, 0) _ rfl (put3 hq2.out _ _ _) hu rfl (by kernel_rfl)) rfl ⟨d6_yes HF.out.1 HF.out.2.1 HF.out.2.2 HLE.out, bl_put3 (bl_drewN HQ2.out _) (Nat.le_refl _) _ _ _⟩
    · rw [decide_eq_false hle]
      have HLE : Hid (ok6 l = false) := by show _ = _; rw [HOK.out, decide_eq_false (fun h => hle (by rw [h]))]; simp
      clear hle
      go_wp2_with fail
      refine (HN.out _).mono ?_
      rintro e w4 ⟨rfl, hb4⟩
      have hq4 := Lib.hid (blk_bl (W := w2.drewN n3) hq2.out hb4)
      have HQ4 := Lib.hid (bl_then (bl_drewN HQ2.out n3) hb4)
      clear hb4 l0 l1 l2 f0 f1 f2
      have l0 := cell_of hq4.out 0
      have l1 := cell_of hq4.out 1
      have l2 := cell_of hq4.out 2
      have f0 := free_of hq4.out 0
      have f1 := free_of hq4.out 1
      have f2 := free_of hq4.out 2
      go_wp2_with fail
      exact bodyPost_ret (res_ct (u := 3) rfl _ _ w.heap.size 27 #[.int .i64 0, .int .i64 (-1), .int .i64 0] (0, 0) _ rfl (put3 hq4.out _ _ _) hu rfl (by kernel_rfl)) rfl ⟨d6_no HLE.out, bl_put3 HQ4.out (Nat.le_refl _) _ _ _⟩
  · have hgeo' : iB a ((b : Int) - 1) y = false := by simpa using hgeo
    have HLE : Hid (ok6 l = false) := by show _ = _; rw [HOK.out, hgeo']; rfl
    have HEN := Lib.hid (encode_no a ((b : Int) - 1) y hgeo')
    clear hgeo hgeo'
    go_wp2_with fail
    refine (HEN.out _).mono ?_
    rintro e w2 ⟨rfl, hb2⟩
    have hb2' : Below w1.heap.size w1 w2 := bl_then (bl_drew (bl_alloc (Below.refl _ _) _)) hb2
    have hq2 := Lib.hid (blk_bl hq1.out hb2')
    have HQ2 := Lib.hid (bl_then HQ1.out hb2')
    clear hb2 hb2'
    go_wp2_with fail
    refine (HN.out _).mono ?_
    rintro e w4 ⟨rfl, hb4⟩
    have hq4 := Lib.hid (blk_bl hq2.out hb4)
    have HQ4 := Lib.hid (bl_then HQ2.out hb4)
    clear hb4
    have l0 := cell_of hq4.out 0
    have l1 := cell_of hq4.out 1
    have l2 := cell_of hq4.out 2
    have f0 := free_of hq4.out 0
    have f1 := free_of hq4.out 1
    have f2 := free_of hq4.out 2
    go_wp2_with fail
    exact bodyPost_ret (res_ct (u := 3) rfl _ _ w.heap.size 27 #[.int .i64 0, .int .i64 (-1), .int .i64 0] (0, 0) _ rfl (put3 hq4.out _ _ _) hu rfl (by kernel_rfl)) rfl ⟨d6_no HLE.out, bl_put3 HQ4.out (Nat.le_refl _) _ _ _⟩

theorem decode_ {w : World} {A : Option Addr} {l : List Nat} (h : Rk .u64 w A (ints l)) (c : Nat) (hl : l.length = 8) (hlt : ∀ x ∈ l, x < 18446744073709551616) :
    Calls Tryz.prog 60 #[.slice A 8 c] w fun e w' => D6 l e ∧ Below w.heap.size w w' := by
  by_cases hx : l.getD 0 0 < 4294967296 ∧ l.getD 1 0 ≤ 268435456
  · exact dec_rest6 h c hl hlt hx
  · refine (dec_big h c hl hlt hx).mono ?_
    rintro e w' ⟨rfl, hb⟩
    refine ⟨d6_no ?_, hb⟩
    unfold ok6
    by_cases h1 : l.getD 0 0 < 4294967296
    · rw [decide_eq_false (p := l.getD 1 0 ≤ 268435456) (fun h2 => hx ⟨h1, h2⟩)]; simp
    · rw [decide_eq_false h1]; rfl

end Go.Proofs.YtichcdoijieddaaGreat.In
end

/- volume.SetInode, Inode. -/
section
set_option linter.unusedVariables false
set_option linter.unusedSimpArgs false
set_option maxHeartbeats 2000000
set_option maxRecDepth 100000
namespace Go.Proofs.YtichcdoijieddaaGreat.Vo
open Go Go.RowKit
open Go.Proofs.YtichcdoijieddaaGreat.Ob Go.Proofs.YtichcdoijieddaaGreat.Ba Go.Proofs.YtichcdoijieddaaGreat.Oc Go.Proofs.YtichcdoijieddaaGreat.Pk Go.Proofs.YtichcdoijieddaaGreat.Dv Go.Proofs.YtichcdoijieddaaGreat.Su Go.Proofs.YtichcdoijieddaaGreat.Mp Go.Proofs.YtichcdoijieddaaGreat.Ge Go.Proofs.YtichcdoijieddaaGreat.Lo Go.Proofs.YtichcdoijieddaaGreat.Ko Go.Proofs.YtichcdoijieddaaGreat.In

theorem setinode_range {w : World} {v b n m s : Nat} {d : Dev} {g : Lay} (h : VolIs w v b n m s d g) (i x y z : Int) (hi : i < 0 ∨ (m : Int) ≤ i) :
    Calls Tryz.prog 10 #[.pointer (some ⟨v, 0, none⟩), .int .i64 i, .agg #[.int .i64 x, .int .i64 y, .int .i64 z]] w fun e w' => e = .returned (.int .i64 9) ∧ Below w.heap.size w w' := by
  have hu := Tryz.underlying27
  have hsl := inode_ n m s i h.ok
  rw [plc_no hi] at hsl
  have HS := Lib.hid hsl
  have h2 := h.below (bl_alloc (Below.refl _ _) (.cells #[.int .i64 x, .int .i64 y, .int .i64 z] 27))
  obtain ⟨c0, c1, c2, c3⟩ := h2.cells
  clear h h2 hi hsl
  go_enter Tryz.func10, Tryz.ntmps10
  go_wp2_with (go_at_call 56; refine (HS.out _).mono ?_; rintro e w1 ⟨rfl, hb⟩; (have HB := Lib.hid hb); clear hb)
  go_ret
  exact ⟨rfl, bl_then (bl_alloc (Below.refl _ _) _) HB.out⟩

theorem setinode_no {w : World} {v b n m s : Nat} {d : Dev} {g : Lay} (h : VolIs w v b n m s d g) (i x y z : Int) (hi : 0 ≤ i ∧ i < (m : Int)) (hmay : iB x y z = false) :
    Calls Tryz.prog 10 #[.pointer (some ⟨v, 0, none⟩), .int .i64 i, .agg #[.int .i64 x, .int .i64 y, .int .i64 z]] w fun e w' => e = .returned (.int .i64 1) ∧ Below w.heap.size w w' := by
  have hu := Tryz.underlying27
  have hsl := inode_ n m s i h.ok
  rw [plc_yes hi] at hsl
  obtain ⟨k, hk⟩ : ∃ k, k = 16 + 8 * i := ⟨_, rfl⟩
  rw [← hk] at hsl
  have hk0 : 0 ≤ k := by omega
  have HS := Lib.hid hsl
  have HE := Lib.hid (encode_no x y z hmay)
  have h2 := h.below (bl_alloc (Below.refl _ _) (.cells #[.int .i64 x, .int .i64 y, .int .i64 z] 27))
  obtain ⟨c0, c1, c2, c3⟩ := h2.cells
  clear h h2 hi hsl hk hmay
  go_enter Tryz.func10, Tryz.ntmps10
  go_wp2_with (first | (go_at_call 56; refine (HS.out _).mono ?_; rintro e w1 ⟨rfl, hb⟩; (have hq := blk_bl (alloc_new w (.cells #[.int .i64 x, .int .i64 y, .int .i64 z] 27)) hb); (have m0 := cell_of hq 0); (have m1 := cell_of hq 1); (have m2 := cell_of hq 2); (have HB := Lib.hid hb); clear hb hq) |
    (go_at_call 57; refine (HE.out _).mono ?_; rintro e w2 ⟨rfl, hb⟩; (have HB2 := Lib.hid hb); clear hb))
  go_ret
  exact ⟨rfl, bl_then (bl_then (bl_alloc (Below.refl _ _) _) HB.out) HB2.out⟩

theorem setinode_yes {w : World} {v b n m s : Nat} {d : Dev} {g : Lay} (h : VolIs w v b n m s d g) (hst : d.steps ≤ 1000000000) (i x y z : Int) (hi : 0 ≤ i ∧ i < (m : Int)) (hmay : iB x y z = true) (k : Nat) (hk : (k : Int) = 16 + 8 * i)
    (R : Dev × Option Nat) (hR : putGo true (ints (iLine x y z)) k ⟨d, 0, []⟩ = R) :
    Calls Tryz.prog 10 #[.pointer (some ⟨v, 0, none⟩), .int .i64 i, .agg #[.int .i64 x, .int .i64 y, .int .i64 z]] w fun e w' => e = .returned (.int .i64 (ecode R)) ∧ DevTo w w' b g R.1 := by
  have hu := Tryz.underlying27
  have hsl := inode_ n m s i h.ok
  rw [plc_yes hi, ← hk] at hsl
  have hin := inB_out (ok_out h.ok).1
  have hk9 : k ≤ 1000000000 := by omega
  have HS := Lib.hid hsl
  have HE := Lib.hid (encode_yes x y z hmay)
  have HV := Lib.hid h
  have HST := Lib.hid hst
  have HR := Lib.hid hR
  have HK9 := Lib.hid hk9
  have HLN := Lib.hid (iLine_len x y z)
  have h2 := h.below (bl_alloc (Below.refl _ _) (.cells #[.int .i64 x, .int .i64 y, .int .i64 z] 27))
  obtain ⟨c0, c1, c2, c3⟩ := h2.cells
  clear h h2 hi hsl hk hmay hin hst hR hk9
  generalize iLine x y z = t at *
  go_enter Tryz.func10, Tryz.ntmps10
  go_wp2_with (first | (go_at_call 56; refine (HS.out _).mono ?_; rintro e w1 ⟨rfl, hb⟩; (have hq := blk_bl (alloc_new w (.cells #[.int .i64 x, .int .i64 y, .int .i64 z] 27)) hb); (have m0 := cell_of hq 0); (have m1 := cell_of hq 1); (have m2 := cell_of hq 2); (have HB := Lib.hid hb); clear hb hq) |
    (go_at_call 57; refine (HE.out _).mono ?_; rintro e w2 ⟨v2, rfl, hown, hb⟩; (have hbw := bl_then (bl_alloc (Below.refl _ _) _) HB.out); (have hlo2 := hbw.size); (obtain ⟨A2, c2, rfl⟩ := own_slice hown); (have HR2 := Lib.hid (own_rk (k := .u64) hown).1); (have HA2 : Hid (∀ p, A2 = some p → w.heap.size ≤ p.block) := fun p hp => Nat.le_trans hlo2 (own_lo hown _ (by rw [hp]; rfl))); (have HB2 := Lib.hid (bl_then hbw hb)); (have HV2 := Lib.hid (HV.out.below HB2.out)); (have n0 := HV2.out.cells.1); clear hb HB hown hbw hlo2))
  have hput := put_all HV2.out.dev HR2.out (fun p hp hm => by have := HA2.out p hp; have := HV.out.dev.lt _ hm; omega) k c2 HK9.out (by rw [ints_length, HLN.out]; decide) HST.out R HR.out
  rw [ints_length, HLN.out] at hput
  refine hput.mono ?_
  rintro e w4 ⟨rfl, hto⟩
  have HTO := Lib.hid hto
  clear hput hto
  go_wp2_with fail
  go_ret
  exact ⟨rfl, by
    obtain ⟨g2, q1, q2, q3⟩ := HTO.out
    have hbb := HB2.out
    refine ⟨g2, q1, fun u hu => ?_, (Upd.of_below (F := g.foot b) hbb).trans q3 (fun u hu => .inl hu)⟩
    rcases q2 u hu with r | r
    · exact .inl r
    · exact .inr (Nat.le_trans hbb.size r)⟩

theorem inode_get {w : World} {v b n m s : Nat} {d : Dev} {g : Lay} (h : VolIs w v b n m s d g) (i : Int) (hi : 0 ≤ i ∧ i < (m : Int)) (k : Nat) (hk : (k : Int) = 16 + 8 * i) (ws : List Nat) (hw : lds d k 8 = ints ws) (hws : ∀ x ∈ ws, x < 18446744073709551616) :
    Calls Tryz.prog 12 #[.pointer (some ⟨v, 0, none⟩), .int .i64 i] w fun e w' => D6 ws e ∧ Below w.heap.size w w' := by
  have hu := Tryz.underlying27
  have hsl := inode_ n m s i h.ok
  rw [plc_yes hi, ← hk] at hsl
  have hin := inB_out (ok_out h.ok).1
  have hk9 : k ≤ 1000000000 := by omega
  have hl8 : ws.length = 8 := by rw [← ints_length, ← hw, lds_length]
  have HS := Lib.hid hsl
  have HV := Lib.hid h
  have HLN : Hid (∀ {W : World}, Below w.heap.size w W → _) := fun {W} hb => line_ (h.dev.below hb) k 8 hk9 (by decide)
  rw [hw] at HLN
  have HDE : Hid (∀ {W : World} {A : Option Addr} {c : Nat}, Rk .u64 W A (ints ws) → _) := fun {W A c} hr => decode_ (w := W) (A := A) hr c hl8 hws
  have h2 := h.below (bl_alloc (Below.refl _ _) (.cells #[.int .i64 0, .int .i64 0, .int .i64 0] 27))
  obtain ⟨c0, c1, c2, c3⟩ := h2.cells
  clear h h2 hi hsl hk hin hw hws hl8 hk9
  go_enter Tryz.func12, Tryz.ntmps12
  go_wp2_with fail
  refine (HS.out _).mono ?_
  rintro e w1 ⟨rfl, hb⟩
  have hq1 := Lib.hid (blk_bl (alloc_new w (.cells #[.int .i64 0, .int .i64 0, .int .i64 0] 27)) hb)
  have HB1 := Lib.hid (bl_then (bl_alloc (Below.refl _ _) _) hb)
  have n0 := (HV.out.below HB1.out).cells.1
  clear hb
  go_wp2_with fail
  refine (HLN.out HB1.out).mono ?_
  rintro e w2 ⟨v2, rfl, hown, hb⟩
  obtain ⟨A2, c2, rfl⟩ := own_slice hown
  have hq2 := Lib.hid (blk_bl hq1.out hb)
  have HB2 := Lib.hid (bl_then HB1.out hb)
  have HR2 := Lib.hid (own_rk (k := .u64) hown).1
  clear hb hown
  go_wp2_with fail
  refine (HDE.out HR2.out).mono ?_
  rintro e w3 ⟨he, hb⟩
  obtain ⟨q0, q1, q2, qe, he2, hd⟩ : ∃ q0 q1 q2 qe, e = .returned (.tuple #[.agg #[.int .i64 q0, .int .i64 q1, .int .i64 q2], .int .i64 qe]) ∧ D6 ws (.returned (.tuple #[.agg #[.int .i64 q0, .int .i64 q1, .int .i64 q2], .int .i64 qe])) := ⟨_, _, _, _, he, rfl⟩
  subst he2
  have HD := Lib.hid hd
  have hq3 := Lib.hid (blk_bl hq2.out hb)
  have HB3 := Lib.hid (bl_then HB2.out hb)
  have l0 := cell_of hq3.out 0
  have l1 := cell_of hq3.out 1
  have l2 := cell_of hq3.out 2
  have f0 := free_of hq3.out 0
  have f1 := free_of hq3.out 1
  have f2 := free_of hq3.out 2
  clear he hd hb
  go_wp2_with fail
  exact bodyPost_ret (res_ct (u := 5) rfl _ _ w.heap.size 27 #[.int .i64 q0, .int .i64 q1, .int .i64 q2] (0, 0) _ rfl (put3 hq3.out _ _ _) hu rfl (by kernel_rfl)) rfl ⟨HD.out, bl_put3 HB3.out (Nat.le_refl _) _ _ _⟩

theorem inode_out {w : World} {v b n m s : Nat} {d : Dev} {g : Lay} (h : VolIs w v b n m s d g) (i : Int) (hi : i < 0 ∨ (m : Int) ≤ i) :
    Calls Tryz.prog 12 #[.pointer (some ⟨v, 0, none⟩), .int .i64 i] w fun e w' => e = .returned (.tuple #[.agg #[.int .i64 0, .int .i64 (-1), .int .i64 0], .int .i64 9]) ∧ Below w.heap.size w w' := by
  have hu := Tryz.underlying27
  have hsl := inode_ n m s i h.ok
  rw [plc_no hi] at hsl
  have HS := Lib.hid hsl
  have h2 := h.below (bl_alloc (Below.refl _ _) (.cells #[.int .i64 0, .int .i64 0, .int .i64 0] 27))
  obtain ⟨c0, c1, c2, c3⟩ := h2.cells
  clear h h2 hi hsl
  go_enter Tryz.func12, Tryz.ntmps12
  go_wp2_with fail
  refine (HS.out _).mono ?_
  rintro e w1 ⟨rfl, hb⟩
  have hq1 := Lib.hid (blk_bl (alloc_new w (.cells #[.int .i64 0, .int .i64 0, .int .i64 0] 27)) hb)
  have HB1 := Lib.hid (bl_then (bl_alloc (Below.refl _ _) _) hb)
  clear hb
  go_wp2_with fail
  refine (none_ _).mono ?_
  rintro e w2 ⟨rfl, hb⟩
  have hq2 := Lib.hid (blk_bl hq1.out hb)
  have HB2 := Lib.hid (bl_then HB1.out hb)
  have l0 := cell_of hq2.out 0
  have l1 := cell_of hq2.out 1
  have l2 := cell_of hq2.out 2
  have f0 := free_of hq2.out 0
  have f1 := free_of hq2.out 1
  have f2 := free_of hq2.out 2
  clear hb
  go_wp2_with fail
  exact bodyPost_ret (res_ct (u := 5) rfl _ _ w.heap.size 27 #[.int .i64 0, .int .i64 (-1), .int .i64 0] (0, 0) _ rfl (put3 hq2.out _ _ _) hu rfl (by kernel_rfl)) rfl ⟨rfl, bl_put3 HB2.out (Nat.le_refl _) _ _ _⟩

end Go.Proofs.YtichcdoijieddaaGreat.Vo
end
