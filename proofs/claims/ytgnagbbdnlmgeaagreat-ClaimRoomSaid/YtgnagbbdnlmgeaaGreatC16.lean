/- Parts of the proof, one behind the other: Az, Vg, Mb, Vc, Vj, Rz, Ru, Md, Is. -/
import Derived.Test.YtgnagbbdnlmgeaaGreatC01
import Derived.Lib.AppendZerosOnto
import Derived.Test.YtgnagbbdnlmgeaaGreatC15
import Derived.Test.YtgnagbbdnlmgeaaGreatC07
import Derived.Test.YtgnagbbdnlmgeaaGreatC05
import Derived.Test.YtgnagbbdnlmgeaaGreatC14
import Derived.Deep.RegionHeld3
import Derived.Test.YtgnagbbdnlmgeaaGreatC11
import Derived.Test.YtgnagbbdnlmgeaaGreatC09

/- append(own, make([]T, k)...) to a row of one's own, of one-cell elements. No program is named. -/
section
set_option linter.unusedVariables false
set_option linter.unusedSimpArgs false
namespace Go.Proofs.YtgnagbbdnlmgeaaGreat.Az
open Go Go.RowKit
open Go.Proofs.YtgnagbbdnlmgeaaGreat.Ob Go.Proofs.YtgnagbbdnlmgeaaGreat.Ba

theorem zeroCells_one (z : Value) (k : Nat) : Builtin.zeroCells #[z] k = (List.replicate k z).toArray := by
  unfold Builtin.zeroCells
  apply Array.ext
  · simp
  · intro i h1 h2
    simp [Nat.mod_one]

theorem run_append_own_zeros {P : Program} (w : World) (base : Nat) (t tn ty e : TypeId) (i : TypeInfo) (z : Value) (bytes : Nat) (kq kn : IntKind) (ht : P.underlying t = some (.slice e)) (htn : P.underlying tn = some (.int kn)) (hi : P.info? e = some i) (hz : i.zero = some z)
    (hsize : i.size = 1) (hby : i.bytes = bytes) (hzs : z.cells = #[z]) (h1 : z.oneCell' = true)
    (v : Value) (n : Nat) (xs : List Value) (hown : w.ownsRow base e 1 v n xs) (k : Nat)
    (h63 : n + k ≤ maxLen) (hbytes : (n + k) * bytes ≤ 140737488355328) (hbase : base ≤ w.heap.size) :
    ∃ v' w', (Builtin.append_ #[t, tn] ty #[v, .int kq k]).run P w = .ok v' w' ∧ w'.ownsRow base e 1 v' (n + k) (xs ++ List.replicate k z) ∧ w.grownBy w' v.ownBlock := by
  subst hby
  have hsmall : n + k ≤ 9223372036854775807 := by simp only [maxLen] at h63; omega
  have hkb : k * i.bytes ≤ 281474976710656 := by
    have : k * i.bytes ≤ (n + k) * i.bytes := Nat.mul_le_mul_right _ (by omega)
    omega
  have hzl : ∀ m, Builtin.zeroCells z.cells m = (List.replicate m z).toArray := fun m => by rw [hzs]; exact zeroCells_one z m
  have hlen : (xs ++ List.replicate k z).length = (n + k) * 1 := by rw [List.length_append, hown.1, List.length_replicate]; omega
  have hw : IntKind.i64.wrap (k : Int) = k := by rw [IntKind.wrap_i64]; omega
  have hneg : ¬ ((k : Int) < 0) := by omega
  have h48i : ¬ (281474976710656 < (k : Int) * (i.bytes : Int)) := by
    rw [← Int.natCast_mul]
    omega
  have grown : ∀ (old : Nat), old < n + k → ∀ (row : Option Nat),
      (w.drew.alloc (.cells (xs.toArray ++ Builtin.zeroCells z.cells k ++ Builtin.zeroCells z.cells (grownCap w (n + k) old e - (n + k))) e)).ownsRow base e 1
        (.slice (some ⟨w.heap.size, 0, none⟩) (n + k) (grownCap w (n + k) old e)) (n + k) (xs ++ List.replicate k z) ∧
      w.grownBy (w.drew.alloc (.cells (xs.toArray ++ Builtin.zeroCells z.cells k ++ Builtin.zeroCells z.cells (grownCap w (n + k) old e - (n + k))) e)) row := by
    intro old ho row
    have hge := grownCap_ge w (n + k) old e
    have hcm : grownCap w (n + k) old e ≤ maxLen := grownCap_le_maxLen w (n + k) old e h63
    refine ⟨⟨hlen, .inr ⟨w.heap.size, _, _, rfl, hbase, heap_alloc_new w.drew _, hge, hcm, ?_, ?_⟩⟩, ⟨rfl, rfl, rfl, by simp, fun q hq _ => Below.heap_alloc w.drew _ q hq⟩⟩
    · have := hown.1
      simp only [Array.size_append, List.size_toArray, hzl, List.length_replicate]
      omega
    · simp only [Array.toList_append, hzl, List.append_assoc]
      rw [← List.append_assoc, ← hlen]
      exact List.take_left
  rcases hown.2 with ⟨rfl, rfl⟩ | ⟨g, cap, cur, rfl, hbg, hg, hnc, hcm, hcs, htake⟩
  · have hx : xs = [] := List.eq_nil_of_length_eq_zero (by simpa using hown.1)
    subst hx
    by_cases hk : k = 0
    · subst hk
      refine ⟨.slice none 0 0, w, ?_, World.ownsRow_nil w base e 1, ⟨rfl, rfl, rfl, Nat.le_refl _, fun _ _ _ => rfl⟩⟩
      simp [Builtin.append_, run_underlying ht, run_underlying htn, sizeOf, typeInfo, zeroValue, hi, hz, asInt, asIntOf, hsize, IntKind.wrap_i64]
    · have hr := Lib.run_append_nil_zeros (P := P) w t tn ty e i z kq kn ht htn hi hz k (by omega) (by omega) (by omega) hkb
      have hgr := grown 0 (by omega) (Value.ownBlock (.slice none 0 0))
      simp only [Nat.zero_add, List.nil_append, Array.empty_append] at hgr ⊢
      exact ⟨_, _, hr, hgr.1, hgr.2⟩
  · by_cases hroom : n + k ≤ cap
    · have hst := run_storeCells_at P g n e (List.replicate k z) 0 cur w hg (by rw [List.length_replicate]; omega) (by intro u hu; rw [(List.mem_replicate.1 hu).2]; exact h1)
      simp only [Nat.add_zero] at hst
      have hr : (Builtin.append_ #[t, tn] ty #[.slice (some ⟨g, 0, none⟩) n cap, .int kq k]).run P w =
          .ok (.slice (some ⟨g, 0, none⟩) (n + k) cap) (w.setRow g (cur.toList.take n ++ List.replicate k z ++ cur.toList.drop (n + k)).toArray) := by
        by_cases hk : k = 0
        · subst hk
          simp only [List.replicate_zero, List.length_nil, Nat.add_zero] at hst
          simp [Builtin.append_, run_underlying ht, run_underlying htn, sizeOf, typeInfo, zeroValue, hi, hz, asInt, asIntOf, hw, hneg, hroom, hsize, Addr.add_lit, IntKind.wrap_i64, show n ≤ cap from by omega]
          rw [hst]
          simp [Result.andThen]
        · have hz0 : (Builtin.zeroCells z.cells k).toList = List.replicate k z := by rw [hzl]
          rw [List.length_replicate] at hst
          simp [Builtin.append_, run_underlying ht, run_underlying htn, sizeOf, typeInfo, zeroValue, hi, hz, asInt, asIntOf, hw, hneg, h48i, hroom, hsize, hk, Addr.add_lit, hz0, hst]
      refine ⟨_, _, hr, ⟨hlen, .inr ⟨g, cap, _, rfl, hbg, setRow_heap w g cur _ e _ hg, hroom, hcm, ?_, ?_⟩⟩, ⟨rfl, rfl, rfl, by simp, fun k _ hk => setRow_other w g k _ (fun e => hk (by simp [Value.ownBlock, e]))⟩⟩
      · simp only [List.size_toArray, List.length_append, List.length_take, List.length_drop, Array.length_toList, List.length_replicate]
        omega
      · rw [← hlen, ← htake, Nat.mul_one]
        exact List.take_left
    · have holds : ∀ j u, xs[j]? = some u → w.cell? ((⟨g, 0, none⟩ : Addr).add j) = some u := hown.cells (g := g) rfl
      have hf := run_firstCells_some (P := P) w.drew 1 n ⟨g, 0, none⟩ n cap xs hown.1 holds
      have hr := Lib.run_append_grow_zeros (P := P) w t tn ty e i z kq kn ht htn hi hz (some ⟨g, 0, none⟩) n cap xs (by rw [hsize]; exact hf) k (by omega) (by omega) (by omega) (by omega) hkb (growslice_fits (by omega) hbytes)
      have hgr := grown cap (by omega) (Value.ownBlock (.slice (some ⟨g, 0, none⟩) n cap))
      exact ⟨_, _, hr, hgr.1, hgr.2⟩

theorem wpList_append_zeros {P : Program} {w : World} {ops : Array Oper} {rest : List Oper} {o : Oper} {a : Act} {Q : Exit → Act → World → Prop} (hgd : o.guard = none) (s x : Operand) (t tn : TypeId)
    (ho : o.op = .call { callee := .builtin .append, args := #[s, x], argTypes := #[t, tn] })
    (base : Nat) (e : TypeId) (i : TypeInfo) (z : Value) (bytes : Nat) (kq kn : IntKind) (ht : P.underlying t = some (.slice e)) (htn : P.underlying tn = some (.int kn)) (hi : P.info? e = some i) (hz : i.zero = some z)
    (hsize : i.size = 1) (hby : i.bytes = bytes) (hzs : z.cells = #[z]) (h1 : z.oneCell' = true)
    (v : Value) (n : Nat) (xs : List Value) (hs : a.eval s = v) (hown : w.ownsRow base e 1 v n xs) (k : Nat) (hx : a.eval x = .int kq k)
    (h63 : n + k ≤ maxLen) (hbytes : (n + k) * bytes ≤ 140737488355328) (hbase : base ≤ w.heap.size)
    (h : ∀ v' w', w'.ownsRow base e 1 v' (n + k) (xs ++ List.replicate k z) → w.grownBy w' v.ownBlock → wpList P ops Q rest (a.put o.dst v') w') : wpList P ops Q (o :: rest) a w := by
  obtain ⟨v', w', hr, h2, h3⟩ := run_append_own_zeros (P := P) w base t tn o.type e i z bytes kq kn ht htn hi hz hsize hby hzs h1 v n xs hown k h63 hbytes hbase
  exact Lib.wpList_append_run w hgd s x t tn ho v (.int kq k) hs hx v' w' hr (h v' w' h2 h3)

end Go.Proofs.YtgnagbbdnlmgeaaGreat.Az
end

/- What stands behind an opened volume in the laws: kept, still, written. -/
section
set_option linter.unusedVariables false
set_option linter.unusedSimpArgs false
set_option maxHeartbeats 2000000
set_option maxRecDepth 100000
namespace Go.Proofs.YtgnagbbdnlmgeaaGreat.Vs
open Go Go.RowKit
open Go.Proofs.YtgnagbbdnlmgeaaGreat.Ob Go.Proofs.YtgnagbbdnlmgeaaGreat.Ba Go.Proofs.YtgnagbbdnlmgeaaGreat.Ko Go.Proofs.YtgnagbbdnlmgeaaGreat.Ge Go.Proofs.YtgnagbbdnlmgeaaGreat.Oc Go.Proofs.YtgnagbbdnlmgeaaGreat.Pk Go.Proofs.YtgnagbbdnlmgeaaGreat.Su Go.Proofs.YtgnagbbdnlmgeaaGreat.Rf Go.Proofs.YtgnagbbdnlmgeaaGreat.Dv Go.Proofs.YtgnagbbdnlmgeaaGreat.Vo Go.Proofs.YtgnagbbdnlmgeaaGreat.Ra Go.Proofs.YtgnagbbdnlmgeaaGreat.Lo Go.Proofs.YtgnagbbdnlmgeaaGreat.Li Go.Proofs.YtgnagbbdnlmgeaaGreat.Cc

/-- the document's volume at block q, its words beside it -/
structure Sv (w W : World) (q : Nat) (n m s p3 p4 p5 : Int) (A8 : Option Addr) (T c8 : Nat) (L : List Int) : Prop where
  vol : W.heap[q]? = some (.cells #[.int .i64 n, .int .i64 m, .int .i64 s, .int .i64 16, .int .i64 (16 + 8 * m), .int .i64 p3, .int .i64 p4, .int .i64 p5, .slice A8 T c8] 30 (0, 0))
  row : Rk .u64 W A8 L
  below : Below w.heap.size w W
  lo : w.heap.size ≤ q
theorem Sv.keep {w W W' : World} {q : Nat} {n m s p3 p4 p5 : Int} {A8 : Option Addr} {T c8 : Nat} {L : List Int} (h : Sv w W q n m s p3 p4 p5 A8 T c8 L) (hb : Below W.heap.size W W') : Sv w W' q n m s p3 p4 p5 A8 T c8 L :=
  ⟨blk_bl h.vol hb, h.row.below hb, bl_then h.below hb, h.lo⟩
theorem Sv.to {w W W' : World} {q : Nat} {n m s p3 p4 p5 : Int} {A8 : Option Addr} {T c8 : Nat} {L : List Int} {F : List Nat} (h : Sv w W q n m s p3 p4 p5 A8 T c8 L) (hu : Upd F W W') (hF : ∀ k ∈ F, w.heap.size ≤ k ∧ k ≠ q) (hA : ∀ a, A8 = some a → a.block ∉ F) (hL : 1 ≤ L.length) : Sv w W' q n m s p3 p4 p5 A8 T c8 L := by
  refine ⟨hu.blk h.vol (fun hm => (hF _ hm).2 rfl), ?_, h.below.trans (hu.belowB h.below.size (fun k hk => (hF k hk).1)), h.lo⟩
  refine h.row.keep (fun a ha => ?_) hu.size
  obtain ⟨u, hu9⟩ := some_at (l := L) (i := 0) (by omega)
  obtain ⟨a', ha', hlt, -⟩ := h.row 0 u hu9
  rw [ha] at ha'
  cases ha'
  exact hu.block _ hlt (hA a ha)
theorem Sv.grown {w W W' : World} {q : Nat} {n m s p3 p4 p5 : Int} {A8 : Option Addr} {T c8 : Nat} {L : List Int} {row : Option Nat} (h : Sv w W q n m s p3 p4 p5 A8 T c8 L) (hg : W.grownBy W' row) (hr : ∀ k, row = some k → w.heap.size ≤ k ∧ k ≠ q ∧ ∀ a, A8 = some a → a.block ≠ k) (hL : 1 ≤ L.length) : Sv w W' q n m s p3 p4 p5 A8 T c8 L := by
  refine h.to (F := row.toList) ⟨hg.os, hg.tape, hg.output, hg.size, fun k hk hn => hg.block k hk (fun e => hn (by rw [← e]; simp))⟩ ?_ ?_ hL
  · intro k hk
    have := hr k (by simpa using hk)
    exact ⟨this.1, this.2.1⟩
  · intro a ha hm
    exact (hr _ (by simpa using hm)).2.2 a ha rfl

theorem _root_.Go.Proofs.YtgnagbbdnlmgeaaGreat.Vo.VolIs.grown {w w' : World} {v b n m s : Nat} {d : Dev} {g : Lay} {row : Option Nat} (h : VolIs w v b n m s d g) (hg : w.grownBy w' row) (hr : ∀ k, row = some k → k ≠ v ∧ k ∉ g.foot b) : VolIs w' v b n m s d g :=
  h.keep (hg.block v (lt_of h.blk) (fun e => (hr v e.symm).1 rfl)) (fun k hk => hg.block k (h.dev.lt k hk) (fun e => (hr k e.symm).2 hk))

theorem conv_rk {W : World} {D : Option Addr} {l : List Nat} (h : Rk .u8 W D (ints l)) (c : Nat) :
    (convert 59 9 (.slice D l.length c)).run Tryz.prog W = .ok (.string (txt l)) W := by
  cases D with
  | none =>
    have hl : l = [] := by
      cases l with
      | nil => rfl
      | cons x r =>
        obtain ⟨a, e, -⟩ := h 0 x (by simp [ints])
        cases e
    subst hl
    exact run_convert_bytes_nil W 59 5 Tryz.underlying59 Tryz.underlying5 0 c 9 Tryz.underlying9
  | some a =>
    have hl : (loadCells a l.length).run Tryz.prog W = .ok ((ints l).map (Value.int .u8)).toArray W := by
      have := run_loadCells_list (P := Tryz.prog) W a ((ints l).map (Value.int .u8)) (fun j v hj => by
        simp only [List.getElem?_map, Option.map_eq_some_iff] at hj
        obtain ⟨z, hz, rfl⟩ := hj
        exact h.at_ hz)
      rw [List.length_map, ints_length] at this
      exact this
    rw [run_convert_bytes_string W 59 9 5 (some a) l.length c Tryz.underlying59 Tryz.underlying5 Tryz.underlying9, run_bytesToString W a l.length c (ints l) hl, foldl_push_bytes]
    simp [txt, strOfNums, ByteArray.empty, ByteArray.emptyWithCapacity]
    rfl

theorem run_append_arg (w : World) (base : Nat) (ty : TypeId) (n : Nat) (xs : List Value) (hown : w.ownsRow base 5 1 (.slice (some ⟨base, 0, none⟩) n n) n xs) {D : Option Addr} {data : List Nat} (hD : Rk .u8 w D (ints data)) (c : Nat) (hn : n + data.length ≤ 1000000) (hbase : base ≤ w.heap.size) :
    ∃ v' w', (Builtin.append_ #[59, 59] ty #[.slice (some ⟨base, 0, none⟩) n n, .slice D data.length c]).run Tryz.prog w = .ok v' w' ∧ w'.ownsRow base 5 1 v' (n + data.length) (xs ++ ivs .u8 (ints data)) ∧ w.grownBy w' (some base) := by
  obtain ⟨i0, hinf, hz0, hz1, hz2⟩ := info_parts (show (Tryz.prog.info? 5).map (fun i => (i.zero, i.size, i.bytes)) = some (some (.int .u8 0), 1, 1) by kernel_rfl)
  cases D with
  | none =>
    have hl : data = [] := by
      cases data with
      | nil => rfl
      | cons x r =>
        obtain ⟨a, e, -⟩ := hD 0 x (by simp [ints])
        cases e
    subst hl
    obtain ⟨h1, ⟨h2, _⟩ | ⟨g, cap, cur, hv, hg, hb, hnc, hm, hs, ht⟩⟩ := hown
    · cases h2
    · simp only [Value.slice.injEq, Option.some.injEq, Addr.mk.injEq, and_true, true_and] at hv
      obtain ⟨rfl, rfl⟩ := hv
      have hst : (storeCells ⟨base, n, none⟩ []).run Tryz.prog w = .ok () w := rfl
      refine ⟨_, w, ?_, ⟨by simpa [ivs, ints] using h1, .inr ⟨base, n, cur, rfl, hg, hb, hnc, hm, hs, by simpa [ivs, ints] using ht⟩⟩, ⟨rfl, rfl, rfl, Nat.le_refl _, fun _ _ _ => rfl⟩⟩
      simp [Builtin.append_, run_underlying Tryz.underlying59, sizeOf, typeInfo, hinf, Builtin.lenOf, Builtin.firstCells, hz1, Addr.add_lit, hst, Result.andThen]
  | some a =>
    obtain ⟨v', w', h1, h2, h3, -⟩ := run_append_own (P := Tryz.prog) w base 59 ty 5 i0 (.int .u8 0) 1 1 Tryz.underlying59 hinf hz0 hz1 hz2 rfl (by decide) _ n xs hown a data.length c (ivs .u8 (ints data)) (by rw [ivs_length, ints_length]; omega)
      (fun j u hj => by
        simp only [ivs, List.getElem?_map, Option.map_eq_some_iff] at hj
        obtain ⟨z, hz, rfl⟩ := hj
        exact hD.at_ hz) (ivs_oneCell _ _) (by unfold maxLen; omega) (by omega) hbase
    exact ⟨v', w', h1, h2, h3⟩

end Go.Proofs.YtgnagbbdnlmgeaaGreat.Vs
end

/- bitmap.Put of nothing; bitmaps and images side by side. -/
section
set_option linter.unusedVariables false
set_option linter.unusedSimpArgs false
set_option maxHeartbeats 2000000
set_option maxRecDepth 100000
namespace Go.Proofs.YtgnagbbdnlmgeaaGreat.Bm
open Go Go.RowKit
open Go.Proofs.YtgnagbbdnlmgeaaGreat.Ob Go.Proofs.YtgnagbbdnlmgeaaGreat.Ba Go.Proofs.YtgnagbbdnlmgeaaGreat.Oc Go.Proofs.YtgnagbbdnlmgeaaGreat.Pk

theorem turn_nil {W : World} {b : Nat} (D : Option Addr) (cd : Nat) :
    Calls Tryz.prog 119 #[.pointer (some ⟨b, 0, none⟩), .bool false, .slice D 0 cd] W fun e w' => e = .returned (.int .i64 0) ∧ w' = W := by
  go_enter Tryz.func119, Tryz.ntmps119
  go_wp2_with fail
  go_loop [12, 7] (fun c12 c7 => c12 = .int .i64 0 ∧ c7 = .int .i64 0) (fun c12 _ => 0 - (intOf c12).toNat)
  case atStart => exact ⟨rfl, rfl⟩
  case round =>
    obtain ⟨rfl, rfl⟩ := hrel
    go_wp2_with fail
    go_ret
    exact ⟨rfl, rfl⟩

theorem put_any {W : World} {B b n : Nat} {l : List Nat} {A : Option Addr} {c : Nat} (h : Bm W B b n l A c) {D : Option Addr} {xs : List Int} (hxs : Rk .i64 W D xs) (hD : xs ≠ [] → ∀ a a', D = some a → A = some a' → a'.block ≠ a.block) (cd : Nat) (hn : xs.length ≤ 1000000000) :
    Calls Tryz.prog 61 #[.pointer (some ⟨b, 0, none⟩), .slice D xs.length cd] W fun e w' => ∃ r, e = .returned (.int .i64 r) ∧ Bm w' B b n (turnL n false l xs).1 A c ∧ Only A W w' := by
  by_cases hx : xs = []
  · subst hx
    have HT : Hid (Calls Tryz.prog 119 #[.pointer (some ⟨b, 0, none⟩), .bool false, .slice D 0 cd] W fun e w' => e = .returned (.int .i64 0) ∧ w' = W) := turn_nil D cd
    have HB := Lib.hid h
    show Calls Tryz.prog 61 #[.pointer (some ⟨b, 0, none⟩), .slice D 0 cd] W _
    clear h hxs hD hn
    go_enter Tryz.func61, Tryz.ntmps61
    go_wp2_with fail
    refine HT.out.mono ?_
    rintro e w1 ⟨rfl, rfl⟩
    go_wp2_with fail
    go_ret
    exact ⟨_, rfl, HB.out, Only.refl _ _⟩
  · refine (put_ h hxs (hD hx) cd hn).mono ?_
    rintro e w' ⟨rfl, q1, q2⟩
    exact ⟨_, rfl, q1, q2⟩

theorem Bm.upd {W W' : World} {B b n q : Nat} {l : List Nat} {c : Nat} {F : List Nat} (h : Bm W B b n l (some ⟨q, 0, none⟩) c) (hu : Upd F W W') (hb : b ∉ F) (hq : q ∉ F) : Bm W' B b n l (some ⟨q, 0, none⟩) c := by
  refine ⟨hu.blk h.box hb, Vo.own_kq h.row (fun k hk => ?_), h.lo, h.apart, h.len, h.lt, h.le⟩
  obtain ⟨cur, hc⟩ := own_blk' h.row hk
  have e : k = q := by simpa [Value.ownBlock] using hk.symm
  subst e
  exact hu.block k (lt_of hc) hq

def want (L : List Int) (p X : Nat) : Nat := if L.getD p 0 = (X : Int) then 0 else 1
theorem one_diff (L : List Int) (p X : Nat) (hp : p < L.length) : ∃ d1, Vo.putGo false [(X : Int)] p ⟨Pm.devOf L, 0, []⟩ = (d1, some (want L p X)) ∧ Wp.Pt (Pm.devOf L) d1 (L.set p (X : Int)) (want L p X) (want L p X) := by
  obtain ⟨d1, e1, h1⟩ := Wp.put_gen (Pm.devOf L) false [(X : Int)] p (Pm.devOf L) L 0 [] ⟨rfl, rfl, Vs.words_devOf L, rfl, rfl⟩ (by show p + 1 ≤ L.length; omega) (by simp)
  refine ⟨d1, ?_⟩
  unfold want
  by_cases hz : L.getD p 0 = (X : Int)
  · have e : Wp.pgo false [(X : Int)] p (L, 0, []) = (L, 0, []) := by
      show (if (!false && decide (L.getD p 0 = (X : Int))) = true then _ else _) = _
      rw [if_pos (by simp; exact hz)]
      rfl
    rw [e] at e1 h1
    rw [if_pos hz]
    refine ⟨e1, ?_⟩
    have hs : L.set p (X : Int) = L := by
      apply List.ext_getElem?
      intro i
      rw [List.getElem?_set]
      by_cases h2 : p = i
      · subst h2
        rw [if_pos rfl, if_pos hp, ← hz, List.getD_eq_getElem?_getD, List.getElem?_eq_getElem hp]
        rfl
      · rw [if_neg h2]
    rw [hs]
    exact h1
  · have e : Wp.pgo false [(X : Int)] p (L, 0, []) = (L.set p (X : Int), 1, [p / 8]) := by
      show (if (!false && decide (L.getD p 0 = (X : Int))) = true then _ else _) = _
      rw [if_neg (by simp; exact hz)]
      rfl
    rw [e] at e1 h1
    rw [if_neg hz]
    exact ⟨e1, h1⟩

end Go.Proofs.YtgnagbbdnlmgeaaGreat.Bm
end

/- volume.Block. -/
section
set_option linter.unusedVariables false
set_option linter.unusedSimpArgs false
set_option maxHeartbeats 2000000
set_option maxRecDepth 100000
namespace Go.Proofs.YtgnagbbdnlmgeaaGreat.Vo
open Go Go.RowKit
open Go.Proofs.YtgnagbbdnlmgeaaGreat.Ob Go.Proofs.YtgnagbbdnlmgeaaGreat.Ba Go.Proofs.YtgnagbbdnlmgeaaGreat.Oc Go.Proofs.YtgnagbbdnlmgeaaGreat.Pk Go.Proofs.YtgnagbbdnlmgeaaGreat.Dv Go.Proofs.YtgnagbbdnlmgeaaGreat.Su Go.Proofs.YtgnagbbdnlmgeaaGreat.Mp Go.Proofs.YtgnagbbdnlmgeaaGreat.Ge Go.Proofs.YtgnagbbdnlmgeaaGreat.Lo Go.Proofs.YtgnagbbdnlmgeaaGreat.Ko Go.Proofs.YtgnagbbdnlmgeaaGreat.Cc

theorem block_out {w : World} {v b n m s : Nat} {d : Dev} {g : Lay} (h : VolIs w v b n m s d g) (i : Int) (hi : i < 0 ∨ (n : Int) ≤ i) :
    Calls Tryz.prog 25 #[.pointer (some ⟨v, 0, none⟩), .int .i64 i] w fun e w' => e = .returned (.tuple #[.slice none 0 0, .int .i64 9]) ∧ Below w.heap.size w w' := by
  have hsl := Ge.block_ n m s i h.ok
  rw [plc_no hi] at hsl
  have HS := Lib.hid hsl
  obtain ⟨c0, c1, c2, c3⟩ := h.cells
  clear h hi hsl
  go_enter Tryz.func25, Tryz.ntmps25
  go_wp2_with (go_at_call 84; refine (HS.out _).mono ?_; rintro e w1 ⟨rfl, hb⟩; (have HB := Lib.hid hb); clear hb)
  go_ret2
  exact ⟨rfl, HB.out⟩

/-- a block that is there -/
structure Sz (v : Nat) (W : World) : Prop where
  lt : v < W.heap.size
theorem vk_keep {W W' : World} {v b n m s : Nat} (h : W.cell? ⟨v, 0, none⟩ = some (.pointer (some ⟨b, 0, none⟩)) ∧ W.cell? ⟨v, 1, none⟩ = some (.int .i64 n) ∧ W.cell? ⟨v, 2, none⟩ = some (.int .i64 m) ∧ W.cell? ⟨v, 3, none⟩ = some (.int .i64 s) ∧ Sz v W) (hb : Below W.heap.size W W') :
    W'.cell? ⟨v, 0, none⟩ = some (.pointer (some ⟨b, 0, none⟩)) ∧ W'.cell? ⟨v, 1, none⟩ = some (.int .i64 n) ∧ W'.cell? ⟨v, 2, none⟩ = some (.int .i64 m) ∧ W'.cell? ⟨v, 3, none⟩ = some (.int .i64 s) ∧ Sz v W' := by
  obtain ⟨h0, h1, h2, h3, ⟨h4⟩⟩ := h
  exact ⟨(hb.cell (p := ⟨v, 0, none⟩) h4).trans h0, (hb.cell (p := ⟨v, 1, none⟩) h4).trans h1, (hb.cell (p := ⟨v, 2, none⟩) h4).trans h2, (hb.cell (p := ⟨v, 3, none⟩) h4).trans h3, ⟨Nat.lt_of_lt_of_le h4 hb.size⟩⟩

theorem block_get {w : World} {v b n m s : Nat} {d : Dev} {g : Lay} (h : VolIs w v b n m s d g) (i : Int) (hi : 0 ≤ i ∧ i < (n : Int)) (k : Nat) (hk : (k : Int) = bkAt n m + i * ((s : Int) / 8)) (hk9 : k ≤ 1000000000) (ws : List Nat) (hw : lds d k ws.length = ints ws) (hws : ∀ x ∈ ws, x < 18446744073709551616) (hl : (ws.length : Int) = (s : Int) / 8) (hl9 : ws.length ≤ 1000000) :
    Calls Tryz.prog 25 #[.pointer (some ⟨v, 0, none⟩), .int .i64 i] w fun e w' => ∃ v', e = .returned (.tuple #[v', .int .i64 0]) ∧ w'.ownsRow w.heap.size 5 1 v' (8 * ws.length) (ivs .u8 (ints (octs ws))) ∧ Below w.heap.size w w' := by
  have hsl := Ge.block_ n m s i h.ok
  rw [plc_yes hi, ← hk] at hsl
  have HS := Lib.hid hsl
  have HEA : Hid (∀ W, Calls Tryz.prog 86 #[.agg #[.int .i64 n, .int .i64 m, .int .i64 s]] W fun e w' => e = .returned (.int .i64 (ws.length : Nat)) ∧ Below W.heap.size W w') := fun W => by
    have := Ge.each_ n m s h.ok W
    rw [← hl] at this
    exact this
  have HV := Lib.hid h
  have HLN : Hid (∀ {W : World}, Below w.heap.size w W → _) := fun {W} hb => line_ (h.dev.below hb) k ws.length hk9 hl9
  rw [hw] at HLN
  have HBY : Hid (∀ {W : World} {A : Option Addr} {c : Nat}, Rk .u64 W A (ints ws) → _) := fun {W A c} hr => bytes_ hr hws c (by omega)
  obtain ⟨len, hlen⟩ : ∃ len, len = ws.length := ⟨_, rfl⟩
  rw [← hlen] at HEA HLN HBY hl9
  rw [← hlen]
  obtain ⟨c0, c1, c2, c3⟩ := h.cells
  clear h hi hsl hk hw hws hl hlen
  go_enter Tryz.func25, Tryz.ntmps25
  go_wp2_with (go_at_call 84; refine (HS.out _).mono ?_; rintro e w1 ⟨rfl, hb⟩; (have HB := Lib.hid hb); (have HV1 := Lib.hid (HV.out.below hb)); clear hb)
  obtain ⟨m0, m1, m2, m3⟩ := HV1.out.cells
  have hvl : Sz v w1 := ⟨lt_of HV1.out.blk⟩
  have hvd : Sz v w1.drew := ⟨lt_of HV1.out.blk⟩
  have hst : w1.drew.cell? ⟨v, 0, none⟩ = some (.pointer (some ⟨b, 0, none⟩)) ∧ w1.drew.cell? ⟨v, 1, none⟩ = some (.int .i64 n) ∧ w1.drew.cell? ⟨v, 2, none⟩ = some (.int .i64 m) ∧ w1.drew.cell? ⟨v, 3, none⟩ = some (.int .i64 s) ∧ Sz v w1.drew := ⟨m0, m1, m2, m3, hvd⟩
  have HST := Lib.hid hst
  clear hst hvl hvd
  clear m0 m1 m2 m3
  go_region_held3 (fun w' => w'.cell? ⟨v, 0, none⟩ = some (.pointer (some ⟨b, 0, none⟩)) ∧ w'.cell? ⟨v, 1, none⟩ = some (.int .i64 n) ∧ w'.cell? ⟨v, 2, none⟩ = some (.int .i64 m) ∧ w'.cell? ⟨v, 3, none⟩ = some (.int .i64 s) ∧ Sz v w')
    (first | assumption | exact HST.out | exact vk_keep ‹_› ‹_›)
    (first | (go_at_call 86; refine (HEA.out _).mono ?_; rintro e w2 ⟨rfl, hb2⟩; (have HB2 := Lib.hid (bl_then HB.out (bl_then (w1 := w1.drew) (bl_drew (Below.refl _ _)) hb2)))) |
      (go_at_call 78; refine (HLN.out HB2.out).mono ?_; rintro e w3 ⟨v3, rfl, hown, hb3⟩; (obtain ⟨A3, c3, rfl⟩ := own_slice hown); (have HB3 := Lib.hid (bl_then HB2.out hb3)); (have HR3 := Lib.hid (own_rk (k := .u64) hown).1); clear hown) |
      (go_at_call 85; refine (HBY.out HR3.out).mono ?_; rintro e w4 ⟨v4, rfl, hown, hb4⟩; (obtain ⟨A4, c4, rfl⟩ := own_slice hown); (have HB4 := Lib.hid (bl_then HB3.out hb4)); (have HO4 := Lib.hid (own_base hown HB3.out.size)); clear hown))
  go_wp2
  go_ret2
  exact ⟨_, rfl, HO4.out, HB4.out⟩

end Go.Proofs.YtgnagbbdnlmgeaaGreat.Vo
end

/- volume.SetBitmap, Bitmap. -/
section
set_option linter.unusedVariables false
set_option linter.unusedSimpArgs false
set_option maxHeartbeats 2000000
set_option maxRecDepth 100000
namespace Go.Proofs.YtgnagbbdnlmgeaaGreat.Vo
open Go Go.RowKit
open Go.Proofs.YtgnagbbdnlmgeaaGreat.Ob Go.Proofs.YtgnagbbdnlmgeaaGreat.Ba Go.Proofs.YtgnagbbdnlmgeaaGreat.Oc Go.Proofs.YtgnagbbdnlmgeaaGreat.Pk Go.Proofs.YtgnagbbdnlmgeaaGreat.Dv Go.Proofs.YtgnagbbdnlmgeaaGreat.Su Go.Proofs.YtgnagbbdnlmgeaaGreat.Mp Go.Proofs.YtgnagbbdnlmgeaaGreat.Ge Go.Proofs.YtgnagbbdnlmgeaaGreat.Lo Go.Proofs.YtgnagbbdnlmgeaaGreat.Ko Go.Proofs.YtgnagbbdnlmgeaaGreat.Bm

theorem _root_.Go.Proofs.YtgnagbbdnlmgeaaGreat.Bm.Bm.base {W : World} {B B' b n : Nat} {l : List Nat} {A : Option Addr} {c : Nat} (h : Bm W B' b n l A c) (hB : B ≤ B') : Bm W B b n l A c := ⟨h.box, own_base h.row hB, Nat.le_trans hB h.lo, h.apart, h.len, h.lt, h.le⟩

def BmIs (x n B : Nat) (e : Ending) (w' : World) : Prop := (x / 2 ^ n = 0 → ∃ b A' c', e = .returned (.tuple #[.pointer (some ⟨b, 0, none⟩), .int .i64 0]) ∧ Bm w' B b n [x] A' c') ∧ (x / 2 ^ n ≠ 0 → e = .returned (.tuple #[.pointer none, .int .i64 2]))

theorem bm_get {w : World} {v b n m s : Nat} {d : Dev} {g : Lay} (h : VolIs w v b n m s d g) (h1 : 1 ≤ n) (h2 : n ≤ 63) (k : Nat) (hk : (k : Int) = bmAt n m) (hk9 : k ≤ 1000000000) (x : Nat) (hx : d.load k = (x : Int)) (hx9 : x < 18446744073709551616) :
    Calls Tryz.prog 27 #[.pointer (some ⟨v, 0, none⟩)] w fun e w' => BmIs x n w.heap.size e w' ∧ Below w.heap.size w w' := by
  obtain ⟨c0, c1, c2, c3⟩ := h.cells
  have HBM : Hid (∀ W, Calls Tryz.prog 88 #[.agg #[.int .i64 n, .int .i64 m, .int .i64 s]] W fun e w' => e = .returned (.tuple #[.int .i64 k, .int .i64 1]) ∧ Below W.heap.size W w') := fun W => by
    have := bmap_ n m s h.ok W
    rw [← hk, show ((n : Int) + 63) / 64 = 1 from by omega] at this
    exact this
  have HV := Lib.hid h
  have HLN : Hid (∀ {W : World}, Below w.heap.size w W → Calls Tryz.prog 78 #[.agg #[.pointer (some ⟨b, 0, none⟩)], .int .i64 k, .int .i64 1] W fun e w' => ∃ v, e = .returned v ∧ w'.ownsRow W.heap.size 94 1 v 1 (ivs .u64 (ints [x])) ∧ Below W.heap.size W w') := fun {W} hb => by
    have := line_ (h.dev.below hb) k 1 hk9 (by decide)
    rw [show lds d k 1 = ints [x] from by simp [lds, ints]; exact hx] at this
    exact this
  have HOF : Hid (∀ {W : World} {A : Option Addr} {c : Nat}, Rk .u64 W A (ints [x]) → Calls Tryz.prog 89 #[.int .i64 n, .slice A 1 c] W fun e w' => ∃ r0 r1, e = .returned (.tuple #[r0, r1]) ∧ BmIs x n W.heap.size (.returned (.tuple #[r0, r1])) w' ∧ Below W.heap.size W w') := fun {W A c} hr => by
    refine (of_one hr hx9 c n h1 h2).mono ?_
    rintro e w' ⟨q1, q2, q3⟩
    by_cases hz : x / 2 ^ n = 0
    · obtain ⟨b', A', c', rfl, hm⟩ := q1 hz
      exact ⟨_, _, rfl, ⟨fun _ => ⟨b', A', c', rfl, hm⟩, fun h => absurd hz h⟩, q3⟩
    · obtain rfl := q2 hz
      exact ⟨_, _, rfl, ⟨fun h => absurd h hz, fun _ => rfl⟩, q3⟩
  clear h hk hk9 hx hx9
  go_enter Tryz.func27, Tryz.ntmps27
  go_wp2_with (go_at_call 88; refine (HBM.out _).mono ?_; rintro e w3 ⟨rfl, hb3⟩; (have HB3 := Lib.hid hb3); clear hb3)
  have HS3 : Hid (w3.drew.cell? ⟨v, 0, none⟩ = some (.pointer (some ⟨b, 0, none⟩)) ∧ w3.drew.cell? ⟨v, 1, none⟩ = some (.int .i64 n) ∧ w3.drew.cell? ⟨v, 2, none⟩ = some (.int .i64 m) ∧ w3.drew.cell? ⟨v, 3, none⟩ = some (.int .i64 s) ∧ Sz v w3.drew) := by
    obtain ⟨n0, n1, n2, n3⟩ := (HV.out.below HB3.out).cells
    exact ⟨n0, n1, n2, n3, ⟨lt_of (HV.out.below HB3.out).blk⟩⟩
  go_region_held3 (fun w' => w'.cell? ⟨v, 0, none⟩ = some (.pointer (some ⟨b, 0, none⟩)) ∧ w'.cell? ⟨v, 1, none⟩ = some (.int .i64 n) ∧ w'.cell? ⟨v, 2, none⟩ = some (.int .i64 m) ∧ w'.cell? ⟨v, 3, none⟩ = some (.int .i64 s) ∧ Sz v w')
    (first | assumption | exact HS3.out | exact vk_keep ‹_› ‹_›)
    (first | (go_at_call 78; refine (HLN.out (bl_drew HB3.out)).mono ?_; rintro e w4 ⟨v4, rfl, hown, hb4⟩; (obtain ⟨A4, c4, rfl⟩ := own_slice hown); (have HB4 := Lib.hid (bl_then (w1 := w3.drew) (bl_drew HB3.out) hb4)); (have HR4 := Lib.hid (own_rk (k := .u64) hown).1); clear hown) |
      (go_at_call 89; refine (HOF.out HR4.out).mono ?_; rintro e w5 ⟨r0, r1, rfl, hbm, hb5⟩; (have HB5 := Lib.hid (bl_then HB4.out hb5)); (have HM5 := Lib.hid hbm); clear hbm))
  all_goals
    go_wp2
    go_ret2
    refine ⟨?_, HB5.out⟩
    refine ⟨fun hz => ?_, fun hz => HM5.out.2 hz⟩
    obtain ⟨b', A', c', e1, hm⟩ := HM5.out.1 hz
    exact ⟨b', A', c', e1, hm.base HB4.out.size⟩

end Go.Proofs.YtgnagbbdnlmgeaaGreat.Vo
end

/- volume.SetRecord, Record, ClearRecord, Sync. -/
section
set_option linter.unusedVariables false
set_option linter.unusedSimpArgs false
set_option maxHeartbeats 2000000
set_option maxRecDepth 100000
namespace Go.Proofs.YtgnagbbdnlmgeaaGreat.Vo
open Go Go.RowKit
open Go.Proofs.YtgnagbbdnlmgeaaGreat.Ob Go.Proofs.YtgnagbbdnlmgeaaGreat.Ba Go.Proofs.YtgnagbbdnlmgeaaGreat.Oc Go.Proofs.YtgnagbbdnlmgeaaGreat.Pk Go.Proofs.YtgnagbbdnlmgeaaGreat.Dv Go.Proofs.YtgnagbbdnlmgeaaGreat.Su Go.Proofs.YtgnagbbdnlmgeaaGreat.Mp Go.Proofs.YtgnagbbdnlmgeaaGreat.Ge Go.Proofs.YtgnagbbdnlmgeaaGreat.Lo Go.Proofs.YtgnagbbdnlmgeaaGreat.Ko Go.Proofs.YtgnagbbdnlmgeaaGreat.Rj

theorem grec_ (n m s : Int) (h : geoOk n m s = true) (w : World) : Calls Tryz.prog 92 #[.agg #[.int .i64 n, .int .i64 m, .int .i64 s]] w fun e w' => e = .returned (.int .i64 8) ∧ Below w.heap.size w w' := by
  have hu := Tryz.underlying34
  have HP := Lib.hid (place_ n m s 8 0 1 h)
  have e8 : Hid (plc 8 0 1 = 8) := by show _ = _; decide
  rw [e8.out] at HP
  clear h
  go_enter Tryz.func92, Tryz.ntmps92
  go_wp2_with fail
  refine (HP.out _).mono ?_
  rintro e w1 ⟨rfl, hb⟩
  have HB := Lib.hid (bl_then (bl_alloc (Below.refl _ _) _) hb)
  clear hb
  go_wp2_with fail
  go_ret
  exact ⟨rfl, HB.out⟩

theorem to_behind {w w1 w2 : World} {b : Nat} {g : Lay} {d' : Dev} (hbb : Below w.heap.size w w1) (h : DevTo w1 w2 b g d') : DevTo w w2 b g d' := by
  obtain ⟨g4, q1, q2, q3⟩ := h
  refine ⟨g4, q1, fun u hu => ?_, (Upd.of_below (F := g.foot b) hbb).trans q3 (fun u hu => .inl hu)⟩
  rcases q2 u hu with r | r
  · exact .inl r
  · exact .inr (Nat.le_trans hbb.size r)

theorem vk_set {W : World} {v b n m s : Nat} (h : W.cell? ⟨v, 0, none⟩ = some (.pointer (some ⟨b, 0, none⟩)) ∧ W.cell? ⟨v, 1, none⟩ = some (.int .i64 n) ∧ W.cell? ⟨v, 2, none⟩ = some (.int .i64 m) ∧ W.cell? ⟨v, 3, none⟩ = some (.int .i64 s) ∧ Sz v W) {q : Nat} (hq : v ≠ q) (o : Nat) (u : Value) : (W.setCell ⟨q, o, none⟩ u).cell? ⟨v, 0, none⟩ = some (.pointer (some ⟨b, 0, none⟩)) ∧ (W.setCell ⟨q, o, none⟩ u).cell? ⟨v, 1, none⟩ = some (.int .i64 n) ∧ (W.setCell ⟨q, o, none⟩ u).cell? ⟨v, 2, none⟩ = some (.int .i64 m) ∧ (W.setCell ⟨q, o, none⟩ u).cell? ⟨v, 3, none⟩ = some (.int .i64 s) ∧ Sz v (W.setCell ⟨q, o, none⟩ u) := by
  obtain ⟨h0, h1, h2, h3, ⟨h4⟩⟩ := h
  have hk : ∀ i, (W.setCell ⟨q, o, none⟩ u).cell? ⟨v, i, none⟩ = W.cell? ⟨v, i, none⟩ := fun i => cell_blk (Below.heap_setCell W _ u v (show v ≠ q from hq)) i
  exact ⟨(hk 0).trans h0, (hk 1).trans h1, (hk 2).trans h2, (hk 3).trans h3, ⟨by simpa using h4⟩⟩

theorem record_get {w : World} {v b n m s : Nat} {d : Dev} {g : Lay} (h : VolIs w v b n m s d g) (ws : List Nat) (hw : lds d 8 8 = ints ws) (hws : ∀ x ∈ ws, x < 18446744073709551616) :
    Calls Tryz.prog 29 #[.pointer (some ⟨v, 0, none⟩)] w fun e w' => D9 ws e ∧ Below w.heap.size w w' := by
  have hu := Tryz.underlying70
  have hl8 : ws.length = 8 := by rw [← ints_length, ← hw, lds_length]
  have HV := Lib.hid h
  have HG := Lib.hid (grec_ n m s h.ok)
  have HLN : Hid (∀ {W : World}, Below w.heap.size w W → Calls Tryz.prog 78 #[.agg #[.pointer (some ⟨b, 0, none⟩)], .int .i64 8, .int .i64 8] W fun e w' => ∃ v, e = .returned v ∧ w'.ownsRow W.heap.size 94 1 v 8 (ivs .u64 (ints ws)) ∧ Below W.heap.size W w') := fun {W} hb => by
    have := line_ (h.dev.below hb) 8 8 (by decide) (by decide)
    rw [hw] at this
    exact this
  have HDE : Hid (∀ {W : World} {A : Option Addr} {c : Nat}, Rk .u64 W A (ints ws) → Calls Tryz.prog 91 #[.slice A 8 c] W fun e w' => ∃ q0 q1 q2 q3 qe, e = .returned (.tuple #[.agg #[.int .i64 q0, .int .i64 q1, .int .i64 q2, .int .i64 q3], .int .i64 qe]) ∧ D9 ws (.returned (.tuple #[.agg #[.int .i64 q0, .int .i64 q1, .int .i64 q2, .int .i64 q3], .int .i64 qe])) ∧ Below W.heap.size W w') := fun {W A c} hr => by
    refine (decode_ (w := W) (A := A) hr c hl8 hws).mono ?_
    rintro e w' ⟨he, hb⟩
    exact ⟨_, _, _, _, _, he, rfl, hb⟩
  have hvlt := lt_of h.blk
  have hvn : v ≠ w.heap.size := Nat.ne_of_lt hvlt
  have h2 := h.below (bl_alloc (Below.refl _ _) (.cells #[.int .i64 0, .int .i64 0, .int .i64 0, .int .i64 0] 70))
  have HS0 : Hid ((w.alloc (.cells #[.int .i64 0, .int .i64 0, .int .i64 0, .int .i64 0] 70)).drew.cell? ⟨v, 0, none⟩ = some (.pointer (some ⟨b, 0, none⟩)) ∧ (w.alloc (.cells #[.int .i64 0, .int .i64 0, .int .i64 0, .int .i64 0] 70)).drew.cell? ⟨v, 1, none⟩ = some (.int .i64 n) ∧ (w.alloc (.cells #[.int .i64 0, .int .i64 0, .int .i64 0, .int .i64 0] 70)).drew.cell? ⟨v, 2, none⟩ = some (.int .i64 m) ∧ (w.alloc (.cells #[.int .i64 0, .int .i64 0, .int .i64 0, .int .i64 0] 70)).drew.cell? ⟨v, 3, none⟩ = some (.int .i64 s) ∧ Sz v (w.alloc (.cells #[.int .i64 0, .int .i64 0, .int .i64 0, .int .i64 0] 70)).drew) := by
    obtain ⟨n0, n1, n2, n3⟩ := h2.cells
    exact ⟨n0, n1, n2, n3, ⟨lt_of h2.blk⟩⟩
  have HQ0 := Lib.hid (alloc_new w (.cells #[.int .i64 0, .int .i64 0, .int .i64 0, .int .i64 0] 70))
  clear h h2 hw hws hl8
  go_enter Tryz.func29, Tryz.ntmps29
  go_wp2_with fail
  go_region_held3 (fun w' => w'.cell? ⟨v, 0, none⟩ = some (.pointer (some ⟨b, 0, none⟩)) ∧ w'.cell? ⟨v, 1, none⟩ = some (.int .i64 n) ∧ w'.cell? ⟨v, 2, none⟩ = some (.int .i64 m) ∧ w'.cell? ⟨v, 3, none⟩ = some (.int .i64 s) ∧ Sz v w')
    (first | assumption | exact HS0.out | exact vk_keep ‹_› ‹_› | exact vk_set ‹_› hvn _ _ | exact vk_set (vk_set ‹_› hvn _ _) hvn _ _ | exact vk_set (vk_set (vk_set ‹_› hvn _ _) hvn _ _) hvn _ _ | exact vk_set (vk_set (vk_set (vk_set ‹_› hvn _ _) hvn _ _) hvn _ _) hvn _ _)
    (first | (go_at_call 92; refine (HG.out _).mono ?_; rintro e w2 ⟨rfl, hb2⟩; (have HB2 := Lib.hid (bl_then (bl_drew (bl_alloc (Below.refl w.heap.size w) (.cells #[.int .i64 0, .int .i64 0, .int .i64 0, .int .i64 0] 70))) hb2)); (have HQ2 := Lib.hid (blk_bl (W := (w.alloc (.cells #[.int .i64 0, .int .i64 0, .int .i64 0, .int .i64 0] 70)).drew) HQ0.out hb2))) |
      (go_at_call 78; refine (HLN.out HB2.out).mono ?_; rintro e w3 ⟨v3, rfl, hown, hb3⟩; (obtain ⟨A3, c3, rfl⟩ := own_slice hown); (have HB3 := Lib.hid (bl_then HB2.out hb3)); (have HQ3 := Lib.hid (blk_bl HQ2.out hb3)); (have HR3 := Lib.hid (own_rk (k := .u64) hown).1); clear hown) |
      (go_at_call 91; refine (HDE.out HR3.out).mono ?_; rintro e w4 ⟨q0, q1, q2, q3, qe, rfl, hd9, hb4⟩; (have HB4 := Lib.hid (bl_then HB3.out hb4)); (have HQ4 := Lib.hid (blk_bl HQ3.out hb4)); (have HD4 := Lib.hid hd9); (have l0 := cell_of HQ4.out 0); (have l1 := cell_of HQ4.out 1); (have l2 := cell_of HQ4.out 2); (have l3 := cell_of HQ4.out 3); (have f0 := free_of HQ4.out 0); (have f1 := free_of HQ4.out 1); (have f2 := free_of HQ4.out 2); (have f3 := free_of HQ4.out 3); clear hd9))
  all_goals
    go_wp2
    exact bodyPost_ret (res_ct (u := 3) rfl _ _ w.heap.size 70 #[.int .i64 q0, .int .i64 q1, .int .i64 q2, .int .i64 q3] (0, 0) _ rfl (put4 HQ4.out _ _ _ _) hu rfl (by kernel_rfl)) rfl ⟨HD4.out, bl_put4 HB4.out (Nat.le_refl _) _ _ _ _⟩

end Go.Proofs.YtgnagbbdnlmgeaaGreat.Vo
end

/- volume.ClearRecord. -/
section
set_option linter.unusedVariables false
set_option linter.unusedSimpArgs false
set_option maxHeartbeats 20000000
set_option maxRecDepth 100000
namespace Go.Proofs.YtgnagbbdnlmgeaaGreat.Vo
open Go Go.RowKit
open Go.Proofs.YtgnagbbdnlmgeaaGreat.Ob Go.Proofs.YtgnagbbdnlmgeaaGreat.Ba Go.Proofs.YtgnagbbdnlmgeaaGreat.Oc Go.Proofs.YtgnagbbdnlmgeaaGreat.Pk Go.Proofs.YtgnagbbdnlmgeaaGreat.Dv Go.Proofs.YtgnagbbdnlmgeaaGreat.Su Go.Proofs.YtgnagbbdnlmgeaaGreat.Mp Go.Proofs.YtgnagbbdnlmgeaaGreat.Ge Go.Proofs.YtgnagbbdnlmgeaaGreat.Lo Go.Proofs.YtgnagbbdnlmgeaaGreat.Ko Go.Proofs.YtgnagbbdnlmgeaaGreat.Rj

theorem zeros_rk {W : World} {q T : Nat} {fr : Nat × Nat} (h : W.heap[q]? = some (.cells (Array.replicate 8 (.int .u64 0)) T fr)) : Rk .u64 W (some ⟨q, 0, none⟩) (ints (List.replicate 8 0)) := by
  refine blk_rk h fun i x hx => ?_
  match i with
  | 0 | 1 | 2 | 3 | 4 | 5 | 6 | 7 => simpa [ints] using hx
  | i + 8 => simp [ints] at hx

end Go.Proofs.YtgnagbbdnlmgeaaGreat.Vo
end

/- The record's words in a device: written, fenced, cleared. -/
section
set_option linter.unusedVariables false
set_option linter.unusedSimpArgs false
set_option maxHeartbeats 2000000
set_option maxRecDepth 100000
namespace Go.Proofs.YtgnagbbdnlmgeaaGreat.Md
open Go Go.RowKit
open Go.Proofs.YtgnagbbdnlmgeaaGreat.Ob Go.Proofs.YtgnagbbdnlmgeaaGreat.Ba Go.Proofs.YtgnagbbdnlmgeaaGreat.Ko Go.Proofs.YtgnagbbdnlmgeaaGreat.Ge Go.Proofs.YtgnagbbdnlmgeaaGreat.Oc Go.Proofs.YtgnagbbdnlmgeaaGreat.Pk Go.Proofs.YtgnagbbdnlmgeaaGreat.Su Go.Proofs.YtgnagbbdnlmgeaaGreat.Rf Go.Proofs.YtgnagbbdnlmgeaaGreat.Dv Go.Proofs.YtgnagbbdnlmgeaaGreat.Vo Go.Proofs.YtgnagbbdnlmgeaaGreat.Ra Go.Proofs.YtgnagbbdnlmgeaaGreat.Lo Go.Proofs.YtgnagbbdnlmgeaaGreat.Li Go.Proofs.YtgnagbbdnlmgeaaGreat.Vs Go.Proofs.YtgnagbbdnlmgeaaGreat.Bm Go.Proofs.YtgnagbbdnlmgeaaGreat.R0 Go.Proofs.YtgnagbbdnlmgeaaGreat.Rj Go.Proofs.YtgnagbbdnlmgeaaGreat.Ma

def rl (x y z t : Nat) : List Nat := line (pv (f16s [1, x, y, z])) t
def nz (l : List Nat) : Nat := (l.filter fun x => decide (x ≠ 0)).length

theorem pv4 (x y z : Nat) : pv (f16s [1, x, y, z]) = 1 + 65536 * x + 4294967296 * y + 281474976710656 * z := by
  simp only [f16s, List.map_cons, List.map_nil, pv]
  omega
theorem rl_lt {x y z t : Nat} (h : rOk x y z t) : ∀ u ∈ rl x y z t, u < 18446744073709551616 := by
  obtain ⟨⟨-, a⟩, ⟨-, b⟩, ⟨-, c⟩, -, d⟩ := h
  have hs := sum7_lt (pv (f16s [1, x, y, z])) t
  have hp := pv4 x y z
  intro u hu
  simp only [rl, line, List.mem_cons, List.not_mem_nil, or_false] at hu
  omega
theorem d9_line {x y z t : Nat} (h : rOk x y z t) {e : Ending} (hd : D9 (rl x y z t) e) : e = .returned (.tuple #[.agg #[.int .i64 x, .int .i64 y, .int .i64 z, .int .i64 t], .int .i64 1]) := by
  have h0 := h
  obtain ⟨⟨-, a⟩, ⟨-, b⟩, ⟨-, c⟩, -, d⟩ := h
  have hp := pv4 x y z
  have e0 : (rl x y z t).getD 0 0 = pv (f16s [1, x, y, z]) := rfl
  have e1 : (rl x y z t).getD 1 0 = t := rfl
  have k1 : pv (f16s [1, x, y, z]) / 65536 % 65536 = x := by omega
  have k2 : pv (f16s [1, x, y, z]) / 4294967296 % 65536 = y := by omega
  have k3 : pv (f16s [1, x, y, z]) / 281474976710656 = z := by omega
  have k4 : min t 65535 = t := by omega
  have hm : mxl (rl x y z t) ≠ 0 := by
    intro h9
    have := (mxl_zero _).1 h9 (pv (f16s [1, x, y, z])) (by simp [rl, line])
    omega
  have hok : ok9 (rl x y z t) = true := by
    unfold ok9
    rw [e0, e1, k1, k2, k3, k4, decide_eq_true h0, Bool.true_and]
    exact decide_eq_true rfl
  unfold D9 r9 st9 at hd
  rw [if_pos ⟨hm, hok⟩, if_neg hm, hok, if_pos rfl, e0, e1, k1, k2, k3, k4] at hd
  exact hd
theorem d9_zeros {e : Ending} (hd : D9 (List.replicate 8 0) e) : e = .returned (.tuple #[.agg #[.int .i64 0, .int .i64 0, .int .i64 0, .int .i64 0], .int .i64 0]) := by
  have hm : mxl (List.replicate 8 0) = 0 := rfl
  unfold D9 r9 st9 at hd
  rw [if_pos hm, if_neg (fun h => h.1 hm)] at hd
  exact hd

theorem lds_drop {d : Dev} {k n : Nat} (hk : k + n ≤ d.las.length) : lds d k n = ((Pm.wordsOf d).drop k).take n := by
  apply List.ext_getElem?
  intro i
  by_cases hi : i < n
  · unfold lds
    rw [List.getElem?_map, List.getElem?_range hi, List.getElem?_take_of_lt hi, List.getElem?_drop, Pm.wordsOf_get d (k + i) (by omega)]
    rfl
  · rw [List.getElem?_eq_none (by rw [lds_length]; omega), List.getElem?_eq_none (by simp; omega)]
theorem pgo_le (all : Bool) : ∀ (xs : List Int) (a : Nat) (L : List Int) (c : Nat) (ls : List Nat), (Wp.pgo all xs a (L, c, ls)).2.1 ≤ c + xs.length ∧ (Wp.pgo all xs a (L, c, ls)).2.2.length ≤ ls.length + xs.length
  | [], a, L, c, ls => ⟨Nat.le_refl _, Nat.le_refl _⟩
  | x :: r, a, L, c, ls => by
    unfold Wp.pgo
    have hal : (addLn ls (a / 8)).length ≤ ls.length + 1 := by unfold addLn; split <;> simp
    split
    · obtain ⟨q1, q2⟩ := pgo_le all r (a + 1) L c ls
      simp only [List.length_cons]
      omega
    · obtain ⟨q1, q2⟩ := pgo_le all r (a + 1) (L.set a x) (c + 1) (addLn ls (a / 8))
      simp only [List.length_cons]
      omega

/-- the record is written -/
theorem rec_put (d : Dev) (hf : d.fuse = none) (hL : 16 ≤ d.las.length) (l : List Nat) (h8 : l.length = 8) :
    ∃ d', putGo true (ints l) 8 ⟨d, 0, []⟩ = (d', some 8) ∧ lds d' 8 8 = ints l ∧ d'.fuse = none ∧ d'.las.length = d.las.length ∧ d'.steps ≤ d.steps + 16 := by
  have hl : (ints l).length = 8 := by rw [ints_length, h8]
  obtain ⟨d', e, hp⟩ := Wp.put_many d hf (ints l) 8 (by rw [hl]; omega)
  rw [hl] at e hp
  refine ⟨d', e, ?_, hp.fuse, by rw [hp.las], ?_⟩
  · have := Vh.lds_wput (k := 8) hp.words (by rw [hl, Pm.wordsOf_length]; omega)
    rw [hl] at this
    exact this
  · have := hp.steps
    rw [show nline 8 8 = 1 from by decide] at this
    omega
/-- all lasts -/
theorem rec_fence {d : Dev} (hw : d.Wf) (hf : d.fuse = none) (hL : 16 ≤ d.las.length) : lds d.fenced 8 8 = lds d 8 8 ∧ d.fenced.fuse = none ∧ d.fenced.las.length = d.las.length ∧ d.fenced.steps ≤ d.steps + 16 := by
  obtain ⟨q1, q2, q3, q4⟩ := fenced_words hw hf
  refine ⟨?_, q2, q3, by omega⟩
  rw [lds_drop (by omega), lds_drop (by omega), q1]
/-- it is cleared -/
theorem rec_clear (d : Dev) (hf : d.fuse = none) (hL : 16 ≤ d.las.length) (l : List Nat) (hl : lds d 8 8 = ints l) :
    ∃ d', putGo false (ints (List.replicate 8 0)) 8 ⟨d, 0, []⟩ = (d', some (nz l)) ∧ lds d' 8 8 = ints (List.replicate 8 0) ∧ d'.fuse = none ∧ d'.las.length = d.las.length ∧ d'.steps ≤ d.steps + 16 := by
  have hz : ints (List.replicate 8 0) = List.replicate 8 0 := rfl
  obtain ⟨d', e, hp⟩ := Wp.put_gen d false (List.replicate 8 0) 8 d (Pm.wordsOf d) 0 [] ⟨rfl, hf, rfl, rfl, rfl⟩ (by simp; omega) (by simp)
  obtain ⟨q1, q2⟩ := pgo_clear 8 8 (Pm.wordsOf d) 0 [] (by rw [Pm.wordsOf_length]; omega)
  obtain ⟨q3, q4⟩ := pgo_le false (List.replicate 8 0) 8 (Pm.wordsOf d) 0 []
  have hcnt : (((Pm.wordsOf d).drop 8).take 8).filter (fun x => decide (x ≠ 0)) = ints (l.filter fun x => decide (x ≠ 0)) := by
    rw [← lds_drop (by omega), hl]
    clear hl
    induction l with
    | nil => rfl
    | cons a r ih =>
      simp only [ints, List.map_cons] at ih ⊢
      by_cases ha : a = 0
      · subst ha
        simpa using ih
      · rw [List.filter_cons_of_pos (by simp; omega), List.filter_cons_of_pos (by simpa using ha), ih]
        rfl
  rw [hcnt, ints_length, Nat.zero_add] at q2
  rw [q1] at hp
  rw [q2] at e hp q3
  refine ⟨d', e, ?_, hp.fuse, by rw [hp.las], ?_⟩
  · have := Vh.lds_wput (k := 8) (xs := List.replicate 8 0) hp.words (by rw [Pm.wordsOf_length]; simp; omega)
    exact this
  · have := hp.steps
    rw [List.length_replicate] at q3 q4
    rw [List.length_nil] at q4
    unfold nz at *
    omega

end Go.Proofs.YtgnagbbdnlmgeaaGreat.Md
end

/- volume.SetInode, Inode. -/
section
set_option linter.unusedVariables false
set_option linter.unusedSimpArgs false
set_option maxHeartbeats 2000000
set_option maxRecDepth 100000
namespace Go.Proofs.YtgnagbbdnlmgeaaGreat.Vo
open Go Go.RowKit
open Go.Proofs.YtgnagbbdnlmgeaaGreat.Ob Go.Proofs.YtgnagbbdnlmgeaaGreat.Ba Go.Proofs.YtgnagbbdnlmgeaaGreat.Oc Go.Proofs.YtgnagbbdnlmgeaaGreat.Pk Go.Proofs.YtgnagbbdnlmgeaaGreat.Dv Go.Proofs.YtgnagbbdnlmgeaaGreat.Su Go.Proofs.YtgnagbbdnlmgeaaGreat.Mp Go.Proofs.YtgnagbbdnlmgeaaGreat.Ge Go.Proofs.YtgnagbbdnlmgeaaGreat.Lo Go.Proofs.YtgnagbbdnlmgeaaGreat.Ko Go.Proofs.YtgnagbbdnlmgeaaGreat.In

theorem setinode_range {w : World} {v b n m s : Nat} {d : Dev} {g : Lay} (h : VolIs w v b n m s d g) (i x y z : Int) (hi : i < 0 ∨ (m : Int) ≤ i) :
    Calls Tryz.prog 51 #[.pointer (some ⟨v, 0, none⟩), .int .i64 i, .agg #[.int .i64 x, .int .i64 y, .int .i64 z]] w fun e w' => e = .returned (.int .i64 9) ∧ Below w.heap.size w w' := by
  have hu := Tryz.underlying42
  have hsl := inode_ n m s i h.ok
  rw [plc_no hi] at hsl
  have HS := Lib.hid hsl
  have h2 := h.below (bl_alloc (Below.refl _ _) (.cells #[.int .i64 x, .int .i64 y, .int .i64 z] 42))
  obtain ⟨c0, c1, c2, c3⟩ := h2.cells
  clear h h2 hi hsl
  go_enter Tryz.func51, Tryz.ntmps51
  go_wp2_with (go_at_call 76; refine (HS.out _).mono ?_; rintro e w1 ⟨rfl, hb⟩; (have HB := Lib.hid hb); clear hb)
  go_ret
  exact ⟨rfl, bl_then (bl_alloc (Below.refl _ _) _) HB.out⟩

theorem setinode_no {w : World} {v b n m s : Nat} {d : Dev} {g : Lay} (h : VolIs w v b n m s d g) (i x y z : Int) (hi : 0 ≤ i ∧ i < (m : Int)) (hmay : iB x y z = false) :
    Calls Tryz.prog 51 #[.pointer (some ⟨v, 0, none⟩), .int .i64 i, .agg #[.int .i64 x, .int .i64 y, .int .i64 z]] w fun e w' => e = .returned (.int .i64 1) ∧ Below w.heap.size w w' := by
  have hu := Tryz.underlying42
  have hsl := inode_ n m s i h.ok
  rw [plc_yes hi] at hsl
  obtain ⟨k, hk⟩ : ∃ k, k = 16 + 8 * i := ⟨_, rfl⟩
  rw [← hk] at hsl
  have hk0 : 0 ≤ k := by omega
  have HS := Lib.hid hsl
  have HE := Lib.hid (encode_no x y z hmay)
  have h2 := h.below (bl_alloc (Below.refl _ _) (.cells #[.int .i64 x, .int .i64 y, .int .i64 z] 42))
  obtain ⟨c0, c1, c2, c3⟩ := h2.cells
  clear h h2 hi hsl hk hmay
  go_enter Tryz.func51, Tryz.ntmps51
  go_wp2_with (first | (go_at_call 76; refine (HS.out _).mono ?_; rintro e w1 ⟨rfl, hb⟩; (have hq := blk_bl (alloc_new w (.cells #[.int .i64 x, .int .i64 y, .int .i64 z] 42)) hb); (have m0 := cell_of hq 0); (have m1 := cell_of hq 1); (have m2 := cell_of hq 2); (have HB := Lib.hid hb); clear hb hq) |
    (go_at_call 108; refine (HE.out _).mono ?_; rintro e w2 ⟨rfl, hb⟩; (have HB2 := Lib.hid hb); clear hb))
  go_ret
  exact ⟨rfl, bl_then (bl_then (bl_alloc (Below.refl _ _) _) HB.out) HB2.out⟩

theorem setinode_yes {w : World} {v b n m s : Nat} {d : Dev} {g : Lay} (h : VolIs w v b n m s d g) (hst : d.steps ≤ 1000000000) (i x y z : Int) (hi : 0 ≤ i ∧ i < (m : Int)) (hmay : iB x y z = true) (k : Nat) (hk : (k : Int) = 16 + 8 * i)
    (R : Dev × Option Nat) (hR : putGo true (ints (iLine x y z)) k ⟨d, 0, []⟩ = R) :
    Calls Tryz.prog 51 #[.pointer (some ⟨v, 0, none⟩), .int .i64 i, .agg #[.int .i64 x, .int .i64 y, .int .i64 z]] w fun e w' => e = .returned (.int .i64 (ecode R)) ∧ DevTo w w' b g R.1 := by
  have hu := Tryz.underlying42
  have hsl := inode_ n m s i h.ok
  rw [plc_yes hi, ← hk] at hsl
  have hin := inB_out (ok_out h.ok).1
  have hk9 : k ≤ 1000000000 := by omega
  have HS := Lib.hid hsl
  have HE := Lib.hid (encode_yes x y z hmay)
  have HV := Lib.hid h
  have HST := Lib.hid hst
  have HR := Lib.hid hR
  have HK9 := Lib.hid hk9
  have HLN := Lib.hid (iLine_len x y z)
  have h2 := h.below (bl_alloc (Below.refl _ _) (.cells #[.int .i64 x, .int .i64 y, .int .i64 z] 42))
  obtain ⟨c0, c1, c2, c3⟩ := h2.cells
  clear h h2 hi hsl hk hmay hin hst hR hk9
  generalize iLine x y z = t at *
  go_enter Tryz.func51, Tryz.ntmps51
  go_wp2_with (first | (go_at_call 76; refine (HS.out _).mono ?_; rintro e w1 ⟨rfl, hb⟩; (have hq := blk_bl (alloc_new w (.cells #[.int .i64 x, .int .i64 y, .int .i64 z] 42)) hb); (have m0 := cell_of hq 0); (have m1 := cell_of hq 1); (have m2 := cell_of hq 2); (have HB := Lib.hid hb); clear hb hq) |
    (go_at_call 108; refine (HE.out _).mono ?_; rintro e w2 ⟨v2, rfl, hown, hb⟩; (have hbw := bl_then (bl_alloc (Below.refl _ _) _) HB.out); (have hlo2 := hbw.size); (obtain ⟨A2, c2, rfl⟩ := own_slice hown); (have HR2 := Lib.hid (own_rk (k := .u64) hown).1); (have HA2 : Hid (∀ p, A2 = some p → w.heap.size ≤ p.block) := fun p hp => Nat.le_trans hlo2 (own_lo hown _ (by rw [hp]; rfl))); (have HB2 := Lib.hid (bl_then hbw hb)); (have HV2 := Lib.hid (HV.out.below HB2.out)); (have n0 := HV2.out.cells.1); clear hb HB hown hbw hlo2))
  have hput := put_all HV2.out.dev HR2.out (fun p hp hm => by have := HA2.out p hp; have := HV.out.dev.lt _ hm; omega) k c2 HK9.out (by rw [ints_length, HLN.out]; decide) HST.out R HR.out
  rw [ints_length, HLN.out] at hput
  refine hput.mono ?_
  rintro e w4 ⟨rfl, hto⟩
  have HTO := Lib.hid hto
  clear hput hto
  go_wp2_with fail
  go_ret
  exact ⟨rfl, by
    obtain ⟨g2, q1, q2, q3⟩ := HTO.out
    have hbb := HB2.out
    refine ⟨g2, q1, fun u hu => ?_, (Upd.of_below (F := g.foot b) hbb).trans q3 (fun u hu => .inl hu)⟩
    rcases q2 u hu with r | r
    · exact .inl r
    · exact .inr (Nat.le_trans hbb.size r)⟩

theorem inode_get {w : World} {v b n m s : Nat} {d : Dev} {g : Lay} (h : VolIs w v b n m s d g) (i : Int) (hi : 0 ≤ i ∧ i < (m : Int)) (k : Nat) (hk : (k : Int) = 16 + 8 * i) (ws : List Nat) (hw : lds d k 8 = ints ws) (hws : ∀ x ∈ ws, x < 18446744073709551616) :
    Calls Tryz.prog 19 #[.pointer (some ⟨v, 0, none⟩), .int .i64 i] w fun e w' => D6 ws e ∧ Below w.heap.size w w' := by
  have hu := Tryz.underlying42
  have hsl := inode_ n m s i h.ok
  rw [plc_yes hi, ← hk] at hsl
  have hin := inB_out (ok_out h.ok).1
  have hk9 : k ≤ 1000000000 := by omega
  have hl8 : ws.length = 8 := by rw [← ints_length, ← hw, lds_length]
  have HS := Lib.hid hsl
  have HV := Lib.hid h
  have HLN : Hid (∀ {W : World}, Below w.heap.size w W → _) := fun {W} hb => line_ (h.dev.below hb) k 8 hk9 (by decide)
  rw [hw] at HLN
  have HDE : Hid (∀ {W : World} {A : Option Addr} {c : Nat}, Rk .u64 W A (ints ws) → _) := fun {W A c} hr => decode_ (w := W) (A := A) hr c hl8 hws
  have h2 := h.below (bl_alloc (Below.refl _ _) (.cells #[.int .i64 0, .int .i64 0, .int .i64 0] 42))
  obtain ⟨c0, c1, c2, c3⟩ := h2.cells
  clear h h2 hi hsl hk hin hw hws hl8 hk9
  go_enter Tryz.func19, Tryz.ntmps19
  go_wp2_with fail
  refine (HS.out _).mono ?_
  rintro e w1 ⟨rfl, hb⟩
  have hq1 := Lib.hid (blk_bl (alloc_new w (.cells #[.int .i64 0, .int .i64 0, .int .i64 0] 42)) hb)
  have HB1 := Lib.hid (bl_then (bl_alloc (Below.refl _ _) _) hb)
  have n0 := (HV.out.below HB1.out).cells.1
  clear hb
  go_wp2_with fail
  refine (HLN.out HB1.out).mono ?_
  rintro e w2 ⟨v2, rfl, hown, hb⟩
  obtain ⟨A2, c2, rfl⟩ := own_slice hown
  have hq2 := Lib.hid (blk_bl hq1.out hb)
  have HB2 := Lib.hid (bl_then HB1.out hb)
  have HR2 := Lib.hid (own_rk (k := .u64) hown).1
  clear hb hown
  go_wp2_with fail
  refine (HDE.out HR2.out).mono ?_
  rintro e w3 ⟨he, hb⟩
  obtain ⟨q0, q1, q2, qe, he2, hd⟩ : ∃ q0 q1 q2 qe, e = .returned (.tuple #[.agg #[.int .i64 q0, .int .i64 q1, .int .i64 q2], .int .i64 qe]) ∧ D6 ws (.returned (.tuple #[.agg #[.int .i64 q0, .int .i64 q1, .int .i64 q2], .int .i64 qe])) := ⟨_, _, _, _, he, rfl⟩
  subst he2
  have HD := Lib.hid hd
  have hq3 := Lib.hid (blk_bl hq2.out hb)
  have HB3 := Lib.hid (bl_then HB2.out hb)
  have l0 := cell_of hq3.out 0
  have l1 := cell_of hq3.out 1
  have l2 := cell_of hq3.out 2
  have f0 := free_of hq3.out 0
  have f1 := free_of hq3.out 1
  have f2 := free_of hq3.out 2
  clear he hd hb
  go_wp2_with fail
  exact bodyPost_ret (res_ct (u := 5) rfl _ _ w.heap.size 42 #[.int .i64 q0, .int .i64 q1, .int .i64 q2] (0, 0) _ rfl (put3 hq3.out _ _ _) hu rfl (by kernel_rfl)) rfl ⟨HD.out, bl_put3 HB3.out (Nat.le_refl _) _ _ _⟩

theorem inode_out {w : World} {v b n m s : Nat} {d : Dev} {g : Lay} (h : VolIs w v b n m s d g) (i : Int) (hi : i < 0 ∨ (m : Int) ≤ i) :
    Calls Tryz.prog 19 #[.pointer (some ⟨v, 0, none⟩), .int .i64 i] w fun e w' => e = .returned (.tuple #[.agg #[.int .i64 0, .int .i64 (-1), .int .i64 0], .int .i64 9]) ∧ Below w.heap.size w w' := by
  have hu := Tryz.underlying42
  have hsl := inode_ n m s i h.ok
  rw [plc_no hi] at hsl
  have HS := Lib.hid hsl
  have h2 := h.below (bl_alloc (Below.refl _ _) (.cells #[.int .i64 0, .int .i64 0, .int .i64 0] 42))
  obtain ⟨c0, c1, c2, c3⟩ := h2.cells
  clear h h2 hi hsl
  go_enter Tryz.func19, Tryz.ntmps19
  go_wp2_with fail
  refine (HS.out _).mono ?_
  rintro e w1 ⟨rfl, hb⟩
  have hq1 := Lib.hid (blk_bl (alloc_new w (.cells #[.int .i64 0, .int .i64 0, .int .i64 0] 42)) hb)
  have HB1 := Lib.hid (bl_then (bl_alloc (Below.refl _ _) _) hb)
  clear hb
  go_wp2_with fail
  refine (none_ _).mono ?_
  rintro e w2 ⟨rfl, hb⟩
  have hq2 := Lib.hid (blk_bl hq1.out hb)
  have HB2 := Lib.hid (bl_then HB1.out hb)
  have l0 := cell_of hq2.out 0
  have l1 := cell_of hq2.out 1
  have l2 := cell_of hq2.out 2
  have f0 := free_of hq2.out 0
  have f1 := free_of hq2.out 1
  have f2 := free_of hq2.out 2
  clear hb
  go_wp2_with fail
  exact bodyPost_ret (res_ct (u := 5) rfl _ _ w.heap.size 42 #[.int .i64 0, .int .i64 (-1), .int .i64 0] (0, 0) _ rfl (put3 hq2.out _ _ _) hu rfl (by kernel_rfl)) rfl ⟨rfl, bl_put3 HB2.out (Nat.le_refl _) _ _ _⟩

end Go.Proofs.YtgnagbbdnlmgeaaGreat.Vo
end
