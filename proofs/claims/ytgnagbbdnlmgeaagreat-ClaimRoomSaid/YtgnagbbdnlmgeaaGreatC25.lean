/- Parts of the proof, one behind the other: Ea, Ec, Eb. -/
import Derived.Test.YtgnagbbdnlmgeaaGreatC20
import Derived.Test.YtgnagbbdnlmgeaaGreatC17
import Derived.Test.YtgnagbbdnlmgeaaGreatC21
import Derived.Test.YtgnagbbdnlmgeaaGreatC19
import Derived.Test.YtgnagbbdnlmgeaaGreatC18
import Derived.Deep.AppendLies
import Derived.Deep.RegionHeld3

/- geometry.Need; a volume's inode, of a number; claims as data and in memory. -/
section
set_option linter.unusedVariables false
set_option linter.unusedSimpArgs false
set_option maxHeartbeats 2000000
set_option maxRecDepth 100000
namespace Go.Proofs.YtgnagbbdnlmgeaaGreat.Cm
open Go Go.RowKit
open Go.Proofs.YtgnagbbdnlmgeaaGreat.Rr Go.Proofs.YtgnagbbdnlmgeaaGreat.Ob Go.Proofs.YtgnagbbdnlmgeaaGreat.Ba Go.Proofs.YtgnagbbdnlmgeaaGreat.Ko Go.Proofs.YtgnagbbdnlmgeaaGreat.Ge Go.Proofs.YtgnagbbdnlmgeaaGreat.Oc Go.Proofs.YtgnagbbdnlmgeaaGreat.Pk Go.Proofs.YtgnagbbdnlmgeaaGreat.Su Go.Proofs.YtgnagbbdnlmgeaaGreat.Rf Go.Proofs.YtgnagbbdnlmgeaaGreat.Dv Go.Proofs.YtgnagbbdnlmgeaaGreat.Vo Go.Proofs.YtgnagbbdnlmgeaaGreat.Ra Go.Proofs.YtgnagbbdnlmgeaaGreat.Jh Go.Proofs.YtgnagbbdnlmgeaaGreat.Tr Go.Proofs.YtgnagbbdnlmgeaaGreat.Iq Go.Proofs.YtgnagbbdnlmgeaaGreat.Bm Go.Proofs.YtgnagbbdnlmgeaaGreat.In Go.Proofs.YtgnagbbdnlmgeaaGreat.Je

def needF (s : Nat) (z : Int) : Int := if z ≤ 0 then 0 else (z - 1) / s + 1

theorem need_ (n m s : Nat) (h : geoOk n m s = true) (hs : 1 ≤ s) (z : Int) (hz : z ≤ 9223372036854775807) (w : World) :
    Calls Tryz.prog 158 #[.agg #[.int .i64 n, .int .i64 m, .int .i64 s], .int .i64 z] w fun e w' => e = .returned (.int .i64 (needF s z)) ∧ Below w.heap.size w w' := by
  have hu := Tryz.underlying34
  have HMY : Hid (∀ w, Calls Tryz.prog 140 #[.agg #[.int .i64 n, .int .i64 m, .int .i64 s]] w fun e w' => e = .returned (.bool true) ∧ Below w.heap.size w w') := fun w => by
    have := Ge.may_ n m s w
    rw [h] at this
    exact this
  by_cases h0 : z ≤ 0
  · have e : needF s z = 0 := by unfold needF; rw [if_pos h0]
    rw [e]
    clear h e
    go_enter Tryz.func158, Tryz.ntmps158
    go_wp2_with fail
    go_ret
    exact ⟨rfl, bl_alloc (Below.refl _ _) _⟩
  · have HE : Hid (needF s z = (z - 1) / s + 1) := by show _ = _; unfold needF; rw [if_neg h0]
    rw [HE.out]
    have hsz : ((s : Int) == 0) = false := by rw [beq_eq_false_iff_ne]; omega
    have HD : Hid (0 ≤ (z - 1) / (s : Int) ∧ (z - 1) / (s : Int) ≤ z - 1) := ⟨Int.ediv_nonneg (by omega) (by omega), Int.ediv_le_self _ (by omega)⟩
    have hd1 := HD.out.1
    have hd2 := HD.out.2
    have hq := alloc_new w (.cells #[.int .i64 n, .int .i64 m, .int .i64 s] 34)
    have HQ := Lib.hid hq
    have ht : (z - 1).tdiv (s : Int) = (z - 1) / (s : Int) := Int.tdiv_eq_ediv_of_nonneg (by omega)
    clear h hq
    go_enter Tryz.func158, Tryz.ntmps158
    go_wp2_with fail
    refine (HMY.out _).mono ?_
    rintro e w1 ⟨rfl, hb1⟩
    have HB1 := Lib.hid (bl_then (bl_alloc (Below.refl _ _) _) hb1)
    have hq1 := blk_bl HQ.out hb1
    have k2 := cell_of hq1 2
    clear hq1 hb1
    go_wp2_with fail
    go_ret
    exact ⟨rfl, HB1.out⟩

/-- a volume's inode, of a number -/
def inL (ws : List Nat) (i : Nat) : List Nat := (ws.drop (16 + 8 * i)).take 8
def inF (ws : List Nat) (m : Nat) (i : Int) : Option (Int × Int × Int) := if 0 ≤ i ∧ i < m then (if ok6 (inL ws i.toNat) then some (n6 (inL ws i.toNat)) else none) else none
def inV (o : Option (Int × Int × Int)) : Int × Int × Int := o.getD (0, -1, 0)

theorem lds_any {d : Dev} {ws : List Nat} (hwd : Pm.wordsOf d = ints ws) {k n : Nat} (h : k + n ≤ ws.length) : lds d k n = ints ((ws.drop k).take n) := by
  have e : d.las.length = ws.length := by rw [← Pm.wordsOf_length, hwd, ints_length]
  rw [Md.lds_drop (by rw [e]; exact h), hwd, ints_dt]

theorem inode_call {W : World} {v b n m s : Nat} {d : Dev} {g : Lay} {ws : List Nat} (hv : VolIs W v b n m s d g) (hwd : Pm.wordsOf d = ints ws) (hlt : ∀ x ∈ ws, x < 18446744073709551616) (hfit : 16 + 8 * m ≤ ws.length) (i : Int) :
    Calls Tryz.prog 19 #[.pointer (some ⟨v, 0, none⟩), .int .i64 i] W fun o w' => ∃ e : Int, o = .returned (.tuple #[.agg #[.int .i64 (inV (inF ws m i)).1, .int .i64 (inV (inF ws m i)).2.1, .int .i64 (inV (inF ws m i)).2.2], .int .i64 e]) ∧ (e != 0) = (inF ws m i).isNone ∧ Below W.heap.size W w' := by
  by_cases hi : i < 0 ∨ (m : Int) ≤ i
  · have hs : inF ws m i = none := by unfold inF; rw [if_neg (by omega)]
    rw [hs]
    exact (inode_out hv i hi).mono fun e w' ⟨h1, h2⟩ => ⟨9, h1, rfl, h2⟩
  · have hk : ((16 + 8 * i.toNat : Nat) : Int) = 16 + 8 * i := by omega
    have hl := lds_any hwd (k := 16 + 8 * i.toNat) (n := 8) (by omega)
    have hs : inF ws m i = if ok6 (inL ws i.toNat) then some (n6 (inL ws i.toNat)) else none := by unfold inF; rw [if_pos (by omega)]
    refine (inode_get hv i (by omega) _ hk _ hl (fun x hx => hlt x (List.mem_of_mem_drop (List.mem_of_mem_take hx)))).mono ?_
    rintro e w' ⟨h1, h2⟩
    unfold D6 at h1
    rw [hs]
    cases h9 : ok6 (inL ws i.toNat) with
    | true => 
      refine ⟨0, ?_, rfl, h2⟩
      rw [h1, show (ws.drop (16 + 8 * i.toNat)).take 8 = inL ws i.toNat from rfl, h9]
      rfl
    | false =>
      refine ⟨2, ?_, rfl, h2⟩
      rw [h1, show (ws.drop (16 + 8 * i.toNat)).take 8 = inL ws i.toNat from rfl, h9]
      unfold n6
      rw [h9]
      rfl

/-- an inode, and its chain -/
structure Own where
  k : Int
  h : Int
  z : Int
  sa : Option Addr
  sc : Nat
  pa : Option Addr
  pc : Nat
  L : List (Int × Tri)
def Own.vs (e : Own) : List Value := [.int .i64 e.k, .int .i64 e.h, .int .i64 e.z, .slice e.sa e.L.length e.sc, .slice e.pa e.L.length e.pc]
def ovs (l : List Own) : List Value := l.flatMap Own.vs
theorem ovs_length (l : List Own) : (ovs l).length = l.length * 5 := by
  induction l with
  | nil => rfl
  | cons a r ih => simp [ovs, Own.vs] at ih ⊢; omega
theorem ovs_append (a b : List Own) : ovs (a ++ b) = ovs a ++ ovs b := by simp [ovs]
theorem ovs_get {l : List Own} {i : Nat} {p : Own} (h : l[i]? = some p) : (ovs l)[i * 5]? = some (.int .i64 p.k) ∧ (ovs l)[i * 5 + 1]? = some (.int .i64 p.h) ∧ (ovs l)[i * 5 + 2]? = some (.int .i64 p.z) ∧ (ovs l)[i * 5 + 3]? = some (.slice p.sa p.L.length p.sc) ∧ (ovs l)[i * 5 + 4]? = some (.slice p.pa p.L.length p.pc) := by
  induction l generalizing i with
  | nil => simp at h
  | cons a r ih =>
    have e : ovs (a :: r) = .int .i64 a.k :: .int .i64 a.h :: .int .i64 a.z :: .slice a.sa a.L.length a.sc :: .slice a.pa a.L.length a.pc :: ovs r := rfl
    cases i with
    | zero => simp at h; subst h; exact ⟨rfl, rfl, rfl, rfl, rfl⟩
    | succ i =>
      simp at h
      obtain ⟨h1, h2, h3, h4, h5⟩ := ih h
      rw [e, show (i + 1) * 5 = i * 5 + 5 by omega]
      exact ⟨h1, h2, h3, h4, h5⟩

/-- a chain's rows -/
structure Ch (W : World) (B : Nat) (e : Own) : Prop where
  slots : W.ownsRow B 3 1 (.slice e.sa e.L.length e.sc) e.L.length (ivs .i64 (e.L.map Prod.fst))
  parts : W.ownsRow B 51 3 (.slice e.pa e.L.length e.pc) e.L.length (tvs (e.L.map Prod.snd))
theorem Ch.keep {W W' : World} {B : Nat} {e : Own} (h : Ch W B e) (hb : Below W.heap.size W W') : Ch W' B e := ⟨own_bl h.slots hb, own_bl h.parts hb⟩

/-- claims in memory: what blocks are used, what slots, and each inode's chain -/
structure Cl (W : World) (B q b1 b2 n : Nat) (l1 l2 : List Nat) (g1 g2 c1 c2 : Nat) (es : List Own) (LA : Option Addr) (lc : Nat) : Prop where
  blk : W.heap[q]? = some (.cells #[.slice LA es.length lc, .pointer (some ⟨b1, 0, none⟩), .pointer (some ⟨b2, 0, none⟩)] 179 (0, 0))
  lo : B ≤ q
  row : W.ownsRow B 185 5 (.slice LA es.length lc) es.length (ovs es)
  chs : ∀ e ∈ es, Ch W B e
  bm1 : Bm W B b1 n l1 (some ⟨g1, 0, none⟩) c1
  bm2 : Bm W B b2 n l2 (some ⟨g2, 0, none⟩) c2
  neb : b1 ≠ b2
  neg : g1 ≠ g2
theorem Cl.keep {W W' : World} {B q b1 b2 n : Nat} {l1 l2 : List Nat} {g1 g2 c1 c2 : Nat} {es : List Own} {LA : Option Addr} {lc : Nat} (h : Cl W B q b1 b2 n l1 l2 g1 g2 c1 c2 es LA lc) (hb : Below W.heap.size W W') : Cl W' B q b1 b2 n l1 l2 g1 g2 c1 c2 es LA lc :=
  ⟨blk_bl h.blk hb, h.lo, own_bl h.row hb, fun e he => (h.chs e he).keep hb, h.bm1.keep hb, h.bm2.keep hb, h.neb, h.neg⟩

end Go.Proofs.YtgnagbbdnlmgeaaGreat.Cm
end

/- Claims in memory: what becomes of them behind an append, a store, bits that are put. -/
section
set_option linter.unusedVariables false
set_option linter.unusedSimpArgs false
namespace Go.Proofs.YtgnagbbdnlmgeaaGreat.Cm
open Go Go.RowKit
open Go.Proofs.YtgnagbbdnlmgeaaGreat.Rr Go.Proofs.YtgnagbbdnlmgeaaGreat.Ob Go.Proofs.YtgnagbbdnlmgeaaGreat.Ba Go.Proofs.YtgnagbbdnlmgeaaGreat.Ko Go.Proofs.YtgnagbbdnlmgeaaGreat.Ge Go.Proofs.YtgnagbbdnlmgeaaGreat.Oc Go.Proofs.YtgnagbbdnlmgeaaGreat.Pk Go.Proofs.YtgnagbbdnlmgeaaGreat.Su Go.Proofs.YtgnagbbdnlmgeaaGreat.Rf Go.Proofs.YtgnagbbdnlmgeaaGreat.Dv Go.Proofs.YtgnagbbdnlmgeaaGreat.Vo Go.Proofs.YtgnagbbdnlmgeaaGreat.Ra Go.Proofs.YtgnagbbdnlmgeaaGreat.Jh Go.Proofs.YtgnagbbdnlmgeaaGreat.Tr Go.Proofs.YtgnagbbdnlmgeaaGreat.Iq Go.Proofs.YtgnagbbdnlmgeaaGreat.Bm Go.Proofs.YtgnagbbdnlmgeaaGreat.In Go.Proofs.YtgnagbbdnlmgeaaGreat.Je

/-- a row of another type than the one that grows -/
theorem own_grownT {w w' : World} {B B' T T' s s' n n' : Nat} {v v' : Value} {xs xs' : List Value} (hr : w.ownsRow B T s v n xs) (hg : w.grownBy w' v.ownBlock) (h : w.ownsRow B' T' s' v' n' xs') (hT : T ≠ T') : w'.ownsRow B' T' s' v' n' xs' :=
  own_grown hg h fun k hk => by
    obtain ⟨cur, hc⟩ := Bm.own_blk' h hk
    exact ne_type hr hc hT
theorem own_setT {w : World} {B T s n q o : Nat} {v y : Value} {xs : List Value} {cur : Array Value} {T' : Nat} {fr : Nat × Nat} (h : w.ownsRow B T s v n xs) (hq : w.heap[q]? = some (.cells cur T' fr)) (hT : T ≠ T') : (w.setCell ⟨q, o, none⟩ y).ownsRow B T s v n xs :=
  Vo.own_kq h fun k hk => Below.heap_setCell w _ _ k (fun e => ne_type h hq hT (by rw [hk]; exact congrArg some e))
theorem bm_grown {w w' : World} {B B' T s n b m : Nat} {v : Value} {xs : List Value} {l : List Nat} {g c : Nat} (hr : w.ownsRow B T s v n xs) (hg : w.grownBy w' v.ownBlock) (h : Bm w B' b m l (some ⟨g, 0, none⟩) c) (h1 : T ≠ 182) (h2 : T ≠ 94) : Bm w' B' b m l (some ⟨g, 0, none⟩) c :=
  ⟨grown_blk hg h.box (ne_type hr h.box h1), own_grownT hr hg h.row h2, h.lo, h.apart, h.len, h.lt, h.le⟩
theorem bm_setT {w : World} {B b m q o : Nat} {y : Value} {l : List Nat} {g c : Nat} {cur : Array Value} {T' : Nat} {fr : Nat × Nat} (h : Bm w B b m l (some ⟨g, 0, none⟩) c) (hq : w.heap[q]? = some (.cells cur T' fr)) (h1 : T' ≠ 182) (h2 : 94 ≠ T') : Bm (w.setCell ⟨q, o, none⟩ y) B b m l (some ⟨g, 0, none⟩) c :=
  ⟨set_blk h.box (fun e => by
      have h9 := h.box
      rw [← e, hq] at h9
      simp only [Option.some.injEq, Obj.cells.injEq] at h9
      exact h1 h9.2.1), own_setT h.row hq h2, h.lo, h.apart, h.len, h.lt, h.le⟩
theorem bm_blkg {w : World} {B b m : Nat} {l : List Nat} {g c : Nat} (h : Bm w B b m l (some ⟨g, 0, none⟩) c) : ∃ cur, w.heap[g]? = some (.cells cur 94 (0, 0)) := Bm.own_blk' h.row rfl
theorem bm_lo {w : World} {B b m : Nat} {l : List Nat} {g c : Nat} (h : Bm w B b m l (some ⟨g, 0, none⟩) c) : B ≤ g := own_lo h.row g rfl

/-- blocks of another type than the words -/
theorem only_blk {w w' : World} {g k : Nat} {c1 : Array Value} (ho : Only (some ⟨g, 0, none⟩) w w') (hg : w.heap[g]? = some (.cells c1 94 (0, 0))) {cur : Array Value} {T : Nat} {fr : Nat × Nat} (hk : w.heap[k]? = some (.cells cur T fr)) (hT : T ≠ 94) : w'.heap[k]? = some (.cells cur T fr) :=
  (ho.block k (fun a ha e => by
    cases ha
    rw [← e] at hk
    rw [hg] at hk
    simp only [Option.some.injEq, Obj.cells.injEq] at hk
    exact hT hk.2.1.symm)).trans hk
theorem only_own {w w' : World} {g B T s n : Nat} {v : Value} {xs : List Value} {c1 : Array Value} (ho : Only (some ⟨g, 0, none⟩) w w') (hg : w.heap[g]? = some (.cells c1 94 (0, 0))) (h : w.ownsRow B T s v n xs) (hT : T ≠ 94) : w'.ownsRow B T s v n xs :=
  Vo.own_kq h fun k hk => by
    obtain ⟨cur, hc⟩ := Bm.own_blk' h hk
    rw [only_blk ho hg hc hT, hc]
theorem only_bm {w w' : World} {g B b m g' c' : Nat} {l : List Nat} {c1 : Array Value} (ho : Only (some ⟨g, 0, none⟩) w w') (hg : w.heap[g]? = some (.cells c1 94 (0, 0))) (h : Bm w B b m l (some ⟨g', 0, none⟩) c') (hne : g ≠ g') : Bm w' B b m l (some ⟨g', 0, none⟩) c' :=
  ⟨only_blk ho hg h.box (by decide), Vo.own_kq h.row fun k hk => by
    have : g' = k := by simpa [Value.ownBlock] using hk
    subst this
    exact ho.block _ (fun a ha e => by cases ha; exact hne e), h.lo, h.apart, h.len, h.lt, h.le⟩
theorem only_below {w w' : World} {g B : Nat} (ho : Only (some ⟨g, 0, none⟩) w w') (hB : B ≤ g) : Below B w w' :=
  ⟨ho.os, ho.tape, ho.output, Nat.le_of_eq ho.size.symm, fun k hk => ho.block k (fun a ha e => by cases ha; simp only at e; omega)⟩

theorem Cl.push {X w7 : World} {B q b1 b2 n : Nat} {l1 l2 : List Nat} {g1 g2 c1 c2 : Nat} {es : List Own} {LA : Option Addr} {lc : Nat} (h : Cl X B q b1 b2 n l1 l2 g1 g2 c1 c2 es LA lc) {e : Own} (he : Ch X B e) {p : Option Addr} {cap : Nat}
    (ho : w7.ownsRow B 185 5 (.slice p (es.length + 1) cap) (es.length + 1) (ovs es ++ e.vs)) (hg : X.grownBy w7 (Value.slice LA es.length lc).ownBlock) :
    w7.heap[q]? = some (.cells #[.slice LA es.length lc, .pointer (some ⟨b1, 0, none⟩), .pointer (some ⟨b2, 0, none⟩)] 179 (0, 0)) ∧
    Cl (w7.setCell ⟨q, 0, none⟩ (.slice p (es.length + 1) cap)) B q b1 b2 n l1 l2 g1 g2 c1 c2 (es ++ [e]) p cap := by
  have hq := grown_blk hg h.blk (ne_type h.row h.blk (by decide))
  have hl : (es ++ [e]).length = es.length + 1 := by simp
  refine ⟨hq, ?_, h.lo, ?_, fun x hx => ?_, bm_setT (bm_grown h.row hg h.bm1 (by decide) (by decide)) hq (by decide) (by decide), bm_setT (bm_grown h.row hg h.bm2 (by decide) (by decide)) hq (by decide) (by decide), h.neb, h.neg⟩
  · rw [hl]
    exact set_same hq 0 _
  · rw [hl, ovs_append]
    have e9 : ovs [e] = e.vs := by simp [ovs]
    rw [e9]
    exact own_setT ho hq (by decide)
  · have hx2 : Ch X B x := by
      rcases List.mem_append.1 hx with h9 | h9
      · exact h.chs x h9
      · have : x = e := by simpa using h9
        rw [this]; exact he
    exact ⟨own_setT (own_grownT h.row hg hx2.slots (by decide)) hq (by decide), own_setT (own_grownT h.row hg hx2.parts (by decide)) hq (by decide)⟩

theorem Cl.put2 {X w' : World} {B q b1 b2 n : Nat} {l1 l2 l2' : List Nat} {g1 g2 c1 c2 : Nat} {es : List Own} {LA : Option Addr} {lc : Nat} (h : Cl X B q b1 b2 n l1 l2 g1 g2 c1 c2 es LA lc) (ho : Only (some ⟨g2, 0, none⟩) X w') (hb : Bm w' B b2 n l2' (some ⟨g2, 0, none⟩) c2) : Cl w' B q b1 b2 n l1 l2' g1 g2 c1 c2 es LA lc := by
  obtain ⟨cur, hg⟩ := bm_blkg h.bm2
  exact ⟨only_blk ho hg h.blk (by decide), h.lo, only_own ho hg h.row (by decide), fun x hx => ⟨only_own ho hg (h.chs x hx).slots (by decide), only_own ho hg (h.chs x hx).parts (by decide)⟩, only_bm ho hg h.bm1 (fun e => h.neg e.symm), hb, h.neb, h.neg⟩
theorem Cl.put1 {X w' : World} {B q b1 b2 n : Nat} {l1 l1' l2 : List Nat} {g1 g2 c1 c2 : Nat} {es : List Own} {LA : Option Addr} {lc : Nat} (h : Cl X B q b1 b2 n l1 l2 g1 g2 c1 c2 es LA lc) (ho : Only (some ⟨g1, 0, none⟩) X w') (hb : Bm w' B b1 n l1' (some ⟨g1, 0, none⟩) c1) : Cl w' B q b1 b2 n l1' l2 g1 g2 c1 c2 es LA lc := by
  obtain ⟨cur, hg⟩ := bm_blkg h.bm1
  exact ⟨only_blk ho hg h.blk (by decide), h.lo, only_own ho hg h.row (by decide), fun x hx => ⟨only_own ho hg (h.chs x hx).slots (by decide), only_own ho hg (h.chs x hx).parts (by decide)⟩, hb, only_bm ho hg h.bm2 h.neg, h.neb, h.neg⟩
theorem Cl.far {X : World} {B q b1 b2 n : Nat} {l1 l2 : List Nat} {g1 g2 c1 c2 : Nat} {es : List Own} {LA : Option Addr} {lc : Nat} (h : Cl X B q b1 b2 n l1 l2 g1 g2 c1 c2 es LA lc) : B ≤ X.heap.size := Nat.le_trans h.lo (Nat.le_of_lt (lt_of h.blk))

end Go.Proofs.YtgnagbbdnlmgeaaGreat.Cm
end

/- claim.take. -/
section
set_option linter.unusedVariables false
set_option linter.unusedSimpArgs false
set_option maxHeartbeats 40000000
set_option maxRecDepth 100000
namespace Go.Proofs.YtgnagbbdnlmgeaaGreat.Cm
open Go Go.RowKit
open Go.Proofs.YtgnagbbdnlmgeaaGreat.Rr Go.Proofs.YtgnagbbdnlmgeaaGreat.Ob Go.Proofs.YtgnagbbdnlmgeaaGreat.Ba Go.Proofs.YtgnagbbdnlmgeaaGreat.Ko Go.Proofs.YtgnagbbdnlmgeaaGreat.Ge Go.Proofs.YtgnagbbdnlmgeaaGreat.Oc Go.Proofs.YtgnagbbdnlmgeaaGreat.Pk Go.Proofs.YtgnagbbdnlmgeaaGreat.Su Go.Proofs.YtgnagbbdnlmgeaaGreat.Rf Go.Proofs.YtgnagbbdnlmgeaaGreat.Dv Go.Proofs.YtgnagbbdnlmgeaaGreat.Vo Go.Proofs.YtgnagbbdnlmgeaaGreat.Ra Go.Proofs.YtgnagbbdnlmgeaaGreat.Jh Go.Proofs.YtgnagbbdnlmgeaaGreat.Tr Go.Proofs.YtgnagbbdnlmgeaaGreat.Iq Go.Proofs.YtgnagbbdnlmgeaaGreat.Bm Go.Proofs.YtgnagbbdnlmgeaaGreat.In Go.Proofs.YtgnagbbdnlmgeaaGreat.Je Go.Proofs.YtgnagbbdnlmgeaaGreat.Lo

def takeF (n s : Nat) (sl : Int → Option Tri) (l1 l2 : List Nat) (h z : Int) : Option (List Nat × List Nat × List (Int × Tri)) :=
  match chainF n sl n h with
  | none => none
  | some L =>
    if sumR (runsOf (L.map Prod.snd)) ≠ needF s z then none
    else if ((turnL n false l2 (L.map Prod.fst)).2 : Int) ≠ (L.length : Int) then none
    else if ((turnL n false l1 (blocksOf (L.map Prod.snd))).2 : Int) ≠ sumR (runsOf (L.map Prod.snd)) then none
    else some ((turnL n false l1 (blocksOf (L.map Prod.snd))).1, (turnL n false l2 (L.map Prod.fst)).1, L)

structure Bl (w W : World) : Prop where
  below : Below w.heap.size w W

theorem blocks_lenC : ∀ (T : List Tri), sumR (runsOf T) = ((blocksOf T).length : Int)
  | [] => rfl
  | t :: r => by
    have h := blocks_lenC r
    have e1 : blocksOf (t :: r) = run1 t.1 t.2.1.toNat ++ blocksOf r := rfl
    have e2 : sumR (runsOf (t :: r)) = max 0 t.2.1 + sumR (runsOf r) := rfl
    rw [e1, e2, h, List.length_append, run1_len]
    omega
/-- what take comes to -/
def TakeIs (W w' : World) (B q b1 b2 n : Nat) (g1 g2 c1 c2 : Nat) (es : List Own) (k h z : Int) (e : Ending) : Option (List Nat × List Nat × List (Int × Tri)) → Prop
  | none => e = .returned (.bool false)
  | some r => e = .returned (.bool true) ∧ ∃ sa sc pa pc LA lc, Cl w' B q b1 b2 n r.1 r.2.1 g1 g2 c1 c2 (es ++ [⟨k, h, z, sa, sc, pa, pc, r.2.2⟩]) LA lc

theorem take_ {W : World} {v b n m s : Nat} {dv : Dev} {g : Lay} {ws : List Nat} (hv : VolIs W v b n m s dv g) (hwd : Pm.wordsOf dv = ints ws) (hlt : ∀ x ∈ ws, x < 18446744073709551616) (hfit : 16 + 8 * m + n ≤ ws.length) (hn : n ≤ 24) (hs1 : 1 ≤ s)
    {B q b1 b2 : Nat} {l1 l2 : List Nat} {g1 g2 c1 c2 : Nat} {es : List Own} {LA : Option Addr} {lc : Nat} (hc : Cl W B q b1 b2 n l1 l2 g1 g2 c1 c2 es LA lc) (hes : es.length ≤ 65534) (k h z : Int) (hz : z ≤ 9223372036854775807) :
    Calls Tryz.prog 110 #[.pointer (some ⟨q, 0, none⟩), .pointer (some ⟨v, 0, none⟩), .agg #[.int .i64 k, .int .i64 h, .int .i64 z]] W fun e w' =>
      TakeIs W w' B q b1 b2 n g1 g2 c1 c2 es k h z e (takeF n s (slF ws n m) l1 l2 h z) ∧ Below B W w' := by
  have hu := Tryz.underlying82
  have hu2 := Tryz.underlying42
  have hu3 := Tryz.underlying179
  have hu4 := Tryz.underlying185
  obtain ⟨zO, hiO, hzO0, hzO1, hzO2⟩ := info_parts (show (Tryz.prog.info? 185).map (fun i => (i.zero, i.size, i.bytes)) = some (some (.agg #[.int .i64 0, .int .i64 0, .int .i64 0, .slice none 0 0, .slice none 0 0]), 5, 72) by kernel_rfl)
  have HRD : Hid (∀ {W' : World}, Below W.heap.size W W' → _) := fun {W'} hb => read_ (hv.below hb) hwd hlt hfit (by omega) h
  have HG : Hid (∀ {W' : World}, Below W.heap.size W W' → _) := fun {W'} hb => Jh.geom_ (hv.below hb)
  have HND : Hid (∀ w, _) := fun w => need_ n m s hv.ok hs1 z hz w
  have HMAY : Hid (∀ i t, slF ws n m i = some t → sMay t.1 t.2.1 t.2.2 = true ∧ 0 ≤ i ∧ i < n) := fun i t h => slF_may h
  generalize slF ws n m = sl at *
  have HC := Lib.hid hc
  have HLO : Hid (B ≤ W.heap.size) := Nat.le_trans hc.lo (Nat.le_of_lt (lt_of hc.blk))
  obtain ⟨TF, hTF⟩ : ∃ TF, TF = takeF n s sl l1 l2 h z := ⟨_, rfl⟩
  rw [← hTF]
  have HTF0 := Lib.hid hTF
  clear hv hwd hlt hfit hc hz hTF
  have hq0 := alloc_new W (.cells #[.int .i64 k, .int .i64 h, .int .i64 z] 42)
  have HQ0 := Lib.hid hq0
  clear hq0
  go_enter Tryz.func110, Tryz.ntmps110
  go_wp2_with fail
  refine (HRD.out (bl_alloc (Below.refl _ _) _)).mono ?_
  rintro e w3 ⟨hso, hno, hb3⟩
  have HB3 := Lib.hid (bl_then (bl_alloc (Below.refl _ _) _) hb3)
  have HQ3 := Lib.hid (blk_bl HQ0.out hb3)
  clear hb3
  cases hch : chainF n sl n h with
  | none =>
    obtain rfl := hno hch
    have hT : TF = none := by rw [HTF0.out]; unfold takeF; rw [hch]
    subst hT
    clear hso hno hch
    go_wp2_with fail
    go_quiet (fail)
    go_wp2_with fail
    go_ret
    exact ⟨rfl, (bl_drewN (bl_alloc HB3.out _) _).mono HLO.out⟩
  | some L =>
    obtain ⟨A3, c3, B3, d3, rfl, hi3, ht3⟩ := hso L hch
    have hLn := chainF_len n h L hch
    have hTT : ∀ t ∈ L.map Prod.snd, 0 ≤ t.1 ∧ t.1 ≤ 65534 ∧ 0 ≤ t.2.1 ∧ t.2.1 ≤ 65534 := fun t ht => by
      obtain ⟨y, hy, rfl⟩ := List.mem_map.1 ht
      obtain ⟨i, hil, rfl⟩ := List.mem_iff_getElem.1 hy
      obtain ⟨-, h2, -, -⟩ := chainF_at n h L hch i _ (List.getElem?_eq_getElem hil)
      have := of_decide_eq_true (HMAY.out _ _ h2).1
      omega
    have HTF : Hid (TF = if sumR (runsOf (L.map Prod.snd)) ≠ needF s z then none
      else if ((turnL n false l2 (L.map Prod.fst)).2 : Int) ≠ (L.length : Int) then none
      else if ((turnL n false l1 (blocksOf (L.map Prod.snd))).2 : Int) ≠ sumR (runsOf (L.map Prod.snd)) then none
      else some ((turnL n false l1 (blocksOf (L.map Prod.snd))).1, (turnL n false l2 (L.map Prod.fst)).1, L)) := by show _ = _; rw [HTF0.out]; unfold takeF; rw [hch]
    clear HTF0
    have HLL : Hid (L.length ≤ n ∧ ∀ t ∈ L.map Prod.snd, 0 ≤ t.1 ∧ t.1 ≤ 65534 ∧ 0 ≤ t.2.1 ∧ t.2.1 ≤ 65534) := ⟨hLn, hTT⟩
    obtain ⟨N, hN⟩ : ∃ N, N = L.length := ⟨_, rfl⟩
    have HN := Lib.hid hN
    obtain ⟨cn, hcn⟩ : ∃ cn, cn = sumR (runsOf (L.map Prod.snd)) := ⟨_, rfl⟩
    have HCN0 := Lib.hid hcn
    obtain ⟨nd, hnd⟩ : ∃ nd, nd = needF s z := ⟨_, rfl⟩
    rw [← hnd] at HND HTF
    rw [← hcn, ← hN] at HTF
    obtain ⟨W3, hW3⟩ : ∃ W3, W3 = w3.alloc (.cells #[.slice A3 L.length c3, .slice B3 L.length d3] 82) := ⟨_, rfl⟩
    have hbw : Below w3.heap.size w3 W3 := by rw [hW3]; exact bl_alloc (Below.refl _ _) _
    have HQ4 : Hid (W3.heap[w3.heap.size]? = some (.cells #[.slice A3 N c3, .slice B3 N d3] 82 (0, 0))) := by rw [hW3, hN]; exact alloc_new _ _
    have HQ5 := Lib.hid (blk_bl HQ3.out hbw)
    have HCH : Hid (Ch W3 B ⟨k, h, z, A3, c3, B3, d3, L⟩) := ⟨own_base (own_bl hi3 hbw) (Nat.le_trans HLO.out (by rw [World.size_alloc]; omega)), own_base (own_bl ht3 hbw) (Nat.le_trans HLO.out (by rw [World.size_alloc]; omega))⟩
    have HB4 : Hid (Below W.heap.size W W3) := bl_then HB3.out hbw
    have HCN : Hid (∀ {W' : World}, Bl W3 W' → Calls Tryz.prog 42 #[.agg #[.slice A3 N c3, .slice B3 N d3]] W' fun e w' => e = .returned (.int .i64 cn) ∧ Bl W3 w') := fun {W'} hb => by
      have h9 := count_ (A := A3) (l := L.map Prod.snd) ((own_tr HCH.out.parts).1.below hb.below) N c3 d3 (by rw [List.length_map]; omega) (fun t ht => (HLL.out.2 t ht).2.2.2)
      rw [List.length_map, ← hN, ← hcn] at h9
      exact h9.mono fun e w' ⟨e1, e2⟩ => ⟨e1, ⟨bl_then hb.below e2⟩⟩
    have HGM : Hid (∀ {W' : World}, Bl W3 W' → Calls Tryz.prog 14 #[.pointer (some ⟨v, 0, none⟩)] W' fun e w' => e = .returned (.agg #[.int .i64 n, .int .i64 m, .int .i64 s]) ∧ Bl W3 w') := fun {W'} hb =>
      (HG.out (bl_then HB4.out hb.below)).mono fun e w' ⟨e1, e2⟩ => ⟨e1, ⟨bl_then hb.below e2⟩⟩
    have HNE : Hid (∀ {W' : World}, Bl W3 W' → Calls Tryz.prog 158 #[.agg #[.int .i64 n, .int .i64 m, .int .i64 s], .int .i64 z] W' fun e w' => e = .returned (.int .i64 nd) ∧ Bl W3 w') := fun {W'} hb =>
      (HND.out W').mono fun e w' ⟨e1, e2⟩ => ⟨e1, ⟨bl_then hb.below e2⟩⟩
    have HCL : Hid (∀ W', Bl W3 W' → W'.cell? ⟨W.heap.size, 0, none⟩ = some (.int .i64 k) ∧ W'.cell? ⟨W.heap.size, 1, none⟩ = some (.int .i64 h) ∧ W'.cell? ⟨W.heap.size, 2, none⟩ = some (.int .i64 z) ∧ W'.cell? ⟨w3.heap.size, 0, none⟩ = some (.slice A3 N c3) ∧ W'.cell? ⟨w3.heap.size, 1, none⟩ = some (.slice B3 N d3) ∧ Bl W3 W') := fun W' hb =>
      ⟨cell_of (blk_bl HQ5.out hb.below) 0, cell_of (blk_bl HQ5.out hb.below) 1, cell_of (blk_bl HQ5.out hb.below) 2, cell_of (blk_bl HQ4.out hb.below) 0, cell_of (blk_bl HQ4.out hb.below) 1, hb⟩
    have HB0 : Hid (Bl W3 W3.drew) := ⟨bl_drew (Below.refl _ _)⟩
    rw [← hN]
    rw [← hN] at hW3
    clear hso hno hch hi3 ht3 hLn hTT hbw hN hcn hnd
    go_wp2_with fail
    rw [← hW3]
    clear hW3
    generalize w3.heap.size = q3 at *
    by_cases hne : cn = nd
    rotate_left
    · have e1 : (cn != nd) = true := bne_iff_ne.2 hne
      have hT : TF = none := by rw [HTF.out, if_pos hne]
      subst hT
      go_region_held3 (fun W' => W'.cell? ⟨W.heap.size, 0, none⟩ = some (.int .i64 k) ∧ W'.cell? ⟨W.heap.size, 1, none⟩ = some (.int .i64 h) ∧ W'.cell? ⟨W.heap.size, 2, none⟩ = some (.int .i64 z) ∧ W'.cell? ⟨q3, 0, none⟩ = some (.slice A3 N c3) ∧ W'.cell? ⟨q3, 1, none⟩ = some (.slice B3 N d3) ∧ Bl W3 W')
        (first | exact HCL.out _ HB0.out | exact HCL.out _ HC5.out | exact HCL.out _ HC6.out | exact HCL.out _ HC7.out)
        (first | (go_at_call 42; refine (HCN.out HB0.out).mono ?_; rintro e w5 ⟨rfl, hb5⟩; (have HC5 := Lib.hid hb5); clear hb5) |
          (go_at_call 14; refine (HGM.out HC5.out).mono ?_; rintro e w6 ⟨rfl, hb6⟩; (have HC6 := Lib.hid hb6); clear hb6) |
          (go_at_call 158; refine (HNE.out HC6.out).mono ?_; rintro e w7 ⟨rfl, hb7⟩; (have HC7 := Lib.hid hb7); clear hb7))
      go_wp2_with fail
      go_ret
      exact ⟨rfl, (bl_then HB4.out HC7.out.below).mono HLO.out⟩
    subst hne
    have e1 : (cn != cn) = false := by simp
    go_region_held3 (fun W' => W'.cell? ⟨W.heap.size, 0, none⟩ = some (.int .i64 k) ∧ W'.cell? ⟨W.heap.size, 1, none⟩ = some (.int .i64 h) ∧ W'.cell? ⟨W.heap.size, 2, none⟩ = some (.int .i64 z) ∧ W'.cell? ⟨q3, 0, none⟩ = some (.slice A3 N c3) ∧ W'.cell? ⟨q3, 1, none⟩ = some (.slice B3 N d3) ∧ Bl W3 W')
      (first | exact HCL.out _ HB0.out | exact HCL.out _ HC5.out | exact HCL.out _ HC6.out | exact HCL.out _ HC7.out)
      (first | (go_at_call 42; refine (HCN.out HB0.out).mono ?_; rintro e w5 ⟨rfl, hb5⟩; (have HC5 := Lib.hid hb5); clear hb5) |
        (go_at_call 14; refine (HGM.out HC5.out).mono ?_; rintro e w6 ⟨rfl, hb6⟩; (have HC6 := Lib.hid hb6); clear hb6) |
        (go_at_call 158; refine (HNE.out HC6.out).mono ?_; rintro e w7 ⟨rfl, hb7⟩; (have HC7 := Lib.hid hb7); clear hb7))
    go_wp2_with fail
    have HCL7 : Hid (Cl w7.drew B q b1 b2 n l1 l2 g1 g2 c1 c2 es LA lc) := (HC.out.keep (bl_then HB4.out HC7.out.below)).keep (bl_drew (Below.refl _ _))
    have HX0 : Hid (w7.drew.heap[W.heap.size]? = some (.cells #[.int .i64 k, .int .i64 h, .int .i64 z] 42 (0, 0)) ∧ w7.drew.heap[q3]? = some (.cells #[.slice A3 N c3, .slice B3 N d3] 82 (0, 0)) ∧ Ch w7.drew B ⟨k, h, z, A3, c3, B3, d3, L⟩ ∧ Below B W w7.drew) :=
      ⟨blk_bl HQ5.out (bl_drew HC7.out.below), blk_bl HQ4.out (bl_drew HC7.out.below), HCH.out.keep (bl_drew HC7.out.below), (bl_then HB4.out (bl_drew HC7.out.below)).mono HLO.out⟩
    have HS1 : Hid (w7.drew.cell? ⟨W.heap.size, 0, none⟩ = some (.int .i64 k) ∧ w7.drew.cell? ⟨W.heap.size, 1, none⟩ = some (.int .i64 h) ∧ w7.drew.cell? ⟨W.heap.size, 2, none⟩ = some (.int .i64 z) ∧ w7.drew.cell? ⟨q3, 0, none⟩ = some (.slice A3 N c3) ∧ w7.drew.cell? ⟨q3, 1, none⟩ = some (.slice B3 N d3) ∧ w7.drew.cell? ⟨q, 0, none⟩ = some (.slice LA es.length lc)) :=
      ⟨cell_of HX0.out.1 0, cell_of HX0.out.1 1, cell_of HX0.out.1 2, cell_of HX0.out.2.1 0, cell_of HX0.out.2.1 1, cell_of HCL7.out.blk 0⟩
    obtain ⟨en, hen⟩ : ∃ en, en = es.length := ⟨_, rfl⟩
    have HEN := Lib.hid hen
    rw [← hen] at hes
    rw [← hen] at HS1
    refine Wc.region_till (S0 := fun _ => True) (S1 := fun w' => w'.cell? ⟨W.heap.size, 0, none⟩ = some (.int .i64 k) ∧ w'.cell? ⟨W.heap.size, 1, none⟩ = some (.int .i64 h) ∧ w'.cell? ⟨W.heap.size, 2, none⟩ = some (.int .i64 z) ∧ w'.cell? ⟨q3, 0, none⟩ = some (.slice A3 N c3) ∧ w'.cell? ⟨q3, 1, none⟩ = some (.slice B3 N d3) ∧ w'.cell? ⟨q, 0, none⟩ = some (.slice LA en lc)) (E := fun j => [4, 5, 6, 8, 9].contains j) (by kernel_rfl) ?_
    change Wc.Till _ _ _ _ _ _ _ _ _ _ w7.drew
    clear hen
    generalize w7.drew = X0 at *
    refine Wc.till_take0 (i := 0) rfl rfl (by kernel_rfl) (by kernel_rfl) (by kernel_rfl) (fun _ _ _ h => h) (.inl ⟨rfl, fun w' _ => rfl⟩) trivial ?_
    refine Wc.till_take0 (i := 1) rfl rfl (by kernel_rfl) (by kernel_rfl) (by kernel_rfl) (fun _ _ _ h => h) (.inl ⟨rfl, fun w' _ => rfl⟩) trivial ?_
    refine Wc.till_take0 (i := 2) rfl rfl (by kernel_rfl) (by kernel_rfl) (by kernel_rfl) (fun _ _ _ h => h) (.inl ⟨rfl, fun w' _ => rfl⟩) trivial ?_
    refine Wc.till_take0 (i := 3) rfl rfl (by kernel_rfl) (by kernel_rfl) (by kernel_rfl) (fun _ _ _ h => h) (.inl ⟨rfl, fun w' _ => rfl⟩) trivial ?_
    refine Wc.till_take (i := 5) (v := .agg #[.int .i64 k, .int .i64 h, .int .i64 z]) rfl (by kernel_rfl) (by kernel_rfl) (by kernel_rfl) (by kernel_rfl) (fun _ _ _ h => h) (.inl ⟨rfl, fun w' h => by obtain ⟨-, e0, e1, e2, -⟩ := h; go_simp⟩) trivial HS1.out ?_
    refine Wc.till_take (i := 6) (v := .agg #[.slice A3 N c3, .slice B3 N d3]) rfl (by kernel_rfl) (by kernel_rfl) (by kernel_rfl) (by kernel_rfl) (fun _ _ _ h => h) (.inl ⟨rfl, fun w' h => by obtain ⟨-, -, -, -, e3, e4, -⟩ := h; go_simp⟩) trivial HS1.out ?_
    refine Wc.till_take0 (i := 7) (v := .agg #[.int .i64 k, .int .i64 h, .int .i64 z, .slice A3 N c3, .slice B3 N d3]) rfl rfl (by kernel_rfl) (by kernel_rfl) (by kernel_rfl) (fun _ _ _ h => h) (.inl ⟨rfl, fun w' h => by go_simp⟩) trivial ?_
    refine Wc.till_take (i := 4) (v := .slice LA en lc) rfl (by kernel_rfl) (by kernel_rfl) (by kernel_rfl) (by kernel_rfl) (fun _ _ _ h => h) (.inl ⟨rfl, fun w' h => by obtain ⟨-, -, -, -, -, -, e5⟩ := h; go_simp⟩) trivial HS1.out ?_
    refine Wc.till_all (rs := [8]) (by kernel_rfl) (by simp) ?_
    intro i hi
    simp only [List.mem_cons, List.not_mem_nil, or_false] at hi
    subst hi
    refine wpOp_step rfl (fun K' hK => ?_)
    rw [if_pos (show Region.wanted _ _ = true from rfl)]
    go_simp
    have hb8 : Below X0.heap.size X0 (X0.alloc (.cells #[.int .i64 k, .int .i64 h, .int .i64 z, .slice A3 N c3, .slice B3 N d3] 185)) := bl_alloc (Below.refl _ _) _
    have HP8 := Lib.hid (alloc_new X0 (.cells #[.int .i64 k, .int .i64 h, .int .i64 z, .slice A3 N c3, .slice B3 N d3] 185))
    have HCL8 := Lib.hid (HCL7.out.keep hb8)
    have HX1 : Hid ((X0.alloc (.cells #[.int .i64 k, .int .i64 h, .int .i64 z, .slice A3 N c3, .slice B3 N d3] 185)).heap[W.heap.size]? = some (.cells #[.int .i64 k, .int .i64 h, .int .i64 z] 42 (0, 0)) ∧ (X0.alloc (.cells #[.int .i64 k, .int .i64 h, .int .i64 z, .slice A3 N c3, .slice B3 N d3] 185)).heap[q3]? = some (.cells #[.slice A3 N c3, .slice B3 N d3] 82 (0, 0)) ∧ Ch (X0.alloc (.cells #[.int .i64 k, .int .i64 h, .int .i64 z, .slice A3 N c3, .slice B3 N d3] 185)) B ⟨k, h, z, A3, c3, B3, d3, L⟩ ∧ Below B W (X0.alloc (.cells #[.int .i64 k, .int .i64 h, .int .i64 z, .slice A3 N c3, .slice B3 N d3] 185))) :=
      ⟨blk_bl HX0.out.1 hb8, blk_bl HX0.out.2.1 hb8, HX0.out.2.2.1.keep hb8, HX0.out.2.2.2.trans (hb8.mono HCL7.out.far)⟩
    clear hb8
    generalize X0.alloc (.cells #[.int .i64 k, .int .i64 h, .int .i64 z, .slice A3 N c3, .slice B3 N d3] 185) = X1 at *
    refine hK _ _ ⟨⟨trivial, fun _ => ⟨cell_of HX1.out.1 0, cell_of HX1.out.1 1, cell_of HX1.out.1 2, cell_of HX1.out.2.1 0, cell_of HX1.out.2.1 1, by rw [HEN.out]; exact cell_of HCL8.out.blk 0⟩⟩, ?_⟩
    refine Wc.till_all (rs := [9]) (by kernel_rfl) (by simp) ?_
    intro i hi
    simp only [List.mem_cons, List.not_mem_nil, or_false] at hi
    subst hi
    refine wpOp_step rfl (fun K' hK => ?_)
    refine step_append_lies _ (by rfl) _ _ _ (by rfl) B 185 zO (.agg #[.int .i64 0, .int .i64 0, .int .i64 0, .slice none 0 0, .slice none 0 0]) 5 72 Tryz.underlying177 hiO hzO0 hzO1 hzO2 rfl (by decide) (.slice LA en lc) en (ovs es) (by rfl) (by rw [HEN.out]; exact HCL8.out.row) ⟨X0.heap.size, 0, none⟩ 1 1 [.int .i64 k, .int .i64 h, .int .i64 z, .slice A3 N c3, .slice B3 N d3] (by rfl) (by rfl) (World.news_of_block (cs := #[.int .i64 k, .int .i64 h, .int .i64 z, .slice A3 N c3, .slice B3 N d3]) (t := 185) (fr := (0, 0)) HP8.out) (by simp [Value.oneCell']) (by decide) (by unfold maxLen; omega) (by omega) HCL8.out.far _ rfl ?_
    intro p1 cap1 w8 hown8 hgrow8 _ _
    have HP := Lib.hid (HCL8.out.push (e := ⟨k, h, z, A3, c3, B3, d3, L⟩) HX1.out.2.2.1 (p := some ⟨p1, 0, none⟩) (cap := cap1) (by rw [← HEN.out]; unfold Own.vs; rw [← HN.out]; exact hown8) (by rw [← HEN.out]; exact hgrow8))
    rw [← HEN.out] at HP
    have HX8 : Hid (w8.heap[W.heap.size]? = some (.cells #[.int .i64 k, .int .i64 h, .int .i64 z] 42 (0, 0)) ∧ w8.heap[q3]? = some (.cells #[.slice A3 N c3, .slice B3 N d3] 82 (0, 0)) ∧ Below B W w8) := by
      have hrow := HCL8.out.row
      rw [← HEN.out] at hrow
      exact ⟨grown_blk hgrow8 HX1.out.1 (ne_type hrow HX1.out.1 (by decide)), grown_blk hgrow8 HX1.out.2.1 (ne_type hrow HX1.out.2.1 (by decide)), HX1.out.2.2.2.grown hgrow8 HCL8.out.far (own_lo hrow)⟩
    have j0 := cell_of HP.out.1 0
    have s0 := free_of HP.out.1 0
    clear hown8 hgrow8
    refine hK _ _ ⟨⟨trivial, fun _ => ⟨cell_of HX8.out.1 0, cell_of HX8.out.1 1, cell_of HX8.out.1 2, cell_of HX8.out.2.1 0, cell_of HX8.out.2.1 1, j0⟩⟩, ?_⟩
    refine Wc.till_take0 (i := 10) rfl rfl (by kernel_rfl) (by kernel_rfl) (by kernel_rfl) (fun _ _ _ h => h) (.inl ⟨rfl, fun w' _ => rfl⟩) trivial ?_
    refine Wc.till_take0 (i := 11) rfl rfl (by kernel_rfl) (by kernel_rfl) (by kernel_rfl) (fun _ _ _ h => h) (.inl ⟨rfl, fun w' _ => rfl⟩) trivial ?_
    refine Wc.till_all (rs := [12]) (by kernel_rfl) (by simp) ?_
    intro i hi
    simp only [List.mem_cons, List.not_mem_nil, or_false] at hi
    subst hi
    refine wpOp_step rfl (fun K' hK => ?_)
    rw [if_pos (show Region.wanted _ _ = true from rfl)]
    go_simp
    have HX9 : Hid ((w8.setCell ⟨q, 0, none⟩ (.slice (some ⟨p1, 0, none⟩) (en + 1) cap1)).heap[q3]? = some (.cells #[.slice A3 N c3, .slice B3 N d3] 82 (0, 0)) ∧ Below B W (w8.setCell ⟨q, 0, none⟩ (.slice (some ⟨p1, 0, none⟩) (en + 1) cap1))) :=
      ⟨set_blk HX8.out.2.1 (fun e => by have h1 := HP.out.1; rw [e, HX8.out.2.1] at h1; simp at h1), HX8.out.2.2.setCell HCL8.out.lo _⟩
    have HCL9 := Lib.hid HP.out.2
    generalize w8.setCell ⟨q, 0, none⟩ (.slice (some ⟨p1, 0, none⟩) (en + 1) cap1) = w9 at *
    refine hK _ _ ⟨⟨trivial, fun h => (by cases h)⟩, ?_⟩
    refine Wc.till_done (by kernel_rfl) ?_ _
    clear j0 s0 HP HX8 HX1 HCL8 HP8 HX0 HS1 HCL7
    go_wp2_with fail
    obtain ⟨l2', hl2'⟩ : ∃ l, l = (turnL n false l2 (L.map Prod.fst)).1 := ⟨_, rfl⟩
    obtain ⟨t2, ht2⟩ : ∃ t : Int, t = ((turnL n false l2 (L.map Prod.fst)).2 : Int) := ⟨_, rfl⟩
    obtain ⟨l1', hl1'⟩ : ∃ l, l = (turnL n false l1 (blocksOf (L.map Prod.snd))).1 := ⟨_, rfl⟩
    obtain ⟨t1, ht1⟩ : ∃ t : Int, t = ((turnL n false l1 (blocksOf (L.map Prod.snd))).2 : Int) := ⟨_, rfl⟩
    obtain ⟨nb, hnb⟩ : ∃ t, t = (blocksOf (L.map Prod.snd)).length := ⟨_, rfl⟩
    have HNB : Hid (nb ≤ 1000000000 ∧ N ≤ 1000000000) := by
      have h9 := blocks_lenC (L.map Prod.snd)
      have h8 := sumR_in (runsOf (L.map Prod.snd)) (fun p hp => by
        simp only [runsOf, List.mem_map] at hp
        obtain ⟨t, ht, rfl⟩ := hp
        exact (HLL.out.2 t (by simpa using ht)).2.2.2)
      have e9 : (runsOf (L.map Prod.snd)).length = N := by simp [runsOf, HN.out]
      have := HLL.out.1
      have := HN.out
      rw [h9, ← hnb, e9] at h8
      exact ⟨by omega, by omega⟩
    have HPT2 : Hid (∀ {W' : World}, Cl W' B q b1 b2 n l1 l2 g1 g2 c1 c2 (es ++ [⟨k, h, z, A3, c3, B3, d3, L⟩]) (some ⟨p1, 0, none⟩) cap1 → W'.heap[q3]? = some (.cells #[.slice A3 N c3, .slice B3 N d3] 82 (0, 0)) → Calls Tryz.prog 61 #[.pointer (some ⟨b2, 0, none⟩), .slice A3 N c3] W' fun e w' => e = .returned (.int .i64 t2) ∧ Cl w' B q b1 b2 n l1 l2' g1 g2 c1 c2 (es ++ [⟨k, h, z, A3, c3, B3, d3, L⟩]) (some ⟨p1, 0, none⟩) cap1 ∧ w'.heap[q3]? = some (.cells #[.slice A3 N c3, .slice B3 N d3] 82 (0, 0)) ∧ Below B W' w') := fun {W'} hcl hbx => by
      have hch := hcl.chs ⟨k, h, z, A3, c3, B3, d3, L⟩ (by simp)
      obtain ⟨cu, hgb⟩ := bm_blkg hcl.bm2
      have h9 := put_ hcl.bm2 (own_rk (k := .i64) hch.slots).1 (fun a a' ha ha' => by
        cases ha'
        obtain ⟨cur, hc9⟩ := Bm.own_blk' (k := a.block) hch.slots (by have ha : A3 = some a := ha; show (Value.slice A3 _ _).ownBlock = _; rw [ha]; rfl)
        intro e9
        simp only at e9
        rw [← e9, hgb] at hc9
        simp at hc9) c3 (by rw [List.length_map, ← HN.out]; exact HNB.out.2)
      rw [List.length_map, ← HN.out, ← hl2', ← ht2] at h9
      refine h9.mono ?_
      rintro e w' ⟨r1, r2, r3⟩
      exact ⟨r1, hcl.put2 r3 r2, only_blk r3 hgb hbx (by decide), only_below r3 (bm_lo hcl.bm2)⟩
    have HPT1 : Hid (∀ {W' : World} {D : Option Addr} {cd B' : Nat}, Cl W' B q b1 b2 n l1 l2' g1 g2 c1 c2 (es ++ [⟨k, h, z, A3, c3, B3, d3, L⟩]) (some ⟨p1, 0, none⟩) cap1 → W'.heap[q3]? = some (.cells #[.slice A3 N c3, .slice B3 N d3] 82 (0, 0)) → W'.ownsRow B' 3 1 (.slice D nb cd) nb (ivs .i64 (blocksOf (L.map Prod.snd))) → Calls Tryz.prog 61 #[.pointer (some ⟨b1, 0, none⟩), .slice D nb cd] W' fun e w' => e = .returned (.int .i64 t1) ∧ Cl w' B q b1 b2 n l1' l2' g1 g2 c1 c2 (es ++ [⟨k, h, z, A3, c3, B3, d3, L⟩]) (some ⟨p1, 0, none⟩) cap1 ∧ w'.heap[q3]? = some (.cells #[.slice A3 N c3, .slice B3 N d3] 82 (0, 0)) ∧ Below B W' w') := fun {W'} {D} {cd} {B'} hcl hbx hD => by
      obtain ⟨cu, hgb⟩ := bm_blkg hcl.bm1
      have h9 := put_ hcl.bm1 (own_rk (k := .i64) hD).1 (fun a a' ha ha' => by
        cases ha'
        obtain ⟨cur, hc9⟩ := Bm.own_blk' (k := a.block) hD (by rw [ha]; rfl)
        intro e9
        simp only at e9
        rw [← e9, hgb] at hc9
        simp at hc9) cd (by rw [← hnb]; exact HNB.out.1)
      rw [← hnb, ← hl1', ← ht1] at h9
      refine h9.mono ?_
      rintro e w' ⟨r1, r2, r3⟩
      exact ⟨r1, hcl.put1 r3 r2, only_blk r3 hgb hbx (by decide), only_below r3 (bm_lo hcl.bm1)⟩
    have HBK : Hid (∀ {W' : World}, Ch W' B ⟨k, h, z, A3, c3, B3, d3, L⟩ → Calls Tryz.prog 47 #[.agg #[.slice A3 N c3, .slice B3 N d3]] W' fun e w' => ∃ D cd, e = .returned (.slice D nb cd) ∧ w'.ownsRow W'.heap.size 3 1 (.slice D nb cd) nb (ivs .i64 (blocksOf (L.map Prod.snd))) ∧ Below W'.heap.size W' w') := fun {W'} hch => by
      have h9 := blocks_ (A := A3) (l := L.map Prod.snd) (own_tr hch.parts).1 N c3 d3 (by rw [List.length_map]; have := HLL.out.1; omega) HLL.out.2
      rw [List.length_map, ← HN.out, ← hnb] at h9
      refine h9.mono ?_
      rintro e w' ⟨v', rfl, ho, hb'⟩
      obtain ⟨D, cd, rfl⟩ := own_slice ho
      exact ⟨D, cd, rfl, ho, hb'⟩
    have HCT : Hid (∀ {W' : World}, Ch W' B ⟨k, h, z, A3, c3, B3, d3, L⟩ → Calls Tryz.prog 42 #[.agg #[.slice A3 N c3, .slice B3 N d3]] W' fun e w' => e = .returned (.int .i64 cn) ∧ Below W'.heap.size W' w') := fun {W'} hch => by
      have h9 := count_ (A := A3) (l := L.map Prod.snd) (own_tr hch.parts).1 N c3 d3 (by rw [List.length_map]; have := HLL.out.1; omega) (fun t ht => (HLL.out.2 t ht).2.2.2)
      rw [List.length_map, ← HN.out, ← HCN0.out] at h9
      exact h9
    have HSC : Hid (∀ {W' : World} {a b : List Nat}, Cl W' B q b1 b2 n a b g1 g2 c1 c2 (es ++ [⟨k, h, z, A3, c3, B3, d3, L⟩]) (some ⟨p1, 0, none⟩) cap1 → W'.heap[q3]? = some (.cells #[.slice A3 N c3, .slice B3 N d3] 82 (0, 0)) → W'.cell? ⟨q, 1, none⟩ = some (.pointer (some ⟨b1, 0, none⟩)) ∧ W'.cell? ⟨q, 2, none⟩ = some (.pointer (some ⟨b2, 0, none⟩)) ∧ W'.cell? ⟨q3, 0, none⟩ = some (.slice A3 N c3) ∧ W'.cell? ⟨q3, 1, none⟩ = some (.slice B3 N d3)) := fun {W'} {a} {b} hcl hbx => ⟨cell_of hcl.blk 1, cell_of hcl.blk 2, cell_of hbx 0, cell_of hbx 1⟩
    have HY9 : Hid (Cl w9.drew B q b1 b2 n l1 l2 g1 g2 c1 c2 (es ++ [⟨k, h, z, A3, c3, B3, d3, L⟩]) (some ⟨p1, 0, none⟩) cap1 ∧ w9.drew.heap[q3]? = some (.cells #[.slice A3 N c3, .slice B3 N d3] 82 (0, 0)) ∧ Below B W w9.drew) := ⟨HCL9.out.keep (bl_drew (Below.refl _ _)), HX9.out.1, ⟨HX9.out.2.os, HX9.out.2.tape, HX9.out.2.output, HX9.out.2.size, HX9.out.2.block⟩⟩
    have HS9 := Lib.hid (HSC.out HY9.out.1 HY9.out.2.1)
    rw [← hl2', ← ht2, ← hl1', ← ht1] at HTF
    clear hl2' ht2 hl1' ht1 hnb
    by_cases hc2 : t2 = (N : Int)
    rotate_left
    · have hT : TF = none := by rw [HTF.out, if_neg (by simp), if_pos hc2]
      subst hT
      have f2 : (t2 == (N : Int)) = false := beq_eq_false_iff_ne.2 hc2
      clear hc2
      refine Wc.region_till (S0 := fun _ => True) (S1 := fun W' => W'.cell? ⟨q, 1, none⟩ = some (.pointer (some ⟨b1, 0, none⟩)) ∧ W'.cell? ⟨q, 2, none⟩ = some (.pointer (some ⟨b2, 0, none⟩)) ∧ W'.cell? ⟨q3, 0, none⟩ = some (.slice A3 N c3) ∧ W'.cell? ⟨q3, 1, none⟩ = some (.slice B3 N d3)) (E := fun _ => true) (by kernel_rfl) ?_
      change Wc.Till _ _ _ _ _ _ _ _ _ _ w9.drew
      refine Wc.till_take (i := 0) (v := .pointer (some ⟨q, 0, none⟩)) rfl (by kernel_rfl) (by kernel_rfl) (by kernel_rfl) (by kernel_rfl) (fun _ _ _ h => h) (.inl ⟨by rfl, fun w' _ => rfl⟩) trivial HS9.out ?_
      try simp only [Act.put, List.getElem_toArray, List.getElem_cons_zero, List.getElem_cons_succ, List.setIfInBounds_toArray, List.set_cons_zero, List.set_cons_succ]
      refine Wc.till_take (i := 1) (v := .pointer (some ⟨q, 0, none⟩)) rfl (by kernel_rfl) (by kernel_rfl) (by kernel_rfl) (by kernel_rfl) (fun _ _ _ h => h) (.inl ⟨by rfl, fun w' _ => rfl⟩) trivial HS9.out ?_
      try simp only [Act.put, List.getElem_toArray, List.getElem_cons_zero, List.getElem_cons_succ, List.setIfInBounds_toArray, List.set_cons_zero, List.set_cons_succ]
      refine Wc.till_take (i := 2) (v := .pointer (some ⟨q, 2, none⟩)) rfl (by kernel_rfl) (by kernel_rfl) (by kernel_rfl) (by kernel_rfl) (fun _ _ _ h => h) (.inl ⟨by rfl, fun w' _ => rfl⟩) trivial HS9.out ?_
      try simp only [Act.put, List.getElem_toArray, List.getElem_cons_zero, List.getElem_cons_succ, List.setIfInBounds_toArray, List.set_cons_zero, List.set_cons_succ]
      refine Wc.till_take (i := 3) (v := .pointer (some ⟨b2, 0, none⟩)) rfl (by kernel_rfl) (by kernel_rfl) (by kernel_rfl) (by kernel_rfl) (fun _ _ _ h => h) (.inl ⟨by rfl, fun w' h => by obtain ⟨-, e0, e1, e2, e3⟩ := h; go_simp⟩) trivial HS9.out ?_
      try simp only [Act.put, List.getElem_toArray, List.getElem_cons_zero, List.getElem_cons_succ, List.setIfInBounds_toArray, List.set_cons_zero, List.set_cons_succ]
      refine Wc.till_take (i := 4) (v := .pointer (some ⟨q3, 0, none⟩)) rfl (by kernel_rfl) (by kernel_rfl) (by kernel_rfl) (by kernel_rfl) (fun _ _ _ h => h) (.inl ⟨by rfl, fun w' _ => rfl⟩) trivial HS9.out ?_
      try simp only [Act.put, List.getElem_toArray, List.getElem_cons_zero, List.getElem_cons_succ, List.setIfInBounds_toArray, List.set_cons_zero, List.set_cons_succ]
      refine Wc.till_take (i := 5) (v := .slice A3 N c3) rfl (by kernel_rfl) (by kernel_rfl) (by kernel_rfl) (by kernel_rfl) (fun _ _ _ h => h) (.inl ⟨by rfl, fun w' h => by obtain ⟨-, e0, e1, e2, e3⟩ := h; go_simp⟩) trivial HS9.out ?_
      try simp only [Act.put, List.getElem_toArray, List.getElem_cons_zero, List.getElem_cons_succ, List.setIfInBounds_toArray, List.set_cons_zero, List.set_cons_succ]
      refine Wc.till_take (i := 7) (v := .pointer (some ⟨q3, 0, none⟩)) rfl (by kernel_rfl) (by kernel_rfl) (by kernel_rfl) (by kernel_rfl) (fun _ _ _ h => h) (.inl ⟨by rfl, fun w' _ => by go_simp⟩) trivial HS9.out ?_
      try simp only [Act.put, List.getElem_toArray, List.getElem_cons_zero, List.getElem_cons_succ, List.setIfInBounds_toArray, List.set_cons_zero, List.set_cons_succ]
      refine Wc.till_take (i := 8) (v := .slice A3 N c3) rfl (by kernel_rfl) (by kernel_rfl) (by kernel_rfl) (by kernel_rfl) (fun _ _ _ h => h) (.inl ⟨by rfl, fun w' h => by obtain ⟨-, e0, e1, e2, e3⟩ := h; go_simp⟩) trivial HS9.out ?_
      try simp only [Act.put, List.getElem_toArray, List.getElem_cons_zero, List.getElem_cons_succ, List.setIfInBounds_toArray, List.set_cons_zero, List.set_cons_succ]
      refine Wc.till_take (i := 9) (v := .int .i64 (N : Int)) rfl (by kernel_rfl) (by kernel_rfl) (by kernel_rfl) (by kernel_rfl) (fun _ _ _ h => h) (.inl ⟨by rfl, fun w' h => by go_simp⟩) trivial HS9.out ?_
      try simp only [Act.put, List.getElem_toArray, List.getElem_cons_zero, List.getElem_cons_succ, List.setIfInBounds_toArray, List.set_cons_zero, List.set_cons_succ]
      refine Wc.till_all (rs := [6]) (by kernel_rfl) (by simp) ?_
      intro i hi
      simp only [List.mem_cons, List.not_mem_nil, or_false] at hi
      subst hi
      refine wpOp_step rfl (fun K' hK => ?_)
      rw [if_pos (show Region.wanted _ _ = true from rfl)]
      go_simp
      go_at_call 61
      refine (HPT2.out HY9.out.1 HY9.out.2.1).mono ?_
      rintro e w10 ⟨rfl, r1, r2, r3⟩
      have HY10 : Hid (Cl w10 B q b1 b2 n l1 l2' g1 g2 c1 c2 (es ++ [⟨k, h, z, A3, c3, B3, d3, L⟩]) (some ⟨p1, 0, none⟩) cap1 ∧ w10.heap[q3]? = some (.cells #[.slice A3 N c3, .slice B3 N d3] 82 (0, 0)) ∧ Below B W w10) := ⟨r1, r2, HY9.out.2.2.trans r3⟩
      have HS10 := Lib.hid (HSC.out r1 r2)
      clear r1 r2 r3
      refine hK _ _ ⟨⟨trivial, fun _ => HS10.out⟩, ?_⟩
      try simp only [Act.put, List.getElem_toArray, List.getElem_cons_zero, List.getElem_cons_succ, List.setIfInBounds_toArray, List.set_cons_zero, List.set_cons_succ]
      refine Wc.till_take (i := 10) (v := .bool false) rfl (by kernel_rfl) (by kernel_rfl) (by kernel_rfl) (by kernel_rfl) (fun _ _ _ h => h) (.inl ⟨by rfl, fun w' h => by go_simp⟩) trivial HS10.out ?_
      try simp only [Act.put, List.getElem_toArray, List.getElem_cons_zero, List.getElem_cons_succ, List.setIfInBounds_toArray, List.set_cons_zero, List.set_cons_succ]
      refine Wc.till_take (i := 11) (v := .bool false) rfl (by kernel_rfl) (by kernel_rfl) (by kernel_rfl) (by kernel_rfl) (fun _ _ _ h => h) (.inl ⟨by rfl, fun w' _ => by go_simp⟩) trivial HS10.out ?_
      try simp only [Act.put, List.getElem_toArray, List.getElem_cons_zero, List.getElem_cons_succ, List.setIfInBounds_toArray, List.set_cons_zero, List.set_cons_succ]
      refine Wc.till_take (i := 12) (v := undef) rfl (by kernel_rfl) (by kernel_rfl) (by kernel_rfl) (by kernel_rfl) (fun _ _ _ h => h) (.inr ⟨by rfl, by rfl⟩) trivial HS10.out ?_
      try simp only [Act.put, List.getElem_toArray, List.getElem_cons_zero, List.getElem_cons_succ, List.setIfInBounds_toArray, List.set_cons_zero, List.set_cons_succ]
      refine Wc.till_take (i := 13) (v := undef) rfl (by kernel_rfl) (by kernel_rfl) (by kernel_rfl) (by kernel_rfl) (fun _ _ _ h => h) (.inr ⟨by rfl, by rfl⟩) trivial HS10.out ?_
      try simp only [Act.put, List.getElem_toArray, List.getElem_cons_zero, List.getElem_cons_succ, List.setIfInBounds_toArray, List.set_cons_zero, List.set_cons_succ]
      refine Wc.till_take (i := 14) (v := undef) rfl (by kernel_rfl) (by kernel_rfl) (by kernel_rfl) (by kernel_rfl) (fun _ _ _ h => h) (.inr ⟨by rfl, by rfl⟩) trivial HS10.out ?_
      try simp only [Act.put, List.getElem_toArray, List.getElem_cons_zero, List.getElem_cons_succ, List.setIfInBounds_toArray, List.set_cons_zero, List.set_cons_succ]
      refine Wc.till_take (i := 15) (v := undef) rfl (by kernel_rfl) (by kernel_rfl) (by kernel_rfl) (by kernel_rfl) (fun _ _ _ h => h) (.inr ⟨by rfl, by rfl⟩) trivial HS10.out ?_
      try simp only [Act.put, List.getElem_toArray, List.getElem_cons_zero, List.getElem_cons_succ, List.setIfInBounds_toArray, List.set_cons_zero, List.set_cons_succ]
      refine Wc.till_take (i := 16) (v := undef) rfl (by kernel_rfl) (by kernel_rfl) (by kernel_rfl) (by kernel_rfl) (fun _ _ _ h => h) (.inr ⟨by rfl, by rfl⟩) trivial HS10.out ?_
      try simp only [Act.put, List.getElem_toArray, List.getElem_cons_zero, List.getElem_cons_succ, List.setIfInBounds_toArray, List.set_cons_zero, List.set_cons_succ]
      refine Wc.till_take (i := 17) (v := undef) rfl (by kernel_rfl) (by kernel_rfl) (by kernel_rfl) (by kernel_rfl) (fun _ _ _ h => h) (.inr ⟨by rfl, by rfl⟩) trivial HS10.out ?_
      try simp only [Act.put, List.getElem_toArray, List.getElem_cons_zero, List.getElem_cons_succ, List.setIfInBounds_toArray, List.set_cons_zero, List.set_cons_succ]
      refine Wc.till_take (i := 18) (v := undef) rfl (by kernel_rfl) (by kernel_rfl) (by kernel_rfl) (by kernel_rfl) (fun _ _ _ h => h) (.inr ⟨by rfl, by rfl⟩) trivial HS10.out ?_
      try simp only [Act.put, List.getElem_toArray, List.getElem_cons_zero, List.getElem_cons_succ, List.setIfInBounds_toArray, List.set_cons_zero, List.set_cons_succ]
      refine Wc.till_take (i := 19) (v := undef) rfl (by kernel_rfl) (by kernel_rfl) (by kernel_rfl) (by kernel_rfl) (fun _ _ _ h => h) (.inr ⟨by rfl, by rfl⟩) trivial HS10.out ?_
      try simp only [Act.put, List.getElem_toArray, List.getElem_cons_zero, List.getElem_cons_succ, List.setIfInBounds_toArray, List.set_cons_zero, List.set_cons_succ]
      refine Wc.till_take (i := 20) (v := undef) rfl (by kernel_rfl) (by kernel_rfl) (by kernel_rfl) (by kernel_rfl) (fun _ _ _ h => h) (.inr ⟨by rfl, by rfl⟩) trivial HS10.out ?_
      try simp only [Act.put, List.getElem_toArray, List.getElem_cons_zero, List.getElem_cons_succ, List.setIfInBounds_toArray, List.set_cons_zero, List.set_cons_succ]
      refine Wc.till_take (i := 21) (v := undef) rfl (by kernel_rfl) (by kernel_rfl) (by kernel_rfl) (by kernel_rfl) (fun _ _ _ h => h) (.inr ⟨by rfl, by rfl⟩) trivial HS10.out ?_
      try simp only [Act.put, List.getElem_toArray, List.getElem_cons_zero, List.getElem_cons_succ, List.setIfInBounds_toArray, List.set_cons_zero, List.set_cons_succ]
      refine Wc.till_take (i := 22) (v := .bool false) rfl (by kernel_rfl) (by kernel_rfl) (by kernel_rfl) (by kernel_rfl) (fun _ _ _ h => h) (.inl ⟨by rfl, fun w' h => by go_simp⟩) trivial HS10.out ?_
      try simp only [Act.put, List.getElem_toArray, List.getElem_cons_zero, List.getElem_cons_succ, List.setIfInBounds_toArray, List.set_cons_zero, List.set_cons_succ]
      refine Wc.till_take (i := 23) (v := .bool false) rfl (by kernel_rfl) (by kernel_rfl) (by kernel_rfl) (by kernel_rfl) (fun _ _ _ h => h) (.inl ⟨by rfl, fun w' _ => by go_simp⟩) trivial HS10.out ?_
      try simp only [Act.put, List.getElem_toArray, List.getElem_cons_zero, List.getElem_cons_succ, List.setIfInBounds_toArray, List.set_cons_zero, List.set_cons_succ]
      refine Wc.till_done (by kernel_rfl) ?_ _
      go_wp2_with fail
      go_ret
      exact ⟨rfl, HY10.out.2.2⟩
    have f2 : (t2 == (N : Int)) = true := beq_iff_eq.2 hc2
    by_cases hc1 : t1 = cn
    rotate_left
    · have hT : TF = none := by rw [HTF.out, if_neg (by simp), if_neg (by simp [hc2]), if_pos hc1]
      subst hT
      have f1 : (t1 == cn) = false := beq_eq_false_iff_ne.2 hc1
      clear hc1 hc2
      go_region_held3 (fun W' => W'.cell? ⟨q, 1, none⟩ = some (.pointer (some ⟨b1, 0, none⟩)) ∧ W'.cell? ⟨q, 2, none⟩ = some (.pointer (some ⟨b2, 0, none⟩)) ∧ W'.cell? ⟨q3, 0, none⟩ = some (.slice A3 N c3) ∧ W'.cell? ⟨q3, 1, none⟩ = some (.slice B3 N d3))
        (first | exact HS9.out | exact HS10.out | exact HS11.out | exact HS12.out | exact HS13.out)
        (first | (go_at_call 61; refine (HPT2.out HY9.out.1 HY9.out.2.1).mono ?_; rintro e w10 ⟨rfl, r1, r2, r3⟩; (have HY10 : Hid (Cl w10 B q b1 b2 n l1 l2' g1 g2 c1 c2 (es ++ [⟨k, h, z, A3, c3, B3, d3, L⟩]) (some ⟨p1, 0, none⟩) cap1 ∧ w10.heap[q3]? = some (.cells #[.slice A3 N c3, .slice B3 N d3] 82 (0, 0)) ∧ Below B W w10) := ⟨r1, r2, HY9.out.2.2.trans r3⟩); (have HS10 := Lib.hid (HSC.out r1 r2)); clear r1 r2 r3) |
          (go_at_call 47; refine (HBK.out (HY10.out.1.chs ⟨k, h, z, A3, c3, B3, d3, L⟩ (by simp))).mono ?_; rintro e w11 ⟨D, cd, rfl, ho, hb⟩; (have HD := Lib.hid ho); (have HY11 : Hid (Cl w11 B q b1 b2 n l1 l2' g1 g2 c1 c2 (es ++ [⟨k, h, z, A3, c3, B3, d3, L⟩]) (some ⟨p1, 0, none⟩) cap1 ∧ w11.heap[q3]? = some (.cells #[.slice A3 N c3, .slice B3 N d3] 82 (0, 0)) ∧ Below B W w11) := ⟨HY10.out.1.keep hb, blk_bl HY10.out.2.1 hb, HY10.out.2.2.trans (hb.mono HY10.out.1.far)⟩); (have HS11 := Lib.hid (HSC.out HY11.out.1 HY11.out.2.1)); clear ho hb) |
          (go_at_call 61; refine (HPT1.out HY11.out.1 HY11.out.2.1 HD.out).mono ?_; rintro e w12 ⟨rfl, r1, r2, r3⟩; (have HY12 : Hid (Cl w12 B q b1 b2 n l1' l2' g1 g2 c1 c2 (es ++ [⟨k, h, z, A3, c3, B3, d3, L⟩]) (some ⟨p1, 0, none⟩) cap1 ∧ w12.heap[q3]? = some (.cells #[.slice A3 N c3, .slice B3 N d3] 82 (0, 0)) ∧ Below B W w12) := ⟨r1, r2, HY11.out.2.2.trans r3⟩); (have HS12 := Lib.hid (HSC.out r1 r2)); clear r1 r2 r3) |
          (go_at_call 42; refine (HCT.out (HY12.out.1.chs ⟨k, h, z, A3, c3, B3, d3, L⟩ (by simp))).mono ?_; rintro e w13 ⟨rfl, hb⟩; (have HY13 : Hid (Cl w13 B q b1 b2 n l1' l2' g1 g2 c1 c2 (es ++ [⟨k, h, z, A3, c3, B3, d3, L⟩]) (some ⟨p1, 0, none⟩) cap1 ∧ w13.heap[q3]? = some (.cells #[.slice A3 N c3, .slice B3 N d3] 82 (0, 0)) ∧ Below B W w13) := ⟨HY12.out.1.keep hb, blk_bl HY12.out.2.1 hb, HY12.out.2.2.trans (hb.mono HY12.out.1.far)⟩); (have HS13 := Lib.hid (HSC.out HY13.out.1 HY13.out.2.1)); clear hb))
      go_wp2_with fail
      go_ret
      exact ⟨rfl, HY13.out.2.2⟩
    have hT : TF = some (l1', l2', L) := by rw [HTF.out, if_neg (by simp), if_neg (by simp [hc2]), if_neg (by simp [hc1])]
    subst hT
    have f1 : (t1 == cn) = true := beq_iff_eq.2 hc1
    clear hc1 hc2
    go_region_held3 (fun W' => W'.cell? ⟨q, 1, none⟩ = some (.pointer (some ⟨b1, 0, none⟩)) ∧ W'.cell? ⟨q, 2, none⟩ = some (.pointer (some ⟨b2, 0, none⟩)) ∧ W'.cell? ⟨q3, 0, none⟩ = some (.slice A3 N c3) ∧ W'.cell? ⟨q3, 1, none⟩ = some (.slice B3 N d3))
      (first | exact HS9.out | exact HS10.out | exact HS11.out | exact HS12.out | exact HS13.out)
      (first | (go_at_call 61; refine (HPT2.out HY9.out.1 HY9.out.2.1).mono ?_; rintro e w10 ⟨rfl, r1, r2, r3⟩; (have HY10 : Hid (Cl w10 B q b1 b2 n l1 l2' g1 g2 c1 c2 (es ++ [⟨k, h, z, A3, c3, B3, d3, L⟩]) (some ⟨p1, 0, none⟩) cap1 ∧ w10.heap[q3]? = some (.cells #[.slice A3 N c3, .slice B3 N d3] 82 (0, 0)) ∧ Below B W w10) := ⟨r1, r2, HY9.out.2.2.trans r3⟩); (have HS10 := Lib.hid (HSC.out r1 r2)); clear r1 r2 r3) |
        (go_at_call 47; refine (HBK.out (HY10.out.1.chs ⟨k, h, z, A3, c3, B3, d3, L⟩ (by simp))).mono ?_; rintro e w11 ⟨D, cd, rfl, ho, hb⟩; (have HD := Lib.hid ho); (have HY11 : Hid (Cl w11 B q b1 b2 n l1 l2' g1 g2 c1 c2 (es ++ [⟨k, h, z, A3, c3, B3, d3, L⟩]) (some ⟨p1, 0, none⟩) cap1 ∧ w11.heap[q3]? = some (.cells #[.slice A3 N c3, .slice B3 N d3] 82 (0, 0)) ∧ Below B W w11) := ⟨HY10.out.1.keep hb, blk_bl HY10.out.2.1 hb, HY10.out.2.2.trans (hb.mono HY10.out.1.far)⟩); (have HS11 := Lib.hid (HSC.out HY11.out.1 HY11.out.2.1)); clear ho hb) |
        (go_at_call 61; refine (HPT1.out HY11.out.1 HY11.out.2.1 HD.out).mono ?_; rintro e w12 ⟨rfl, r1, r2, r3⟩; (have HY12 : Hid (Cl w12 B q b1 b2 n l1' l2' g1 g2 c1 c2 (es ++ [⟨k, h, z, A3, c3, B3, d3, L⟩]) (some ⟨p1, 0, none⟩) cap1 ∧ w12.heap[q3]? = some (.cells #[.slice A3 N c3, .slice B3 N d3] 82 (0, 0)) ∧ Below B W w12) := ⟨r1, r2, HY11.out.2.2.trans r3⟩); (have HS12 := Lib.hid (HSC.out r1 r2)); clear r1 r2 r3) |
        (go_at_call 42; refine (HCT.out (HY12.out.1.chs ⟨k, h, z, A3, c3, B3, d3, L⟩ (by simp))).mono ?_; rintro e w13 ⟨rfl, hb⟩; (have HY13 : Hid (Cl w13 B q b1 b2 n l1' l2' g1 g2 c1 c2 (es ++ [⟨k, h, z, A3, c3, B3, d3, L⟩]) (some ⟨p1, 0, none⟩) cap1 ∧ w13.heap[q3]? = some (.cells #[.slice A3 N c3, .slice B3 N d3] 82 (0, 0)) ∧ Below B W w13) := ⟨HY12.out.1.keep hb, blk_bl HY12.out.2.1 hb, HY12.out.2.2.trans (hb.mono HY12.out.1.far)⟩); (have HS13 := Lib.hid (HSC.out HY13.out.1 HY13.out.2.1)); clear hb))
    go_wp2_with fail
    go_ret
    exact ⟨⟨rfl, A3, c3, B3, d3, some ⟨p1, 0, none⟩, cap1, HY13.out.1⟩, HY13.out.2.2⟩

end Go.Proofs.YtgnagbbdnlmgeaaGreat.Cm
end
