/- Parts of the proof, one behind the other: Yc, Yd, Ye, Ao, Aq. -/
import Derived.Test.YtgnagbbdnlmgeaaGreatL20
import Derived.Test.YtgnagbbdnlmgeaaGreatL05
import Derived.Test.YtgnagbbdnlmgeaaGreatL21
import Derived.Deep.RegionHeld3
import Derived.Test.YtgnagbbdnlmgeaaGreatL01
import Derived.Test.YtgnagbbdnlmgeaaGreatRows
import Derived.ProofKit
import Derived.OpenShut
import Derived.ShutString
import Derived.ChangeOld
import Derived.Below
import Derived.Lib.SmallJoins
import Derived.Deep.Slices
import Derived.Deep.Fields
import Derived.ChangeSame
set_option linter.unusedVariables false
set_option linter.unusedSimpArgs false
set_option linter.unusedSectionVars false
section
set_option maxHeartbeats 4000000
set_option maxRecDepth 100000
namespace Go.Proofs.YtgnagbbdnlmgeaaGreat.Cm
open Go Go.RowKit
open Rr Ob Ba Ko Ge Oc Pk Su Rf Dv Vo Ra Jh Tr Iq Bm In Je Lo Jd
theorem ofV_at {es : List Own} {i : Nat} {P : Own} (h : es[i]? = some P) : ofV es (i : Int) = P := by
  unfold ofV
  rw [if_pos (by omega), List.getD_eq_getElem?_getD, Int.toNat_natCast, h]
  rfl
theorem ixD_snoc : ∀ (l : List Dat) (d : Dat) (i : Nat), ixD (l ++ [d]) i = if 0 ≤ ixD l i then ixD l i else if d.1.1 = 0 then ((i + l.length : Nat) : Int) else -1
  | [], d, i => by
    show (if d.1.1 = 0 then (i : Int) else -1) = if (0 : Int) ≤ -1 then _ else _
    rw [if_neg (by omega : ¬ (0 : Int) ≤ -1)]
    simp
  | x :: r, d, i => by
    show (if x.1.1 = 0 then (i : Int) else ixD (r ++ [d]) (i + 1)) = if 0 ≤ (if x.1.1 = 0 then (i : Int) else ixD r (i + 1)) then (if x.1.1 = 0 then (i : Int) else ixD r (i + 1)) else _
    by_cases h : x.1.1 = 0
    · simp only [h, if_true]
      rw [if_pos (by omega)]
    · simp only [h, if_false]
      rw [ixD_snoc r d (i + 1)]
      have e : ((i + 1 + r.length : Nat) : Int) = ((i + (x :: r).length : Nat) : Int) := by simp; omega
      rw [e]
theorem cnt_next (x i : Nat) : (cnt (bitsOf x (i + 1)) : Int) = (cnt (bitsOf x i) : Int) + (if x.testBit i then 1 else 0) := by
  show ((cnt (bitsOf x i ++ [x.testBit i]) : Nat) : Int) = _
  rw [cnt_append]
  cases x.testBit i <;> simp [cnt]
structure Alike (n x1 x2 : Nat) (es ds : List Own) : Prop where
  dat : es.map Own.dat = ds.map Own.dat
  all : ∀ e ∈ es, e.L.length ≤ n ∧ ∀ t ∈ e.L.map Prod.snd, 0 ≤ t.1 ∧ t.1 ≤ 65534 ∧ 0 ≤ t.2.1 ∧ t.2.1 ≤ 65534
  b1 : ∀ b : Nat, b < n → x1.testBit b = decide (0 ≤ (owD (ds.map Own.dat) b 0).1)
  b2 : ∀ b : Nat, b < n → x1.testBit b = false → owD (ds.map Own.dat) b 0 = (-1, -1)
  b3 : ∀ b : Nat, b < n → x2.testBit b = slD (ds.map Own.dat) b
theorem Alike.all2 {n x1 x2 : Nat} {es ds : List Own} (h : Alike n x1 x2 es ds) : ∀ e ∈ ds, e.L.length ≤ n ∧ ∀ t ∈ e.L.map Prod.snd, 0 ≤ t.1 ∧ t.1 ≤ 65534 ∧ 0 ≤ t.2.1 ∧ t.2.1 ≤ 65534 := fun e he => by
  have h1 : e.dat ∈ es.map Own.dat := by rw [h.dat]; exact List.mem_map_of_mem he
  obtain ⟨e', he', hd⟩ := List.mem_map.1 h1
  have h2 := h.all e' he'
  have : e'.L = e.L := congrArg Prod.snd hd
  rw [this] at h2
  exact h2
theorem Alike.get {n x1 x2 : Nat} {es ds : List Own} (h : Alike n x1 x2 es ds) {i : Nat} {p : Own} (hp : ds[i]? = some p) : ∃ P, es[i]? = some P ∧ P.k = p.k ∧ P.h = p.h ∧ P.z = p.z ∧ P.L = p.L := by
  have h1 : (es.map Own.dat)[i]? = some p.dat := by rw [h.dat, List.getElem?_map, hp]; rfl
  rw [List.getElem?_map] at h1
  cases h2 : es[i]? with
  | none => rw [h2] at h1; cases h1
  | some P =>
    rw [h2] at h1
    have h3 : P.dat = p.dat := Option.some.inj h1
    refine ⟨P, rfl, ?_, ?_, ?_, ?_⟩
    · exact congrArg (fun d : Dat => d.1.1) h3
    · exact congrArg (fun d : Dat => d.1.2.1) h3
    · exact congrArg (fun d : Dat => d.1.2.2) h3
    · exact congrArg (fun d : Dat => d.2) h3
theorem blocks_bd {n : Nat} (hn : n ≤ 24) {L : List (Int × Tri)} (h : L.length ≤ n ∧ ∀ t ∈ L.map Prod.snd, 0 ≤ t.1 ∧ t.1 ≤ 65534 ∧ 0 ≤ t.2.1 ∧ t.2.1 ≤ 65534) : (blocksOf (L.map Prod.snd)).length ≤ 1000000000 := by
  have h9 := blocks_lenC (L.map Prod.snd)
  have h8 := sumR_in (runsOf (L.map Prod.snd)) (fun p hp => by
    simp only [runsOf, List.mem_map] at hp
    obtain ⟨t, ht, rfl⟩ := hp
    exact (h.2 t (by simpa using ht)).2.2.2)
  have e9 : (runsOf (L.map Prod.snd)).length = L.length := by simp [runsOf]
  rw [h9, e9] at h8
  omega
theorem bhas_one {n x b : Nat} (hn : n ≤ 24) (hb : b < n) : bhas n [x] (b : Int) = x.testBit b := by
  unfold bhas; rw [Int.toNat_natCast, bget_one (by omega)]; simp; intro _; omega
theorem csame_ {W : World} {B q b1 b2 n x1 x2 : Nat} {g1 g2 c1 c2 : Nat} {es : List Own} {LA : Option Addr} {lc : Nat} (h : Cl W B q b1 b2 n [x1] [x2] g1 g2 c1 c2 es LA lc) (hx1 : x1 < 2 ^ n) (hx2 : x2 < 2 ^ n) (hn : n ≤ 24)
    {IA CA : Option Addr} {ds : List Own} (hd : Dm W IA CA ds) (ha : Alike n x1 x2 es ds) (hl : ds.length ≤ 24) (ic cc : Nat) :
    Calls Tryz.prog 64 #[.pointer (some ⟨q, 0, none⟩), .agg #[.int .i64 n, .slice IA ds.length ic, .slice CA ds.length cc]] W fun e w' => e = .returned (.bool true) ∧ Below W.heap.size W w' := by
  have hu := Tryz.underlying125
  have hu2 := Tryz.underlying47
  have hu3 := Tryz.underlying100
  obtain ⟨z0, hinf, hz0, hz1, hz2⟩ := info_parts info_int
  have hle : es.length = ds.length := by have := congrArg List.length ha.dat; simpa using this
  obtain ⟨m, hm⟩ : ∃ m, m = ds.length := ⟨_, rfl⟩
  have hall2 := ha.all2
  have HIO : Hid (∀ {W' : World} (i : Nat) (p : Own), ds[i]? = some p → Below W.heap.size W W' → Calls Tryz.prog 66 #[.pointer (some ⟨q, 0, none⟩), .int .i64 i] W' fun e w' => e = .returned (.agg #[.int .i64 p.k, .int .i64 p.h, .int .i64 p.z]) ∧ Below W'.heap.size W' w') := fun {W'} i p hp hb => by
    obtain ⟨P, hP, e1, e2, e3, -⟩ := ha.get hp
    have := cinode_ (h.keep hb) (by omega) (i : Int)
    rw [ofV_at hP, e1, e2, e3] at this
    exact this
  have HCC : Hid (∀ {W' : World} (i : Nat) (p : Own), ds[i]? = some p → Below W.heap.size W W' → Calls Tryz.prog 58 #[.pointer (some ⟨q, 0, none⟩), .int .i64 i] W' fun e w' => ∃ A c D d, e = .returned (.agg #[.slice A p.L.length c, .slice D p.L.length d]) ∧ Rk .i64 w' A (p.L.map Prod.fst) ∧ TR w' D (p.L.map Prod.snd) ∧ Below W'.heap.size W' w') := fun {W'} i p hp hb => by
    obtain ⟨P, hP, -, -, -, e4⟩ := ha.get hp
    have h9 := cchain_ (h.keep hb) (by omega) (i : Int) (by rw [ofV_at hP]; have := (ha.all P (List.mem_of_getElem? hP)).1; omega)
    rw [ofV_at hP, e4] at h9
    refine h9.mono ?_
    rintro e w' ⟨A, c, D, d, r1, r2, r3, r4⟩
    exact ⟨A, c, D, d, r1, (own_rk (k := .i64) r2).1, (own_tr r3).1, r4⟩
  have HSM : Hid (∀ {W' : World} {A D : Option Addr} (c d : Nat) (p : Own), p ∈ ds → Rk .i64 W' A (p.L.map Prod.fst) → TR W' D (p.L.map Prod.snd) → Below W.heap.size W W' → Calls Tryz.prog 44 #[.agg #[.slice A p.L.length c, .slice D p.L.length d], .agg #[.slice p.sa p.L.length p.sc, .slice p.pa p.L.length p.pc]] W' fun e w' => e = .returned (.bool true) ∧ Below W'.heap.size W' w') := fun {W'} {A} {D} c d p hp h1 h2 hb => by
    have hh := (hd.keep hb).each p hp
    have hll := (hall2 p hp).1
    have h9 := same16_ h1 h2 hh.1 hh.2 c d p.sc p.pc (by rw [List.length_map]; omega) (by rw [List.length_map]; omega)
    simpa only [List.length_map] using h9
  have HOW : Hid (∀ {W' : World} (b : Nat), b < n → Below W.heap.size W W' → Calls Tryz.prog 120 #[.pointer (some ⟨q, 0, none⟩), .int .i64 b] W' fun e w' => e = .returned (.tuple #[.int .i64 (owD (ds.map Own.dat) b 0).1, .int .i64 (owD (ds.map Own.dat) b 0).2]) ∧ Below W'.heap.size W' w') := fun {W'} b hbn hb => by
    have h9 := cowner_ (h.keep hb) (by omega) (fun e he => ⟨by have := (ha.all e he).1; omega, (ha.all e he).2⟩) (fun e he => blocks_bd hn (ha.all e he)) (b : Int)
    have e9 : (if bhas n [x1] b then owD (es.map Own.dat) b 0 else (-1, -1)) = owD (ds.map Own.dat) b 0 := by
      have e8 : bhas n [x1] (b : Int) = x1.testBit b := by unfold bhas; rw [Int.toNat_natCast, bget_one (by omega)]; simp; intro _; omega
      rw [e8, ha.dat]
      cases h8 : x1.testBit b with
      | true => rfl
      | false => exact (ha.b2 b hbn h8).symm
    rw [e9] at h9
    exact h9
  have HRO : Hid (∀ {W' : World} (b : Nat), Below W.heap.size W W' → Calls Tryz.prog 121 #[.agg #[.int .i64 n, .slice IA m ic, .slice CA m cc], .int .i64 b] W' fun e w' => e = .returned (.tuple #[.int .i64 (owD (ds.map Own.dat) b 0).1, .int .i64 (owD (ds.map Own.dat) b 0).2]) ∧ Below W'.heap.size W' w') := fun {W'} b hb => by
    rw [hm]
    exact r17owner_ (hd.keep hb) (by omega) (fun e he => ⟨by have := (hall2 e he).1; omega, (hall2 e he).2⟩) (fun e he => blocks_bd hn (hall2 e he)) (n : Int) ds.length ic cc b
  have HRS : Hid (∀ {W' : World} (b : Nat), Below W.heap.size W W' → Calls Tryz.prog 65 #[.agg #[.int .i64 n, .slice IA m ic, .slice CA m cc], .int .i64 b] W' fun e w' => e = .returned (.bool (slD (ds.map Own.dat) b)) ∧ Below W'.heap.size W' w') := fun {W'} b hb => by
    rw [hm]
    exact r17slot_ (hd.keep hb) (by omega) (fun e he => by have := (hall2 e he).1; omega) (n : Int) ds.length ic cc b
  have HFR : Hid (∀ {W' : World}, Below W.heap.size W W' → Calls Tryz.prog 56 #[.pointer (some ⟨q, 0, none⟩)] W' fun e w' => e = .returned (.tuple #[.int .i64 ((n : Int) - (cnt (bitsOf x1 n) : Nat)), .int .i64 ((n : Int) - (cnt (bitsOf x2 n) : Nat)), .int .i64 ((m : Int) - ((usedD (ds.map Own.dat) 0).length : Nat))]) ∧ Below W'.heap.size W' w') := fun {W'} hb => by
    have h9 := cfree_ (h.keep hb) hx1 hx2 hn (by omega)
    rw [hle, ha.dat, ← hm] at h9
    exact h9
  have HUS : Hid (∀ {W' : World}, Below W.heap.size W W' → Calls Tryz.prog 57 #[.pointer (some ⟨q, 0, none⟩)] W' fun e w' => ∃ A c, e = .returned (.slice A (usedD (ds.map Own.dat) 0).length c) ∧ Rk .i64 w' A (usedD (ds.map Own.dat) 0) ∧ Below W'.heap.size W' w') := fun {W'} hb => by
    have h9 := used_ (h.keep hb) (by omega)
    rw [ha.dat] at h9
    refine h9.mono ?_
    rintro e w' ⟨v, rfl, ho, hb'⟩
    obtain ⟨A, c, rfl⟩ := own_slice ho
    exact ⟨A, c, rfl, (own_rk (k := .i64) ho).1, hb'⟩
  have HNX : Hid (∀ {W' : World}, Below W.heap.size W W' → Calls Tryz.prog 107 #[.pointer (some ⟨q, 0, none⟩)] W' fun e w' => e = .returned (.int .i64 (ixD (ds.map Own.dat) 0)) ∧ Below W'.heap.size W' w') := fun {W'} hb => by
    have h9 := Cm.nexti_ (h.keep hb) (by omega)
    rw [ha.dat] at h9
    exact h9
  have HBM : Hid (∀ {W' : World}, Below W.heap.size W W' → Calls Tryz.prog 54 #[.pointer (some ⟨q, 0, none⟩)] W' fun e w' => ∃ b' A' c', e = .returned (.pointer (some ⟨b', 0, none⟩)) ∧ Bm w' W'.heap.size b' n [x1] A' c' ∧ Below W'.heap.size W' w') := fun {W'} hb => cblocks_ (h.keep hb)
  have HSL : Hid (∀ {W' : World}, Below W.heap.size W W' → Calls Tryz.prog 62 #[.pointer (some ⟨q, 0, none⟩)] W' fun e w' => ∃ b' A' c', e = .returned (.pointer (some ⟨b', 0, none⟩)) ∧ Bm w' W'.heap.size b' n [x2] A' c' ∧ Below W'.heap.size W' w') := fun {W'} hb => cslots_ (h.keep hb)
  have HD := Lib.hid hd
  have HAL := Lib.hid ha
  have HM := Lib.hid (And.intro hm hle)
  rw [← hm] at hl
  rw [← hm]
  clear h hd ha hm hle hx1 hx2 hall2
  obtain ⟨W1, hW1⟩ : ∃ W1, W1 = W.alloc (.cells #[.int .i64 n, .slice IA m ic, .slice CA m cc] 125) := ⟨_, rfl⟩
  have hbw : Below W.heap.size W W1 := by rw [hW1]; exact bl_alloc (Below.refl _ _) _
  have HQ : Hid (W1.heap[W.heap.size]? = some (.cells #[.int .i64 n, .slice IA m ic, .slice CA m cc] 125 (0, 0))) := by rw [hW1]; exact alloc_new _ _
  have HB1 := Lib.hid hbw
  clear hbw
  go_enter Tryz.func64, Tryz.ntmps64
  go_wp2_with fail
  rw [← hW1]
  clear hW1
  refine (HBM.out HB1.out).mono ?_
  rintro e w2 ⟨b5, A5, c5, rfl, hm5, hb2⟩
  have HB2 := Lib.hid (And.intro hb2 hm5)
  clear hb2 hm5
  go_wp2_with fail
  refine (HSL.out (bl_then HB1.out HB2.out.1)).mono ?_
  rintro e w3 ⟨b6, A6, c6, rfl, hm6, hb3⟩
  have HK : Hid (∀ {W' : World}, Below w3.heap.size w3 W' → W'.heap[W.heap.size]? = some (.cells #[.int .i64 n, .slice IA m ic, .slice CA m cc] 125 (0, 0)) ∧ Bm W' W1.heap.size b5 n [x1] A5 c5 ∧ Bm W' w2.heap.size b6 n [x2] A6 c6 ∧ Below W.heap.size W W') := fun {W'} hb =>
    ⟨blk_bl HQ.out (bl_then (bl_then HB2.out.1 hb3) hb), (HB2.out.2.keep hb3).keep hb, hm6.keep hb, bl_then (bl_then (bl_then HB1.out HB2.out.1) hb3) hb⟩
  have k1 := cell_of (HK.out (Below.refl _ _)).1 1
  clear hb3 hm6
  go_wp2_with fail
  clear k1
  go_loopw [30, 7] (fun c30 c7 wr => ∃ i d : Nat, i ≤ m ∧ d ≤ i ∧ c30 = .int .i64 i ∧ Hid (d = (usedD ((ds.take i).map Own.dat) 0).length ∧ wr.ownsRow w3.heap.size 3 1 c7 d (ivs .i64 (usedD ((ds.take i).map Own.dat) 0)) ∧ Below w3.heap.size w3 wr)) (fun c30 _ _ => m - (intOf c30).toNat)
  case atStart => exact ⟨0, 0, Nat.zero_le _, Nat.le_refl _, rfl, by simp [usedD], own_nil0 _ _ _ _, Below.refl _ _⟩
  case round =>
    obtain ⟨i, d, hi, hdi, rfl, HR⟩ := hrel
    generalize wr = wA at *
    by_cases hlt : i < m
    · obtain ⟨p, hp⟩ := some_at (l := ds) (i := i) (by rw [← HM.out.1]; exact hlt)
      have hbA := (HK.out HR.out.2.2).2.2.2
      have htri : (ds.map Own.tri)[i]? = some p.tri := by rw [List.getElem?_map, hp]; rfl
      obtain ⟨gi, oi, rfl, -, a1, a2, a3⟩ := (HD.out.inos.below hbA) i p.tri htri
      obtain ⟨gc, oc, rfl, hgc, d1, d2⟩ := (HD.out.chs.below hbA) i p hp
      have hpm := List.mem_of_getElem? hp
      obtain ⟨W5, hW5⟩ : ∃ W5, W5 = wA.alloc (.cells #[.int .i64 p.k, .int .i64 p.h, .int .i64 p.z] 47) := ⟨_, rfl⟩
      have hbw : Below wA.heap.size wA W5 := by rw [hW5]; exact bl_alloc (Below.refl _ _) _
      have HQ9 : Hid (W5.heap[wA.heap.size]? = some (.cells #[.int .i64 p.k, .int .i64 p.h, .int .i64 p.z] 47 (0, 0))) := by rw [hW5]; exact alloc_new _ _
      have HB5 : Hid (Below w3.heap.size w3 W5) := bl_then HR.out.2.2 hbw
      have HOW5 := Lib.hid (own_bl HR.out.2.1 hbw)
      have HC5 : Hid (Bl W5 W5.drew) := ⟨bl_drew (Below.refl _ _)⟩
      have HWW : Hid (∀ {W' : World}, Bl W5 W' → Below W.heap.size W W') := fun {W'} hb => (HK.out (bl_then HB5.out hb.below)).2.2.2
      have HCL : Hid (∀ W', Bl W5 W' → W'.cell? ⟨W.heap.size, 2, none⟩ = some (.slice (some ⟨gc, oc, none⟩) m cc) ∧ W'.cell? ⟨gc, oc + i * 2, none⟩ = some (.slice p.sa p.L.length p.sc) ∧ W'.cell? ⟨gc, oc + i * 2 + 1, none⟩ = some (.slice p.pa p.L.length p.pc) ∧ W'.cell? ⟨wA.heap.size, 0, none⟩ = some (.int .i64 p.k) ∧ W'.cell? ⟨wA.heap.size, 1, none⟩ = some (.int .i64 p.h) ∧ W'.cell? ⟨wA.heap.size, 2, none⟩ = some (.int .i64 p.z) ∧ Bl W5 W') := fun W' hb =>
        ⟨cell_of (HK.out (bl_then HB5.out hb.below)).1 2, ((bl_then hbw hb.below).cell (p := ⟨gc, _, none⟩) hgc).trans d1, ((bl_then hbw hb.below).cell (p := ⟨gc, _, none⟩) hgc).trans d2, cell_of (blk_bl HQ9.out hb.below) 0, cell_of (blk_bl HQ9.out hb.below) 1, cell_of (blk_bl HQ9.out hb.below) 2, hb⟩
      have HIC : Hid (∀ {W' : World}, Bl W5 W' → Calls Tryz.prog 66 #[.pointer (some ⟨q, 0, none⟩), .int .i64 i] W' fun e w' => e = .returned (.agg #[.int .i64 p.k, .int .i64 p.h, .int .i64 p.z]) ∧ Bl W5 w') := fun {W'} hb => (HIO.out i p hp (HWW.out hb)).mono fun e w' ⟨r1, r2⟩ => ⟨r1, ⟨bl_then hb.below r2⟩⟩
      have HCH : Hid (∀ {W' : World}, Bl W5 W' → Calls Tryz.prog 58 #[.pointer (some ⟨q, 0, none⟩), .int .i64 i] W' fun e w' => ∃ A c D d, e = .returned (.agg #[.slice A p.L.length c, .slice D p.L.length d]) ∧ Rk .i64 w' A (p.L.map Prod.fst) ∧ TR w' D (p.L.map Prod.snd) ∧ Bl W5 w') := fun {W'} hb => (HCC.out i p hp (HWW.out hb)).mono fun e w' ⟨A, c, D, d, r0, r1, r2, r3⟩ => ⟨A, c, D, d, r0, r1, r2, ⟨bl_then hb.below r3⟩⟩
      have HSP : Hid (∀ {W' : World} {A D : Option Addr} (c d : Nat), Rk .i64 W' A (p.L.map Prod.fst) → TR W' D (p.L.map Prod.snd) → Bl W5 W' → Calls Tryz.prog 44 #[.agg #[.slice A p.L.length c, .slice D p.L.length d], .agg #[.slice p.sa p.L.length p.sc, .slice p.pa p.L.length p.pc]] W' fun e w' => e = .returned (.bool true) ∧ Bl W5 w') := fun {W'} {A} {D} c d h1 h2 hb => (HSM.out c d p hpm h1 h2 (HWW.out hb)).mono fun e w' ⟨r1, r2⟩ => ⟨r1, ⟨bl_then hb.below r2⟩⟩
      have HS : Hid (usedD ((ds.take (i + 1)).map Own.dat) 0 = usedD ((ds.take i).map Own.dat) 0 ++ (if p.k = 0 then [] else [(i : Int)])) := by
        show _ = _
        rw [take_next hp, List.map_append, List.map_cons, List.map_nil, usedD_snoc, List.length_map, List.length_take, Nat.min_eq_left (by rw [← HM.out.1]; omega), Nat.zero_add]
        rfl
      have c4 : (i : Int) < (m : Int) := by omega
      have c7 : (0 : Int) ≤ (i : Int) := by omega
      obtain ⟨k, h, z, sa, sc, pa, pc, L⟩ := p
      simp only [Own.tri] at a1 a2 a3 d1 d2 HCL HIC HCH HSP HS HQ9
      simp only at hW5
      generalize L.map Prod.fst = LF at *
      generalize L.map Prod.snd = LT at *
      generalize L.length = ll at *
      clear hp htri hpm hbA hbw
      go_wp2_with fail
      rw [← hW5]
      clear hW5
      generalize wA.heap.size = q9 at *
      go_region_held3 (fun W' => W'.cell? ⟨W.heap.size, 2, none⟩ = some (.slice (some ⟨gc, oc, none⟩) m cc) ∧ W'.cell? ⟨gc, oc + i * 2, none⟩ = some (.slice sa ll sc) ∧ W'.cell? ⟨gc, oc + i * 2 + 1, none⟩ = some (.slice pa ll pc) ∧ W'.cell? ⟨q9, 0, none⟩ = some (.int .i64 k) ∧ W'.cell? ⟨q9, 1, none⟩ = some (.int .i64 h) ∧ W'.cell? ⟨q9, 2, none⟩ = some (.int .i64 z) ∧ Bl W5 W')
        (first | exact HCL.out _ HC5.out | exact HCL.out _ HC6.out | exact HCL.out _ HC7.out | exact HCL.out _ HC8.out | exact HCL.out _ HC9.out)
        (first | (go_at_call 66; refine (HIC.out HC5.out).mono ?_; rintro e w6 ⟨rfl, hb6⟩; (have HC6 := Lib.hid hb6); clear hb6) |
          (go_at_call 23; refine (ref_ k h z _).mono ?_; rintro e w7 ⟨rfl, hb7⟩; (have HC7 : Hid (Bl W5 w7) := ⟨bl_then HC6.out.below hb7⟩); clear hb7) |
          (go_at_call 58; refine (HCH.out HC7.out).mono ?_; rintro e w8 ⟨A8, c8, D8, d8, rfl, hr8, ht8, hb8⟩; (have HC8 := Lib.hid hb8); (have HX8 := Lib.hid (And.intro hr8 ht8)); clear hb8 hr8 ht8) |
          (go_at_call 44; refine (HSP.out _ _ HX8.out.1 HX8.out.2 HC8.out).mono ?_; rintro e w9 ⟨rfl, hb9⟩; (have HC9 := Lib.hid hb9); clear hb9))
      have HB9 : Hid (Below w3.heap.size w3 w9) := bl_then HB5.out HC9.out.below
      have HOW9 : Hid (w9.ownsRow w3.heap.size 3 1 u7 d (ivs .i64 (usedD ((ds.take i).map Own.dat) 0))) := own_bl HOW5.out HC9.out.below
      have k9 := (HCL.out _ HC9.out).2.2.2.1
      by_cases hk : k = 0
      · subst hk
        rw [if_pos rfl, List.append_nil] at HS
        go_wp2_with fail
        go_roundw
        case rel => exact ⟨i + 1, d, by omega, by omega, by go_num, by rw [HS.out]; exact HR.out.1, by rw [HS.out]; exact HOW9.out, HB9.out⟩
        case measure => simp [intOf]; omega
      · have hk0 : (k != 0) = true := bne_iff_ne.2 hk
        rw [if_neg hk] at HS
        have HOX : Hid (∀ o, (w9.alloc o).ownsRow w3.heap.size 3 1 u7 d (ivs .i64 (usedD ((ds.take i).map Own.dat) 0))) := fun o => own_kp HOW9.out (fun k _ hk => Below.heap_alloc _ _ k hk)
        have HLO := Lib.hid (own_lo HOW9.out)
        have hsz : Hid (w3.heap.size ≤ w9.heap.size + 1) := by show _ ≤ _; have := HB9.out.size; omega
        clear hk
        go_wp2_with (at_builtin; refine wpList_append_own _ rfl (.tmp 56) (.tmp 58) 79 rfl w3.heap.size 3 z0 (.int .i64 0) 1 8 Tryz.underlying79 hinf hz0 hz1 hz2 rfl (by decide) _ d _ rfl (HOX.out _) ⟨w9.heap.size, 0, none⟩ 1 1 [.int .i64 (i : Int)] rfl rfl (one_at _ _ _) (by intro u hu; simp at hu; subst hu; rfl) (by unfold maxLen; omega) (by omega) (by have h1 := hsz.out; simp; omega) ?_; intro v' w11 hown' hgrow _; (have HO := Lib.hid hown'); (have HG := Lib.hid hgrow); clear hown' hgrow)
        go_roundw
        case rel =>
          refine ⟨i + 1, d + 1, by omega, by omega, by go_num, ?_, ?_, bl_grown (bl_alloc HB9.out _) HG.out HLO.out⟩
          · rw [HS.out, List.length_append, ← HR.out.1]; rfl
          · rw [HS.out, ivs_append]; exact HO.out
        case measure => simp [intOf]; omega
    obtain rfl : i = m := by omega
    have h9 := HR.out
    rw [List.take_of_length_le (by rw [← HM.out.1]; exact Nat.le_refl _)] at h9
    obtain ⟨A7, k7, hv7⟩ := own_slice h9.2.1
    subst hv7
    have HU := Lib.hid h9
    have k1 := cell_of (HK.out h9.2.2).1 1
    clear h9 HR
    go_wp2_with fail
    clear k1
    have HB0 : Hid (Below wA.heap.size wA wA) := Below.refl _ _
    have HN0 : Hid ((-1 : Int) = ixD ((ds.take 0).map Own.dat) 0) := rfl
    go_loopw [64, 10] (fun c64 c10 wr => ∃ (j : Nat) (v : Int), j ≤ i ∧ c64 = .int .i64 j ∧ c10 = .int .i64 v ∧ -1 ≤ v ∧ v ≤ j ∧ Hid (v = ixD ((ds.take j).map Own.dat) 0 ∧ Below wA.heap.size wA wr)) (fun c64 _ _ => i - (intOf c64).toNat)
    case atStart => exact ⟨0, -1, Nat.zero_le _, rfl, rfl, by omega, by omega, HN0.out, HB0.out⟩
    case round =>
      obtain ⟨j, v, hj, rfl, rfl, hv1, hv2, HR⟩ := hrel
      generalize wr = wB at *
      by_cases hlt : j < i
      · obtain ⟨p, hp⟩ := some_at (l := ds) (i := j) (by rw [← HM.out.1]; exact hlt)
        have hbA := (HK.out (bl_then HU.out.2.2 HR.out.2)).2.2.2
        have htri : (ds.map Own.tri)[j]? = some p.tri := by rw [List.getElem?_map, hp]; rfl
        obtain ⟨gi, oi, rfl, -, a1, a2, a3⟩ := (HD.out.inos.below hbA) j p.tri htri
        have HS : Hid (ixD ((ds.take (j + 1)).map Own.dat) 0 = if 0 ≤ v then v else if p.k = 0 then (j : Int) else -1) := by
          show _ = _
          rw [take_next hp, List.map_append, List.map_cons, List.map_nil, ixD_snoc, List.length_map, List.length_take, Nat.min_eq_left (by rw [← HM.out.1]; omega), Nat.zero_add, ← HR.out.1]
          rfl
        have HBW : Hid (∀ o, Below wA.heap.size wA (wB.alloc o)) := fun o => bl_alloc HR.out.2 _
        obtain ⟨k, h, z, sa, sc, pa, pc, L⟩ := p
        simp only [Own.tri] at a1 a2 a3 HS
        clear hp htri hbA
        by_cases hk : k = 0
        · have hk0 : (k == 0) = true := beq_iff_eq.2 hk
          by_cases hv : v < 0
          · rw [if_neg (by omega), if_pos hk] at HS
            clear hk
            go_wp2_with fail
            go_roundw
            case rel => exact ⟨j + 1, j, by omega, by go_num, rfl, by omega, by omega, HS.out.symm, HBW.out _⟩
            case measure => simp [intOf]; omega
          · rw [if_pos (by omega)] at HS
            clear hk
            go_wp2_with fail
            go_roundw
            case rel => exact ⟨j + 1, v, by omega, by go_num, rfl, by omega, by omega, HS.out.symm, HBW.out _⟩
            case measure => simp [intOf]; omega
        · have hk0 : (k == 0) = false := beq_eq_false_iff_ne.2 hk
          have hS2 : Hid (ixD ((ds.take (j + 1)).map Own.dat) 0 = v) := by
            show _ = _
            rw [HS.out, if_neg hk]
            split <;> omega
          clear hk HS
          go_wp2_with fail
          go_roundw
          case rel => exact ⟨j + 1, v, by omega, by go_num, rfl, by omega, by omega, hS2.out.symm, HBW.out _⟩
          case measure => simp [intOf]; omega
      obtain rfl : j = i := by omega
      have hv9 := HR.out.1
      rw [List.take_of_length_le (by rw [← HM.out.1]; exact Nat.le_refl _)] at hv9
      have HV := Lib.hid hv9
      have HBB : Hid (Below w3.heap.size w3 wB) := bl_then HU.out.2.2 HR.out.2
      have HAB : Hid (Below wA.heap.size wA wB) := HR.out.2
      have k0 := cell_of (HK.out HBB.out).1 0
      clear hv9 HR
      go_wp2_with fail
      clear k0
      have HB9 : Hid (Below wB.heap.size wB wB) := Below.refl _ _
      have HF0 : Hid ((0 : Int) = ((0 : Nat) : Int) - (cnt (bitsOf x1 0) : Nat) ∧ (0 : Int) = ((0 : Nat) : Int) - (cnt (bitsOf x2 0) : Nat)) := ⟨rfl, rfl⟩
      go_loopw [80, 11, 12] (fun c80 c11 c12 wr => ∃ (b : Nat) (f1 f2 : Int), b ≤ n ∧ c80 = .int .i64 b ∧ c11 = .int .i64 f1 ∧ c12 = .int .i64 f2 ∧ 0 ≤ f1 ∧ f1 ≤ b ∧ 0 ≤ f2 ∧ f2 ≤ b ∧ Hid (f1 = (b : Int) - (cnt (bitsOf x1 b) : Nat) ∧ f2 = (b : Int) - (cnt (bitsOf x2 b) : Nat) ∧ Below wB.heap.size wB wr)) (fun c80 _ _ _ => n - (intOf c80).toNat)
      case atStart => exact ⟨0, 0, 0, Nat.zero_le _, rfl, rfl, rfl, by omega, by omega, by omega, by omega, HF0.out.1, HF0.out.2, HB9.out⟩
      case round =>
        obtain ⟨b, f1, f2, hb, rfl, rfl, rfl, hf1, hf2, hf3, hf4, HR⟩ := hrel
        generalize wr = wC at *
        have HBC : Hid (Below w3.heap.size w3 wC) := bl_then HBB.out HR.out.2.2
        have HBW : Hid (∀ {W' : World}, Bl wC W' → Below W.heap.size W W') := fun {W'} hb => (HK.out (bl_then HBC.out hb.below)).2.2.2
        have HQC : Hid (∀ W', Bl wC W' → W'.cell? ⟨W.heap.size, 0, none⟩ = some (.int .i64 n) ∧ W'.cell? ⟨W.heap.size, 1, none⟩ = some (.slice IA j ic) ∧ W'.cell? ⟨W.heap.size, 2, none⟩ = some (.slice CA j cc) ∧ Bl wC W') := fun W' hb => by
          have h9 := (HK.out (bl_then HBC.out hb.below)).1
          exact ⟨cell_of h9 0, cell_of h9 1, cell_of h9 2, hb⟩
        by_cases hlt : b < n
        · obtain ⟨o1, ho1⟩ : ∃ o1, o1 = (owD (ds.map Own.dat) b 0).1 := ⟨_, rfl⟩
          obtain ⟨o2, ho2⟩ : ∃ o2, o2 = (owD (ds.map Own.dat) b 0).2 := ⟨_, rfl⟩
          obtain ⟨sd, hsd⟩ : ∃ sd, sd = slD (ds.map Own.dat) b := ⟨_, rfl⟩
          obtain ⟨tb, htb⟩ : ∃ tb, tb = decide (0 ≤ o1) := ⟨_, rfl⟩
          have t1 := HAL.out.b1 b hlt
          rw [← ho1, ← htb] at t1
          have t3 := HAL.out.b3 b hlt
          rw [← hsd] at t3
          have HOC : Hid (∀ {W' : World}, Bl wC W' → Calls Tryz.prog 120 #[.pointer (some ⟨q, 0, none⟩), .int .i64 b] W' fun e w' => e = .returned (.tuple #[.int .i64 o1, .int .i64 o2]) ∧ Bl wC w') := fun {W'} hb => by
            rw [ho1, ho2]
            exact (HOW.out b hlt (HBW.out hb)).mono fun e w' ⟨r1, r2⟩ => ⟨r1, ⟨bl_then hb.below r2⟩⟩
          have HRC : Hid (∀ {W' : World}, Bl wC W' → Calls Tryz.prog 121 #[.agg #[.int .i64 n, .slice IA j ic, .slice CA j cc], .int .i64 b] W' fun e w' => e = .returned (.tuple #[.int .i64 o1, .int .i64 o2]) ∧ Bl wC w') := fun {W'} hb => by
            rw [ho1, ho2]
            exact (HRO.out b (HBW.out hb)).mono fun e w' ⟨r1, r2⟩ => ⟨r1, ⟨bl_then hb.below r2⟩⟩
          have HSC : Hid (∀ {W' : World}, Bl wC W' → Calls Tryz.prog 65 #[.agg #[.int .i64 n, .slice IA j ic, .slice CA j cc], .int .i64 b] W' fun e w' => e = .returned (.bool sd) ∧ Bl wC w') := fun {W'} hb => by
            rw [hsd]
            exact (HRS.out b (HBW.out hb)).mono fun e w' ⟨r1, r2⟩ => ⟨r1, ⟨bl_then hb.below r2⟩⟩
          have HH5 : Hid (∀ {W' : World}, Bl wC W' → Calls Tryz.prog 94 #[.pointer (some ⟨b5, 0, none⟩), .int .i64 b] W' fun e w' => e = .returned (.bool tb) ∧ Bl wC w') := fun {W'} hb => by
            rw [← t1, ← bhas_one hn hlt]
            exact (has_ (HK.out (bl_then HBC.out hb.below)).2.1 b).mono fun e w' ⟨r1, r2⟩ => ⟨r1, by rw [r2]; exact hb⟩
          have HH6 : Hid (∀ {W' : World}, Bl wC W' → Calls Tryz.prog 94 #[.pointer (some ⟨b6, 0, none⟩), .int .i64 b] W' fun e w' => e = .returned (.bool sd) ∧ Bl wC w') := fun {W'} hb => by
            rw [← t3, ← bhas_one hn hlt]
            exact (has_ (HK.out (bl_then HBC.out hb.below)).2.2.1 b).mono fun e w' ⟨r1, r2⟩ => ⟨r1, by rw [r2]; exact hb⟩
          have HG1 : Hid ((if tb then f1 else f1 + 1) = ((b + 1 : Nat) : Int) - (cnt (bitsOf x1 (b + 1)) : Nat)) := by
            show _ = _
            rw [cnt_next, t1, HR.out.1]
            cases tb <;> simp <;> omega
          have HG2 : Hid ((if sd then f2 else f2 + 1) = ((b + 1 : Nat) : Int) - (cnt (bitsOf x2 (b + 1)) : Nat)) := by
            show _ = _
            rw [cnt_next, t3, HR.out.2.1]
            cases sd <;> simp <;> omega
          have HT := Lib.hid htb
          have HC0 : Hid (Bl wC wC) := ⟨Below.refl _ _⟩
          have q11 : (o1 != o1) = false := by simp
          have q22 : (o2 != o2) = false := by simp
          have k0 := (HQC.out _ HC0.out).1
          clear ho1 ho2 hsd htb t1 t3
          go_wp2_with fail
          refine (HOC.out HC0.out).mono ?_
          rintro e w4 ⟨rfl, hb4⟩
          have HC4 := Lib.hid hb4
          obtain ⟨l0, l1, l2, -⟩ := HQC.out _ hb4
          clear hb4 k0
          go_wp2_with fail
          refine (HRC.out HC4.out).mono ?_
          rintro e w5 ⟨rfl, hb5⟩
          have HC5 : Hid (Bl wC w5.drew) := ⟨bl_drew hb5.below⟩
          clear hb5 l0 l1 l2
          cases tb
          rotate_left
          have q1 : 0 ≤ o1 := of_decide_eq_true HT.out.symm
          have q2 : decide (0 ≤ o1) = true := HT.out.symm
          cases sd
          rotate_left 2
          have q1 : o1 < 0 := by have := of_decide_eq_false HT.out.symm; omega
          have q2 : decide (0 ≤ o1) = false := HT.out.symm
          cases sd
          all_goals
            go_wp2_with fail
            go_region_held3 (fun W' => W'.cell? ⟨W.heap.size, 0, none⟩ = some (.int .i64 n) ∧ W'.cell? ⟨W.heap.size, 1, none⟩ = some (.slice IA j ic) ∧ W'.cell? ⟨W.heap.size, 2, none⟩ = some (.slice CA j cc) ∧ Bl wC W')
              (first | exact HQC.out _ HC5.out | exact HQC.out _ HC6.out | exact HQC.out _ HC7.out | exact HQC.out _ HC8.out)
              (first | (go_at_call 94; (with_reducible refine (HH5.out HC5.out).mono ?_); rintro e w6 ⟨rfl, hb6⟩; (have HC6 := Lib.hid hb6); clear hb6) |
                (go_at_call 94; (with_reducible refine (HH6.out HC6.out).mono ?_); rintro e w7 ⟨rfl, hb7⟩; (have HC7 := Lib.hid hb7); clear hb7) |
                (go_at_call 65; refine (HSC.out HC7.out).mono ?_; rintro e w8 ⟨rfl, hb8⟩; (have HC8 := Lib.hid hb8); clear hb8))
            obtain ⟨l0, l1, l2, -⟩ := HQC.out _ HC8.out
            go_wp2_with fail
            refine (HSC.out HC8.out).mono ?_
            rintro e w9 ⟨rfl, hb9⟩
            have HC9 := Lib.hid hb9
            clear hb9 l0 l1 l2
            go_wp2_with fail
            go_roundw
            case rel => exact ⟨b + 1, _, _, by omega, by go_num, rfl, rfl, by omega, by omega, by omega, by omega, by have := HG1.out; simpa using this, by have := HG2.out; simpa using this, bl_then HR.out.2.2 HC9.out.below⟩
            case measure => simp [intOf]; omega
        obtain rfl : b = n := by omega
        have HFC : Hid (∀ {W' : World}, Bl wC W' → Calls Tryz.prog 56 #[.pointer (some ⟨q, 0, none⟩)] W' fun e w' => e = .returned (.tuple #[.int .i64 f1, .int .i64 f2, .int .i64 ((j : Int) - (d : Int))]) ∧ Bl wC w') := fun {W'} hb => by
          rw [HR.out.1, HR.out.2.1, HU.out.1]
          exact (HFR.out (HBW.out hb)).mono fun e w' ⟨r1, r2⟩ => ⟨r1, ⟨bl_then hb.below r2⟩⟩
        have HUC : Hid (∀ {W' : World}, Bl wC W' → Calls Tryz.prog 57 #[.pointer (some ⟨q, 0, none⟩)] W' fun e w' => ∃ A c, e = .returned (.slice A d c) ∧ Rk .i64 w' A (usedD (ds.map Own.dat) 0) ∧ Bl wC w') := fun {W'} hb => by
          rw [HU.out.1]
          exact (HUS.out (HBW.out hb)).mono fun e w' ⟨A, c, r1, r2, r3⟩ => ⟨A, c, r1, r2, ⟨bl_then hb.below r3⟩⟩
        have HSC : Hid (∀ {W' : World} {A : Option Addr} (c : Nat), Rk .i64 W' A (usedD (ds.map Own.dat) 0) → Bl wC W' → Calls Tryz.prog 35 #[.slice A d c, .slice A7 d k7] W' fun e w' => e = .returned (.bool true) ∧ Bl wC w') := fun {W'} {A} c h1 hb => by
          have h2 := (own_rk (k := .i64) (own_bl (own_bl HU.out.2.1 (bl_then HAB.out HR.out.2.2)) hb.below)).1
          have h9 := rsame_ h1 h2 c k7 (by rw [← HU.out.1]; omega) (by rw [← HU.out.1]; omega)
          rw [decide_eq_true rfl, ← HU.out.1] at h9
          exact h9.mono fun e w' ⟨r1, k, r2⟩ => ⟨r1, by rw [r2]; exact ⟨bl_drewN hb.below k⟩⟩
        have HNC : Hid (∀ {W' : World}, Bl wC W' → Calls Tryz.prog 107 #[.pointer (some ⟨q, 0, none⟩)] W' fun e w' => e = .returned (.int .i64 v) ∧ Bl wC w') := fun {W'} hb => by
          rw [HV.out]
          exact (HNX.out (HBW.out hb)).mono fun e w' ⟨r1, r2⟩ => ⟨r1, ⟨bl_then hb.below r2⟩⟩
        have HL5 : Hid (∀ {W' : World}, Bl wC W' → Calls Tryz.prog 95 #[.pointer (some ⟨b5, 0, none⟩)] W' fun e w' => e = .returned (.int .i64 b) ∧ Bl wC w') := fun {W'} hb => (len_ (HK.out (bl_then HBC.out hb.below)).2.1).mono fun e w' ⟨r1, r2⟩ => ⟨r1, by rw [r2]; exact hb⟩
        have HL6 : Hid (∀ {W' : World}, Bl wC W' → Calls Tryz.prog 95 #[.pointer (some ⟨b6, 0, none⟩)] W' fun e w' => e = .returned (.int .i64 b) ∧ Bl wC w') := fun {W'} hb => (len_ (HK.out (bl_then HBC.out hb.below)).2.2.1).mono fun e w' ⟨r1, r2⟩ => ⟨r1, by rw [r2]; exact hb⟩
        have HC0 : Hid (Bl wC wC) := ⟨Below.refl _ _⟩
        have q11 : (f1 == f1) = true := by simp
        have q22 : (f2 == f2) = true := by simp
        have q33 : (v == v) = true := by simp
        have q44 : ((b : Int) == (b : Int)) = true := by simp
        have q55 : IntKind.i64.wrap ((j : Int) - (d : Int)) = (j : Int) - (d : Int) := Jd.wi64 _ (by omega) (by omega)
        have q66 : ((j : Int) - (d : Int) == (j : Int) - (d : Int)) = true := by simp
        have HBF : Hid (∀ {W' : World}, Bl wC W' → Below W.heap.size W W') := HBW.out
        clear HR
        go_wp2_with fail
        refine (HFC.out HC0.out).mono ?_
        rintro e w4 ⟨rfl, hb4⟩
        have HC4 : Hid (Bl wC w4.drew) := ⟨bl_drew hb4.below⟩
        clear hb4
        go_wp2_with fail
        go_region_held3 (fun W' => W'.cell? ⟨W.heap.size, 0, none⟩ = some (.int .i64 b) ∧ W'.cell? ⟨W.heap.size, 1, none⟩ = some (.slice IA j ic) ∧ W'.cell? ⟨W.heap.size, 2, none⟩ = some (.slice CA j cc) ∧ Bl wC W')
          (first | exact HQC.out _ HC4.out | exact HQC.out _ HC5.out | exact HQC.out _ HC6.out | exact HQC.out _ HC7.out | exact HQC.out _ HC8.out | exact HQC.out _ HC9.out)
          (first | (go_at_call 57; refine (HUC.out HC4.out).mono ?_; rintro e w5 ⟨A5', c5', rfl, hr5, hb5⟩; (have HC5 := Lib.hid hb5); (have HR5 := Lib.hid hr5); clear hb5 hr5) |
            (go_at_call 35; refine (HSC.out _ HR5.out HC5.out).mono ?_; rintro e w6 ⟨rfl, hb6⟩; (have HC6 := Lib.hid hb6); clear hb6) |
            (go_at_call 107; refine (HNC.out HC6.out).mono ?_; rintro e w7 ⟨rfl, hb7⟩; (have HC7 := Lib.hid hb7); clear hb7) |
            (go_at_call 95; (with_reducible refine (HL5.out HC7.out).mono ?_); rintro e w8 ⟨rfl, hb8⟩; (have HC8 := Lib.hid hb8); clear hb8) |
            (go_at_call 95; (with_reducible refine (HL6.out HC8.out).mono ?_); rintro e w9 ⟨rfl, hb9⟩; (have HC9 := Lib.hid hb9); clear hb9))
        go_wp2_with fail
        go_ret
        exact ⟨rfl, HBF.out HC9.out⟩
end Go.Proofs.YtgnagbbdnlmgeaaGreat.Cm
end
section
set_option maxHeartbeats 4000000
set_option maxRecDepth 100000
namespace Go.Proofs.YtgnagbbdnlmgeaaGreat.Cm
open Go Go.RowKit
open Rr Ob Ba Ko Ge Oc Pk Su Rf Dv Vo Ra Jh Tr Iq Bm In Je Lo Ho Jd
theorem scanR_len {n s : Nat} {sl : Int → Option Tri} {inf : Int → Option (Int × Int × Int)} : ∀ (k i : Nat) (st st' : Rt), scanR n s sl inf k i st = some st' → st'.2.2.length = st.2.2.length + k
  | 0, i, st, st', h => by
    have : st = st' := Option.some.inj h
    rw [← this]; rfl
  | k + 1, i, st, st', h => by
    rw [scanR_succ] at h
    cases hst : stepR n s sl inf i st with
    | none => rw [hst] at h; cases h
    | some s2 =>
      rw [hst] at h
      have h1 := scanR_len k (i + 1) s2 st' h
      have h2 : s2.2.2.length = st.2.2.length + 1 := by
        unfold stepR at hst
        split at hst
        · cases hst
        · split at hst
          · cases hst
          · split at hst
            · cases hst
            · split at hst
              · cases hst
              · split at hst
                · cases hst
                · split at hst
                  · cases hst
                  · have := Option.some.inj hst
                    rw [← this]
                    simp
      omega
theorem ofV_out {es : List Own} {i : Int} (h : i < 0 ∨ (es.length : Int) ≤ i) : ofV es i = ⟨0, -1, 0, none, 0, none, 0, []⟩ := by
  unfold ofV
  split
  · rw [List.getD_eq_getElem?_getD, List.getElem?_eq_none (by omega)]
    rfl
  · rfl
end Go.Proofs.YtgnagbbdnlmgeaaGreat.Cm
end
section
set_option maxHeartbeats 4000000
set_option maxRecDepth 100000
namespace Go.Proofs.YtgnagbbdnlmgeaaGreat.Cm
open Go Go.RowKit
open Rr Ob Ba Ko Ge Oc Pk Su Rf Dv Vo Ra Jh Tr Iq Bm In Je Lo Ho Jd
def Ia (w : World) (B : Nat) (T : TypeId) (st : Nat) (A : Option Addr) (ll : Nat) : Prop := ll = 0 ∨ ∃ q cs, A = some ⟨q, 0, none⟩ ∧ B ≤ q ∧ w.heap[q]? = some (.cells cs T (0, 0)) ∧ ∀ i, i < ll → ∃ x, cs[i * st]? = some (.int .i64 x)
theorem Ia.below {w w' : World} {B T st ll : Nat} {A : Option Addr} (h : Ia w B T st A ll) (hb : Below w.heap.size w w') : Ia w' B T st A ll := by
  rcases h with h | ⟨q, cs, h1, h2, h3, h4⟩
  · exact .inl h
  · exact .inr ⟨q, cs, h1, h2, blk_bl h3 hb, h4⟩
theorem Ia.at_ {w : World} {B T st ll : Nat} {A : Option Addr} (h : Ia w B T st A ll) {i : Nat} (hi : i < ll) : ∃ q x, A = some ⟨q, 0, none⟩ ∧ B ≤ q ∧ (∃ cs, w.heap[q]? = some (.cells cs T (0, 0))) ∧ w.cell? ⟨q, i * st, none⟩ = some (.int .i64 x) ∧ w.frozen? ⟨q, i * st, none⟩ = false := by
  rcases h with h | ⟨q, cs, h1, h2, h3, h4⟩
  · omega
  · obtain ⟨x, hx⟩ := h4 i hi
    exact ⟨q, x, h1, h2, ⟨cs, h3⟩, by rw [cell_of h3]; exact hx, free_of h3 _⟩
theorem Ia.set {w : World} {B T st ll : Nat} {A : Option Addr} (h : Ia w B T st A ll) (q o : Nat) (y : Int) : Ia (w.setCell ⟨q, o, none⟩ (.int .i64 y)) B T st A ll := by
  rcases h with h | ⟨p, cs, h1, h2, h3, h4⟩
  · exact .inl h
  · by_cases hp : q = p
    · subst hp
      refine .inr ⟨q, _, h1, h2, set_same h3 o _, fun i hi => ?_⟩
      rw [Array.getElem?_setIfInBounds]
      obtain ⟨x, hx⟩ := h4 i hi
      split
      · rename_i he
        have : i * st < cs.size := (Array.getElem?_eq_some_iff.1 hx).1
        rw [if_pos (by omega)]
        exact ⟨y, rfl⟩
      · exact ⟨x, hx⟩
    · exact .inr ⟨p, cs, h1, h2, set_blk h3 hp, h4⟩
theorem ia_own {w : World} {B T st n c : Nat} {A : Option Addr} {xs : List Value} (h : w.ownsRow B T st (.slice A n c) n xs) (hx : ∀ i, i < n → ∃ x, xs[i * st]? = some (.int .i64 x)) : Ia w B T st A n := by
  obtain ⟨h1, ⟨h2, h3⟩ | ⟨g, cap, cur, hv, hg, hb, hn, hm, hs, ht⟩⟩ := h
  · simp only [Value.slice.injEq] at h2
    exact .inl (by omega)
  · simp only [Value.slice.injEq] at hv
    obtain ⟨rfl, -, -⟩ := hv
    refine .inr ⟨g, cur, rfl, hg, hb, fun i hi => ?_⟩
    obtain ⟨x, hx⟩ := hx i hi
    rw [← ht, List.getElem?_take] at hx
    split at hx
    · exact ⟨x, by simpa using hx⟩
    · cases hx
theorem turn_one_ {w : World} {B b n : Nat} {l : List Nat} {A : Option Addr} {c : Nat} (h : Bm w B b n l A c) (j : Int) :
    Calls Tryz.prog 61 #[.pointer (some ⟨b, 0, none⟩), .slice (some ⟨w.heap.size, 0, none⟩) 1 1] (w.alloc (.cells #[.int .i64 j] 3)) (fun e w' => ∃ k, e = .returned (.int .i64 k) ∧ Below B w w') ∧
    Calls Tryz.prog 63 #[.pointer (some ⟨b, 0, none⟩), .slice (some ⟨w.heap.size, 0, none⟩) 1 1] (w.alloc (.cells #[.int .i64 j] 3)) (fun e w' => ∃ k, e = .returned (.int .i64 k) ∧ Below B w w') := by
  have hB : B ≤ w.heap.size := Nat.le_trans h.lo (Nat.le_of_lt (lt_of h.box))
  have h' := h.keep (bl_alloc (Below.refl _ _) (.cells #[.int .i64 j] 3))
  have hrk : Rk .i64 (w.alloc (.cells #[.int .i64 j] 3)) (some ⟨w.heap.size, 0, none⟩) [j] := by
    intro i x hi
    refine ⟨_, rfl, by rw [World.size_alloc]; exact Nat.lt_succ_self _, ?_⟩
    have h9 := one_at w (.int .i64 j) 3 i (.int .i64 x)
    exact h9 (by cases i with | zero => simpa using hi | succ i => simp at hi)
  have hD : ∀ a a' : Addr, some (⟨w.heap.size, 0, none⟩ : Addr) = some a → A = some a' → a'.block ≠ a.block := fun a a' ha ha' => by
    cases ha
    obtain ⟨cu, hcu⟩ := Bm.own_blk' (k := a'.block) h.row (by rw [ha']; rfl)
    have := lt_of hcu
    intro e9
    simp only at e9
    omega
  have hlo : ∀ a, A = some a → B ≤ a.block := fun a ha => own_lo h.row a.block (by rw [ha]; rfl)
  have hfin : ∀ {w'}, Only A (w.alloc (.cells #[.int .i64 j] 3)) w' → Below B w w' := fun ho => ((Below.refl B w).alloc hB _).trans (ho.below hlo)
  have hput := put_ h' hrk hD 1 (by simp)
  have HT := Lib.hid (turn_ h' true hrk hD 1 (by simp))
  refine ⟨hput.mono fun e w' ⟨r1, _, r3⟩ => ⟨_, r1, hfin r3⟩, ?_⟩
  have HF := Lib.hid (fun w' => @hfin w')
  generalize turnL n true l [j] = r at *
  generalize w.alloc (.cells #[.int .i64 j] 3) = W0 at *
  have hl : ([j] : List Int).length = 1 := rfl
  rw [hl] at HT
  clear h h' hrk hD hlo hfin hput hB hl
  go_enter Tryz.func63, Tryz.ntmps63
  go_wp2_with fail
  refine HT.out.mono ?_
  rintro e w1 ⟨rfl, h1, h2⟩
  have H := Lib.hid h2
  clear h1 h2
  go_wp2_with fail
  go_ret
  exact ⟨_, rfl, HF.out _ H.out⟩
theorem apart_ (r0 r1 r2 : Nat) (h0 : r0 < 256) (h1 : r1 < 256) (h2 : r2 < 256) {A : Option Addr} {l : List Nat} (c : Nat) {w : World} (h : Rk .u64 w A (ints l)) (hlw : ∀ x ∈ l, x < 18446744073709551616) (hl9 : l.length ≤ 9223372036854775807) :
    Calls Tryz.prog 10 #[.agg #[.int .u8 r0, .int .u8 r1, .int .u8 r2, .slice A l.length c]] w fun e w' => e = .returned (.bool true) ∧ Below w.heap.size w w' := by
  have hu := Tryz.underlying30
  have hu2 := Tryz.underlying125
  have hu3 := Tryz.underlying82
  obtain ⟨z0, hinf, hz0, hz1, hz2⟩ := info_parts info_int
  obtain ⟨n, m, s, T, p3, p4, p5, ws, hi⟩ := im_ r0 r1 r2 l hlw
  have HO : Hid (∀ {W : World}, Rk .u64 W A (ints l) → _) := fun {W} hW => open17N h0 h1 h2 hi c hl9 (w := W) hW
  have HSN : Hid (∀ {W : World} {v b : Nat} {g : Lay}, VolIs W v b n m s (Pm.devOf (ints ws)) g → _) := fun {W} {v} {b} {g} hv => scan_ hv (Vs.words_devOf _) hi.lt (by rw [hi.len]; exact hi.fit) (by have := hi.n2; omega) (by have := hi.m2; omega) (by have := hi.s2; omega)
  have HRS : Hid (∀ {W : World} {a8 : Addr} {c8 : Nat}, Rk .u64 W (some a8) (ints ws) → T ≤ c8 → _) := fun {W} {a8} {c8} hr hc8 => r17scan_ hr hi.len hc8 hi.lt (by have := hi.T2; omega) hi.fit (by have := hi.n2; omega) (by have := hi.m2; omega) hi.s2 p3 p4 p5
  have HLK := Lib.hid (lk_scan (n := n) (m := m) (s := s) (ws := ws) hi.n1 (by have := hi.n2; omega) hi.s2)
  have hn1 := hi.n1
  have hn2 := hi.n2
  have hm2 := hi.m2
  have HI := Lib.hid hi
  have H := Lib.hid h
  obtain ⟨len, hle⟩ : ∃ len, len = l.length := ⟨_, rfl⟩
  rw [← hle] at HO
  rw [← hle]
  clear h hlw hl9 hi h0 h1 h2 hle
  go_enter Tryz.func10, Tryz.ntmps10
  go_wp2_with fail
  refine (lives17 _).mono ?_
  rintro e w1 ⟨rfl, hb1⟩
  have hqr := blk_bl (alloc_new w (.cells #[.int .u8 r0, .int .u8 r1, .int .u8 r2, .slice A len c] 24)) hb1
  have HB1 := Lib.hid (bl_then (bl_alloc (Below.refl _ _) _) hb1)
  have a0 := cell_of hqr 0
  have a1 := cell_of hqr 1
  have a2 := cell_of hqr 2
  have a3 := cell_of hqr 3
  clear hqr hb1
  go_wp2_with fail
  refine (HO.out (H.out.below HB1.out)).mono ?_
  rintro e w2 ⟨v, b, g, a8, c8, rfl, hop⟩
  unfold volA
  obtain ⟨W2, hW2⟩ : ∃ W2, W2 = w2.alloc (.cells #[.int .i64 n, .int .i64 m, .int .i64 s, .int .i64 16, .int .i64 (16 + 8 * m), .int .i64 p3, .int .i64 p4, .int .i64 p5, .slice (some a8) T c8] 30) := ⟨_, rfl⟩
  have hbw : Below w2.heap.size w2 W2 := by rw [hW2]; exact bl_alloc (Below.refl _ _) _
  have HQ2 : Hid (W2.heap[w2.heap.size]? = some (.cells #[.int .i64 n, .int .i64 m, .int .i64 s, .int .i64 16, .int .i64 (16 + 8 * m), .int .i64 p3, .int .i64 p4, .int .i64 p5, .slice (some a8) T c8] 30 (0, 0))) := by rw [hW2]; exact alloc_new _ _
  have HV2 := Lib.hid (hop.vol.below hbw)
  have HB2 := Lib.hid (bl_then (bl_then HB1.out hop.below) hbw)
  have HR2 := Lib.hid (And.intro (hop.row.below hbw) hop.cap)
  clear a0 a1 a2 a3 hop hbw
  go_wp2_with fail
  rw [← hW2]
  clear hW2
  generalize w2.heap.size = q2 at *
  refine (HSN.out HV2.out).mono ?_
  rintro e w3 ⟨hso, hno, hb3⟩
  have HB3 := Lib.hid hb3
  have hq2 := blk_bl HQ2.out hb3
  have m0 := cell_of hq2 0
  have m1 := cell_of hq2 1
  have m2 := cell_of hq2 2
  have m3 := cell_of hq2 3
  have m4 := cell_of hq2 4
  have m5 := cell_of hq2 5
  have m6 := cell_of hq2 6
  have m7 := cell_of hq2 7
  have m8 := cell_of hq2 8
  have HRC := Lib.hid (HRS.out (HR2.out.1.below hb3) HR2.out.2)
  clear hb3 hq2
  rcases HLK.out with ⟨e1, e2⟩ | ⟨st, rt, e1, e2, hlk⟩
  · obtain rfl := hno e1
    rw [e2] at HRC
    clear hso hno e1 e2
    go_wp2_with fail
    refine HRC.out.mono ?_
    rintro e w4 ⟨hsc, hb4⟩
    obtain rfl : e = .returned (.tuple #[.agg #[.int .i64 0, .slice none 0 0, .slice none 0 0], .bool false]) := hsc
    have HB4 : Hid (Below w.heap.size w w4) := bl_then (bl_then HB2.out HB3.out) hb4
    clear hb4 m0 m1 m2 m3 m4 m5 m6 m7 m8
    go_wp2_with fail
    go_ret
    exact ⟨rfl, bl_alloc HB4.out _⟩
  obtain ⟨qc, b1, b2, g1, g2, cc1, cc2, es, LA, lc, rfl, hcl, hes⟩ := hso st e1
  rw [e2] at HRC
  obtain ⟨x1, x2, f1, f2, hx1, hx2, t1, t2, t3⟩ := lk_bits (by omega) hlk
  rw [f1, f2] at hcl
  have HES := Lib.hid (And.intro hlk (And.intro hes (And.intro t1 (And.intro t2 t3))))
  have HX := Lib.hid (And.intro hx1 hx2)
  have HRL : Hid (rt.2.2.length = m) := by show _ = _; have h9 := scanR_len _ _ _ _ e2; simpa using h9
  have HCL := Lib.hid hcl
  clear hso hno e1 e2 hcl hlk hes t1 t2 t3 hx1 hx2 f1 f2 HLK
  go_wp2_with fail
  refine HRC.out.mono ?_
  rintro e w4 ⟨hsc, hb4⟩
  obtain ⟨IA, ic, CA, cc, ds, rfl, hdm, hds⟩ := hsc
  have hal : Alike n x1 x2 es ds := by
    obtain ⟨hlk, hes, t1, t2, t3⟩ := HES.out
    have e9 : st.2.2 = ds.map Own.dat := by rw [hlk.ds, hds]
    rw [e9] at t1 t2 t3 hes
    refine ⟨hes, fun e he => ?_, t1, t2, t3⟩
    have h9 := hlk.all e.dat (by rw [← hds, ← hes]; exact List.mem_map_of_mem he)
    exact h9
  have hlen : ds.length ≤ 24 := by
    have h9 := congrArg List.length hds
    rw [List.length_map, HRL.out] at h9
    omega
  have HSA : Hid (∀ {W' : World}, Below w4.heap.size w4 W' → Calls Tryz.prog 64 #[.pointer (some ⟨qc, 0, none⟩), .agg #[.int .i64 n, .slice IA ds.length ic, .slice CA ds.length cc]] W' fun e w' => e = .returned (.bool true) ∧ Below W'.heap.size W' w') := fun {W'} hb => csame_ ((HCL.out.keep hb4).keep hb) HX.out.1 HX.out.2 (by omega) (hdm.keep hb) hal hlen ic cc
  have hesl : es.length ≤ 24 := by have h9 := congrArg List.length hal.dat; simp at h9; omega
  have HBM : Hid (∀ {W' : World}, Below w4.heap.size w4 W' → _) := fun {W'} hb => cblocks_ ((HCL.out.keep hb4).keep hb)
  have HSL : Hid (∀ {W' : World}, Below w4.heap.size w4 W' → _) := fun {W'} hb => cslots_ ((HCL.out.keep hb4).keep hb)
  have HUS : Hid (∀ {W' : World}, Below w4.heap.size w4 W' → _) := fun {W'} hb => used_ ((HCL.out.keep hb4).keep hb) (by omega)
  have HCH : Hid (∀ (i : Int) {W' : World}, Below w4.heap.size w4 W' → Calls Tryz.prog 58 #[.pointer (some ⟨qc, 0, none⟩), .int .i64 i] W' fun e w' => ∃ A c D d ll, e = .returned (.agg #[.slice A ll c, .slice D ll d]) ∧ ll ≤ 24 ∧ Ia w' W'.heap.size 3 1 A ll ∧ Ia w' W'.heap.size 51 3 D ll ∧ Below W'.heap.size W' w') := fun i {W'} hb => by
    have hLn : (ofV es i).L.length ≤ n := by
      by_cases hio : i < 0 ∨ (es.length : Int) ≤ i
      · rw [ofV_out hio]; exact Nat.zero_le _
      · obtain ⟨P, hP⟩ := some_at (l := es) (i := i.toNat) (by omega)
        have h9 := ofV_at hP
        rw [show ((i.toNat : Nat) : Int) = i by omega] at h9
        rw [h9]
        exact (hal.all P (List.mem_of_getElem? hP)).1
    refine (cchain_ ((HCL.out.keep hb4).keep hb) (by omega) i (by omega)).mono ?_
    rintro e w' ⟨A', c', D', d', rfl, ho1, ho2, hb'⟩
    refine ⟨A', c', D', d', _, rfl, by omega, ia_own ho1 fun j hj => ?_, ia_own ho2 fun j hj => ?_, hb'⟩
    · obtain ⟨x, hx⟩ := some_at (l := (ofV es i).L.map Prod.fst) (i := j) (by simpa using hj)
      exact ⟨x, by rw [Nat.mul_one]; exact ivs_get hx⟩
    · obtain ⟨x, hx⟩ := some_at (l := (ofV es i).L.map Prod.snd) (i := j) (by simpa using hj)
      exact ⟨x.1, (tvs_get hx).1⟩
  have hul := usedD_len (es.map Own.dat) 0
  rw [List.length_map] at hul
  obtain ⟨dl, hdl⟩ : ∃ dl, dl = ds.length := ⟨_, rfl⟩
  rw [← hdl] at HSA
  rw [← hdl]
  obtain ⟨W4, hW4⟩ : ∃ W4, W4 = w4.alloc (.cells #[.int .i64 n, .slice IA dl ic, .slice CA dl cc] 125) := ⟨_, rfl⟩
  have hbw : Below w4.heap.size w4 W4 := by rw [hW4]; exact bl_alloc (Below.refl _ _) _
  have HQ4 : Hid (W4.heap[w4.heap.size]? = some (.cells #[.int .i64 n, .slice IA dl ic, .slice CA dl cc] 125 (0, 0))) := by rw [hW4]; exact alloc_new _ _
  have HB4 : Hid (Below w.heap.size w W4) := bl_then (bl_then (bl_then HB2.out HB3.out) hb4) hbw
  have HBW := Lib.hid hbw
  have HVB : Hid (W4.heap[q2]? = some (.cells #[.int .i64 n, .int .i64 m, .int .i64 s, .int .i64 16, .int .i64 (16 + 8 * m), .int .i64 p3, .int .i64 p4, .int .i64 p5, .slice (some a8) T c8] 30 (0, 0))) := blk_bl HQ2.out (bl_then HB3.out (bl_then hb4 hbw))
  have k0 := cell_of HVB.out 0
  rw [hW4] at k0
  have HB0 : Hid (Below w4.heap.size w4 W4) := hbw
  clear hb4 hdm hds hal hlen hdl hbw m0 m1 m2 m3 m4 m5 m6 m7 m8
  go_wp2_with fail
  rw [← hW4]
  clear hW4 k0
  go_loopw [47] (fun c47 wr => ∃ i : Nat, i ≤ n ∧ c47 = .int .i64 i ∧ Hid (Below W4.heap.size W4 wr)) (fun c47 _ => n - (intOf c47).toNat)
  case atStart => exact ⟨0, Nat.zero_le _, rfl, Below.refl _ _⟩
  case round =>
    obtain ⟨i, hi, rfl, HR⟩ := hrel
    generalize wr = wA at *
    by_cases hlt : i < n
    · have HC := Lib.hid (HBM.out (bl_then HB0.out HR.out))
      go_wp2_with fail
      refine HC.out.mono ?_
      rintro e w5 ⟨b5, A5, c5, rfl, hm5, hb5⟩
      have HP := Lib.hid (turn_one_ hm5 (i : Int)).1
      have HB5 := Lib.hid hb5
      clear hm5 hb5
      go_wp2_with fail
      refine HP.out.mono ?_
      rintro e w6 ⟨k6, rfl, hb6⟩
      have HB6 : Hid (Below wA.heap.size wA w6) := HB5.out.trans hb6
      clear hb6
      have HC6 := Lib.hid (HSL.out (bl_then HB0.out (bl_then HR.out HB6.out)))
      go_wp2_with fail
      refine HC6.out.mono ?_
      rintro e w7 ⟨b7, A7, c7, rfl, hm7, hb7⟩
      have HP7 := Lib.hid (turn_one_ hm7 (i : Int)).2
      have HB7 := Lib.hid hb7
      clear hm7 hb7
      go_wp2_with fail
      refine HP7.out.mono ?_
      rintro e w8 ⟨k8, rfl, hb8⟩
      have HB8 : Hid (Below W4.heap.size W4 w8) := bl_then HR.out (bl_then HB6.out (HB7.out.trans hb8))
      clear hb8
      go_wp2_with fail
      go_roundw
      case rel => exact ⟨i + 1, by omega, by go_num, HB8.out⟩
      case measure => simp [intOf]; omega
    obtain rfl : i = n := by omega
    go_wp2_with fail
    refine (HUS.out (bl_then HB0.out HR.out)).mono ?_
    rintro e w5 ⟨v5, rfl, ho5, hb5⟩
    obtain ⟨A5, c5, rfl⟩ := own_slice ho5
    have HR5 := Lib.hid (own_rk (k := .i64) ho5).1
    have HB5 : Hid (Below W4.heap.size W4 w5) := bl_then HR.out hb5
    obtain ⟨U, hU⟩ : ∃ U, U = usedD (es.map Own.dat) 0 := ⟨_, rfl⟩
    rw [← hU] at HR5 hul
    rw [← hU]
    obtain ⟨un, hun⟩ : ∃ un, un = U.length := ⟨_, rfl⟩
    rw [← hun] at hul
    rw [← hun]
    have HUN := Lib.hid hun
    have hun9 : un ≤ 24 := by omega
    clear ho5 hb5 hU hun HR
    go_wp2_with fail
    go_loopw [64] (fun c64 wr => ∃ j : Nat, j ≤ un ∧ c64 = .int .i64 j ∧ Hid (Below W4.heap.size W4 wr ∧ Below w5.heap.size w5 wr)) (fun c64 _ => un - (intOf c64).toNat)
    case atStart => exact ⟨0, Nat.zero_le _, rfl, HB5.out, Below.refl _ _⟩
    case round =>
      obtain ⟨j, hj, rfl, HR⟩ := hrel
      generalize wr = wB at *
      by_cases hlt : j < un
      · obtain ⟨x, hx⟩ := some_at (l := U) (i := j) (by rw [← HUN.out]; exact hlt)
        obtain ⟨a, rfl, -, ha⟩ := (HR5.out.below HR.out.2) j x hx
        have HCX := Lib.hid (HCH.out x (W' := wB) (bl_then HB0.out HR.out.1))
        clear hx
        go_wp2_with fail
        refine HCX.out.mono ?_
        rintro e w6 ⟨A6, c6, D6, d6, ll, rfl, hll, hi1, hi2, hb6⟩
        obtain ⟨W6, hW6⟩ : ∃ W6, W6 = w6.alloc (.cells #[.slice A6 ll c6, .slice D6 ll d6] 82) := ⟨_, rfl⟩
        have hbw : Below w6.heap.size w6 W6 := by rw [hW6]; exact bl_alloc (Below.refl _ _) _
        have HQ6 : Hid (W6.heap[w6.heap.size]? = some (.cells #[.slice A6 ll c6, .slice D6 ll d6] 82 (0, 0))) := by rw [hW6]; exact alloc_new _ _
        have HI6 : Hid (Ia W6 wB.heap.size 3 1 A6 ll ∧ Ia W6 wB.heap.size 51 3 D6 ll ∧ Below wB.heap.size wB W6) := ⟨hi1.below hbw, hi2.below hbw, bl_then hb6 hbw⟩
        have k0 := cell_of HQ6.out 0
        rw [hW6] at k0
        clear hi1 hi2 hb6 hbw
        go_wp2_with fail
        rw [← hW6]
        clear hW6 k0
        generalize w6.heap.size = q6 at *
        go_loopw [74] (fun c74 wr => ∃ k : Nat, k ≤ ll ∧ c74 = .int .i64 k ∧ Hid (wr.heap[q6]? = some (.cells #[.slice A6 ll c6, .slice D6 ll d6] 82 (0, 0)) ∧ Ia wr wB.heap.size 3 1 A6 ll ∧ Ia wr wB.heap.size 51 3 D6 ll ∧ Below wB.heap.size wB wr)) (fun c74 _ => ll - (intOf c74).toNat)
        case atStart => exact ⟨0, Nat.zero_le _, rfl, HQ6.out, HI6.out⟩
        case round =>
          obtain ⟨k, hk, rfl, HT⟩ := hrel
          generalize wr = wC at *
          by_cases hlt : k < ll
          · obtain ⟨q7, x7, hA7, hq7, ⟨cs7, hc7⟩, y7, f7⟩ := HT.out.2.1.at_ hlt
            obtain ⟨q8, x8, hA8, hq8, ⟨cs8, hc8⟩, y8, f8⟩ := HT.out.2.2.1.at_ hlt
            subst hA7 hA8
            have k0 := cell_of HT.out.1 0
            have k1 := cell_of HT.out.1 1
            have n76 : ¬ (q7 = q6) := fun e => by rw [e, HT.out.1] at hc7; simp at hc7
            have n78 : ¬ (q7 = q8) := fun e => by rw [e, hc8] at hc7; simp at hc7
            have HQ : Hid (q6 ≠ q7 ∧ q6 ≠ q8 ∧ wB.heap.size ≤ q7 ∧ wB.heap.size ≤ q8) := ⟨fun e => n76 e.symm, fun e => by rw [← e, HT.out.1] at hc8; simp at hc8, hq7, hq8⟩
            rw [Nat.mul_one] at y7 f7
            clear hc7 hc8 hq7 hq8
            go_wp2_with fail
            go_roundw
            case rel => exact ⟨k + 1, by omega, by go_num, set_blk (set_blk HT.out.1 (fun e => HQ.out.1 e.symm)) (fun e => HQ.out.2.1 e.symm), (HT.out.2.1.set _ _ _).set _ _ _, (HT.out.2.2.1.set _ _ _).set _ _ _, bl_set (bl_set HT.out.2.2.2 HQ.out.2.2.1 _) HQ.out.2.2.2 _⟩
            case measure => simp [intOf]; omega
          obtain rfl : k = ll := by omega
          go_wp2_with fail
          go_roundw
          case rel => exact ⟨j + 1, by omega, by go_num, bl_then HR.out.1 HT.out.2.2.2, bl_then HR.out.2 HT.out.2.2.2⟩
          case measure => simp [intOf]; omega
      obtain rfl : j = un := by omega
      have HQX := blk_bl HQ4.out HR.out.1
      have k0 := cell_of HQX 0
      have k1 := cell_of HQX 1
      have k2 := cell_of HQX 2
      have HFI : Hid (Below w.heap.size w wB) := bl_then HB4.out HR.out.1
      have HC := Lib.hid (HSA.out (bl_then HB0.out HR.out.1))
      clear HQX HR
      go_wp2_with fail
      refine HC.out.mono ?_
      rintro e w9 ⟨rfl, hb9⟩
      have HB9 := Lib.hid (bl_then HFI.out hb9)
      clear hb9
      go_wp2_with fail
      go_ret
      exact ⟨rfl, HB9.out⟩
end Go.Proofs.YtgnagbbdnlmgeaaGreat.Cm
end
section
namespace Go.Proofs.YtgnagbbdnlmgeaaGreat.Ao
open Go Go.RowKit Go.ChangeShapes Go.WideShapes Go.ChangeAt Go.Joins Go.Deep
open Ba
set_option maxHeartbeats 2000000
set_option maxRecDepth 100000
theorem own : ownKnob Tryz.prog.godebug = none := by kernel_rfl
theorem laidOut : laidOutB Tryz.prog = true := by kernel_rfl
theorem cell_plain {w : World} {a : Addr} {v : Value} (h : w.cell? a = some v) : a = ⟨a.block, a.off, none⟩ ∧ a.block < w.heap.size := by
  obtain ⟨b, o, s⟩ := a
  simp only [World.cell?] at h
  split at h
  · rename_i c e f hb
    refine ⟨?_, (Array.getElem?_eq_some_iff.1 hb).1⟩
    cases s with
    | none => rfl
    | some _ => simp at h
  · cases h
theorem int_wf {k : IntKind} {n : Int} (h : (Lit.int k n).wf = true) : k.min ≤ n ∧ n ≤ k.max := by
  simpa [Lit.wf] using h
theorem u8_open {H : Type} {enc : TypeId × Value → H} {w : World} {fuel : Nat} {v : Value} {x : DataW H × List MemPlace} (h : DataW.trod enc Tryz.prog w 0 (fun _ => true) true fuel 5 [v] = some x) : ∃ n : Nat, v = .int .u8 n ∧ n < 256 := by
  obtain ⟨k, e0, _, w0⟩ := DataW.trod_int Tryz.underlying5 h
  simp only [List.cons.injEq, and_true] at e0
  have b0 := int_wf w0
  simp [IntKind.min, IntKind.max, IntKind.bits, IntKind.signed] at b0
  exact ⟨k.toNat, by rw [e0, Int.toNat_of_nonneg b0.1], by omega⟩
end Go.Proofs.YtgnagbbdnlmgeaaGreat.Ao
end
section
namespace Go.Proofs.YtgnagbbdnlmgeaaGreat.Ao
open Go Go.RowKit Go.ChangeShapes Go.WideShapes Go.ChangeAt Go.Joins Go.Deep
open Ba
set_option maxHeartbeats 2000000
set_option maxRecDepth 100000
theorem words_openN {H : Type} {enc : TypeId × Value → H} {w : World} {fuel : Nat} {cs : List Value} {x : DataW H × List MemPlace} (h : DataW.trod enc Tryz.prog w 0 (fun _ => true) true fuel 22 cs = some x) :
    ∃ (A : Option Addr) (l : List Nat) (c : Nat), cs = [.slice A l.length c] ∧ Rk .u64 w A (l.map fun (x : Nat) => (x : Int)) ∧ (∀ x ∈ l, x < 18446744073709551616) ∧ l.length ≤ 9223372036854775807 := by
  rcases open_ints Tryz.underlying22 Tryz.underlying94 (by kernel_rfl) h with ⟨hcs, _⟩ | ⟨a, l, c, zs, hcs, _, hl, hm, hz, _, hcell, hwz⟩
  · exact ⟨none, [], 0, hcs, Rk.nil _ _ _, by simp, by decide⟩
  · simp only [if_true] at hz
    have hlen : (zs.take l).length = l := by rw [List.length_take]; omega
    have hwf : ∀ z ∈ zs, 0 ≤ z ∧ z ≤ 18446744073709551615 := fun z hz => by
      have h := int_wf (hwz z hz)
      simp [IntKind.min, IntKind.max, IntKind.bits, IntKind.signed] at h
      exact h
    refine ⟨some a, (zs.take l).map Int.toNat, c, by rw [List.length_map, hlen]; exact hcs, ?_, ?_, by rw [List.length_map, hlen]; unfold maxLen at hm; omega⟩
    · intro i z hx
      simp only [List.getElem?_map, Option.map_eq_some_iff, List.map_map, Function.comp] at hx
      obtain ⟨y, hy, rfl⟩ := hx
      obtain ⟨hi, hz2⟩ := List.getElem?_eq_some_iff.1 hy
      rw [List.getElem_take] at hz2
      simp only [List.length_take] at hi
      have hi2 : i < zs.length := by omega
      have hci := hcell i hi2
      obtain ⟨p1, p2⟩ := cell_plain hci
      refine ⟨a, rfl, by rw [add_block] at p2; exact p2, ?_⟩
      rw [hci, List.getD_eq_getElem?_getD, List.getElem?_eq_getElem hi2, hz2]
      have := hwf y (by rw [← hz2]; exact List.getElem_mem _)
      simp only [Option.getD_some]
      rw [Int.toNat_of_nonneg this.1]
    · intro x hx
      simp only [List.mem_map] at hx
      obtain ⟨z, hz, rfl⟩ := hx
      have := hwf z (List.mem_of_mem_take hz)
      omega
theorem raw_openN {H : Type} {enc : TypeId × Value → H} {w : World} {b0 : Nat} {v : Value} {d : DataW H} {p : List MemPlace} (hv : Value.okWide Tryz.prog w .any b0 24 v) (h : DataW.Trod enc Tryz.prog w 0 (fun _ => true) true 24 v d p) :
    ∃ (r0 r1 r2 : Nat) (A : Option Addr) (l : List Nat) (c : Nat), v = .agg #[.int .u8 r0, .int .u8 r1, .int .u8 r2, .slice A l.length c] ∧ r0 < 256 ∧ r1 < 256 ∧ r2 < 256 ∧ Rk .u64 w A (l.map fun (x : Nat) => (x : Int)) ∧ (∀ x ∈ l, x < 18446744073709551616) ∧ l.length ≤ 9223372036854775807 := by
  obtain ⟨v0, v1, v2, v3, y0, y1, y2, y3, n, rfl, -, -, t0, t1, t2, t3⟩ := open_agg4 Tryz.underlying24 (by kernel_rfl) (by kernel_rfl) hv h
  obtain ⟨r0, rfl, h0⟩ := u8_open t0
  obtain ⟨r1, rfl, h1⟩ := u8_open t1
  obtain ⟨r2, rfl, h2⟩ := u8_open t2
  obtain ⟨A, l, c, e3, hr, hlt, hl⟩ := words_openN t3
  simp only [List.cons.injEq, and_true] at e3
  subst e3
  exact ⟨r0, r1, r2, A, l, c, rfl, h0, h1, h2, hr, hlt, hl⟩
end Go.Proofs.YtgnagbbdnlmgeaaGreat.Ao
end
