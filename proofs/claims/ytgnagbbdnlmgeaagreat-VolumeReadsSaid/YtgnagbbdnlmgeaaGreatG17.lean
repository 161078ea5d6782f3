/- Parts of the proof, one behind the other: Ji, Ao, Aq. -/
import Derived.Test.YtgnagbbdnlmgeaaGreatG16
import Derived.Test.YtgnagbbdnlmgeaaGreatG15
import Derived.Test.YtgnagbbdnlmgeaaGreatG01
import Derived.Test.YtgnagbbdnlmgeaaGreatRows
import Derived.ProofKit
import Derived.OpenShut
import Derived.ShutString
import Derived.ChangeOld
import Derived.Below
import Derived.Lib.SmallJoins
import Derived.Deep.Slices
import Derived.Deep.Fields
import Derived.ChangeSame

/- VolumeReads: the walk. -/
section
set_option linter.unusedVariables false
set_option linter.unusedSimpArgs false
set_option maxHeartbeats 4000000
set_option maxRecDepth 100000
namespace Go.Proofs.YtgnagbbdnlmgeaaGreat.Ji
open Go Go.RowKit
open Go.Proofs.YtgnagbbdnlmgeaaGreat.Ob Go.Proofs.YtgnagbbdnlmgeaaGreat.Ba Go.Proofs.YtgnagbbdnlmgeaaGreat.Ko Go.Proofs.YtgnagbbdnlmgeaaGreat.Ge Go.Proofs.YtgnagbbdnlmgeaaGreat.Oc Go.Proofs.YtgnagbbdnlmgeaaGreat.Pk Go.Proofs.YtgnagbbdnlmgeaaGreat.Su Go.Proofs.YtgnagbbdnlmgeaaGreat.Rf Go.Proofs.YtgnagbbdnlmgeaaGreat.Dv Go.Proofs.YtgnagbbdnlmgeaaGreat.Vo Go.Proofs.YtgnagbbdnlmgeaaGreat.Ra Go.Proofs.YtgnagbbdnlmgeaaGreat.Lo Go.Proofs.YtgnagbbdnlmgeaaGreat.Li Go.Proofs.YtgnagbbdnlmgeaaGreat.Vs Go.Proofs.YtgnagbbdnlmgeaaGreat.In Go.Proofs.YtgnagbbdnlmgeaaGreat.Iq Go.Proofs.YtgnagbbdnlmgeaaGreat.Je Go.Proofs.YtgnagbbdnlmgeaaGreat.Jd Go.Proofs.YtgnagbbdnlmgeaaGreat.Bm Go.Proofs.YtgnagbbdnlmgeaaGreat.R0 Go.Proofs.YtgnagbbdnlmgeaaGreat.Rj Go.Proofs.YtgnagbbdnlmgeaaGreat.Jh Go.Proofs.YtgnagbbdnlmgeaaGreat.Cc Go.Proofs.YtgnagbbdnlmgeaaGreat.Cr

structure Bl (w W : World) : Prop where
  below : Below w.heap.size w W
theorem c3 {W : World} {b T : Nat} {x y z : Value} {fr : Nat × Nat} (h : W.heap[b]? = some (.cells #[x, y, z] T fr)) : W.cell? ⟨b, 0, none⟩ = some x ∧ W.cell? ⟨b, 1, none⟩ = some y ∧ W.cell? ⟨b, 2, none⟩ = some z :=
  ⟨cell_of h 0, cell_of h 1, cell_of h 2⟩
theorem c4 {W : World} {b T : Nat} {x y z t : Value} {fr : Nat × Nat} (h : W.heap[b]? = some (.cells #[x, y, z, t] T fr)) : W.cell? ⟨b, 0, none⟩ = some x ∧ W.cell? ⟨b, 1, none⟩ = some y ∧ W.cell? ⟨b, 2, none⟩ = some z ∧ W.cell? ⟨b, 3, none⟩ = some t :=
  ⟨cell_of h 0, cell_of h 1, cell_of h 2, cell_of h 3⟩
theorem c9 {W : World} {b T : Nat} {x0 x1 x2 x3 x4 x5 x6 x7 x8 : Value} {fr : Nat × Nat} (h : W.heap[b]? = some (.cells #[x0, x1, x2, x3, x4, x5, x6, x7, x8] T fr)) : W.cell? ⟨b, 0, none⟩ = some x0 ∧ W.cell? ⟨b, 1, none⟩ = some x1 ∧ W.cell? ⟨b, 2, none⟩ = some x2 ∧ W.cell? ⟨b, 3, none⟩ = some x3 ∧ W.cell? ⟨b, 4, none⟩ = some x4 ∧ W.cell? ⟨b, 5, none⟩ = some x5 ∧ W.cell? ⟨b, 6, none⟩ = some x6 ∧ W.cell? ⟨b, 7, none⟩ = some x7 ∧ W.cell? ⟨b, 8, none⟩ = some x8 :=
  ⟨cell_of h 0, cell_of h 1, cell_of h 2, cell_of h 3, cell_of h 4, cell_of h 5, cell_of h 6, cell_of h 7, cell_of h 8⟩

def cd (i q : Int) : Int := if i < 0 ∨ q ≤ i then 9 else 2
theorem cd_ne (i q : Int) : (cd i q == 0) = false := by
  unfold cd
  split <;> rfl
theorem code_cd (i q : Int) (W : World) : Calls Tryz.prog 24 #[.int .i64 i, .int .i64 q] W fun e w' => e = .returned (.int .i64 (cd i q)) ∧ w' = W := code_ i q W

/-- what the walk needs of the opened volume, at every later world -/
structure Facts (W2 : World) (v b n m s p3 p4 p5 T c8 : Nat) (a8 : Addr) (ws : List Nat) (i : Int) (VV : Value) : Prop where
  geo : ∀ {W : World}, Below W2.heap.size W2 W → Calls Tryz.prog 14 #[.pointer (some ⟨v, 0, none⟩)] W fun e w' => e = .returned (.agg #[.int .i64 n, .int .i64 m, .int .i64 s]) ∧ Below W.heap.size W w'
  dev : ∀ {W : World}, Below W2.heap.size W2 W → Calls Tryz.prog 16 #[.pointer (some ⟨v, 0, none⟩)] W fun e w' => e = .returned (.pointer (some ⟨b, 0, none⟩)) ∧ w' = W
  words : ∀ {W : World}, Below W2.heap.size W2 W → Calls Tryz.prog 18 #[.pointer (some ⟨b, 0, none⟩)] W fun e w' => ∃ A c, e = .returned (.slice A T c) ∧ Rk .u64 w' A (ints ws) ∧ Below W.heap.size W w'
  same : ∀ {W : World} {A : Option Addr} (c : Nat), Below W2.heap.size W2 W → Rk .u64 W A (ints ws) → Calls Tryz.prog 17 #[.slice A T c, .slice (some a8) T c8] W fun e w' => e = .returned (.bool true) ∧ Below W.heap.size W w'

theorem walk (r0 r1 r2 : Nat) (h0 : r0 < 256) (h1 : r1 < 256) (h2 : r2 < 256) {A : Option Addr} {l : List Nat} (c : Nat) {w : World} (h : Rk .u64 w A (ints l)) (hlw : ∀ x ∈ l, x < 18446744073709551616) (hl9 : l.length ≤ 9223372036854775807) (i : Int) (hi9 : -9223372036854775808 ≤ i ∧ i ≤ 9223372036854775807) :
    Calls Tryz.prog 3 #[.agg #[.int .u8 r0, .int .u8 r1, .int .u8 r2, .slice A l.length c], .int .i64 i] w fun e w' => e = .returned (.bool true) ∧ Below w.heap.size w w' := by
  have hu := Tryz.underlying30
  have hu2 := Tryz.underlying24
  have hu3 := Tryz.underlying42
  have hu4 := Tryz.underlying47
  have hu5 := Tryz.underlying51
  have hu6 := Tryz.underlying54
  have hu7 := Tryz.underlying70
  have hu8 := Tryz.underlying74
  have hu9 := Tryz.underlying34
  obtain ⟨n, hn⟩ : ∃ n, n = gB r0 := ⟨_, rfl⟩
  obtain ⟨m, hm⟩ : ∃ m, m = gB r1 := ⟨_, rfl⟩
  obtain ⟨s, hs⟩ : ∃ s, s = gS r2 := ⟨_, rfl⟩
  have htt := g_tot r0 r1 r2
  rw [← hn, ← hm, ← hs] at htt
  obtain ⟨T, hT⟩ : ∃ T : Nat, (T : Int) = tot n m s := ⟨(tot n m s).toNat, by omega⟩
  have hT1 : Hid (40 ≤ T ∧ T ≤ 1000) := by show _ ∧ _; omega
  have hnn : 1 ≤ n ∧ n ≤ 20 := by have := gB_in r0; omega
  have hmm : m ≤ 20 := by have := gB_in r1; omega
  have hss : s = 64 ∨ s = 128 := by have := gS_or r2; omega
  obtain ⟨p3, hp3⟩ : ∃ p3 : Nat, (p3 : Int) = bmAt n m := ⟨(bmAt n m).toNat, by unfold bmAt up8; omega⟩
  obtain ⟨p4, hp4⟩ : ∃ p4 : Nat, (p4 : Int) = bkAt n m := ⟨(bkAt n m).toNat, by unfold bkAt up8; omega⟩
  obtain ⟨p5, hp5⟩ : ∃ p5 : Nat, (p5 : Int) = tot n m s := ⟨T, hT⟩
  have hfit : Hid (16 + 8 * (m : Int) + n ≤ T ∧ p3 + 1 ≤ T ∧ ∀ i : Nat, i < n → p4 + i * (s / 8) + s / 8 ≤ T) := by
    have e1 : up8 (((n : Int) + 63) / 64) = 8 := by rw [show ((n : Int) + 63) / 64 = 1 from by omega]; decide
    have e2 : tot n m s = bkAt n m + n * ((s : Int) / 8) := rfl
    have e3 : bkAt n m = bmAt n m + up8 (((n : Int) + 63) / 64) := rfl
    have e4 : bmAt n m = 16 + 8 * m + up8 n := rfl
    have e5 : (n : Int) ≤ up8 n := by unfold up8; omega
    have e6 : 0 ≤ (n : Int) * ((s : Int) / 8) := Int.mul_nonneg (by omega) (by omega)
    refine ⟨by omega, by omega, fun i hi => ?_⟩
    rcases hss with rfl | rfl
    · omega
    · omega
  obtain ⟨ws, hws, hwlt⟩ := dws_nat (enc n m s) l T (Su.enc_lt (by omega) (by omega) (by omega)) hlw
  have hLEN : ws.length = T := by
    have := dws_length (ints (enc n m s)) (ints l) T rfl (by have := hT1.out; omega)
    rw [hws, ints_length] at this
    exact this
  have HO : Hid (∀ {W : World}, Rk .u64 W A (ints l) → _) := fun {W} hW => open_ r0 r1 r2 h0 h1 h2 c (w := W) hW (by rw [ints_length]; exact hl9) n m s T hn hm hs hT
  rw [hws, ints_length] at HO
  have HV : Hid (∀ v, vcells n m s v = #[.int .i64 n, .int .i64 m, .int .i64 s, .int .i64 16, .int .i64 (16 + 8 * m), .int .i64 (bmAt n m), .int .i64 (bkAt n m), .int .i64 (tot n m s), v]) := fun _ => rfl
  rw [← hp3, ← hp4, ← hp5] at HV
  have HGEO : Hid (∀ W, Calls Tryz.prog 15 #[.agg #[.int .u8 r0, .int .u8 r1, .int .u8 r2, .slice A l.length c]] W fun e w' => e = .returned (.agg #[.int .i64 n, .int .i64 m, .int .i64 s]) ∧ Below W.heap.size W w') := fun W => by
    rw [hn, hm, hs]
    exact geometry_ r0 r1 r2 h0 h1 h2 A l.length c W
  have H := Lib.hid h
  have HP := Lib.hid (And.intro hp3 (And.intro hp4 hp5))
  have HWL := Lib.hid (And.intro hwlt hLEN)
  have HSS := Lib.hid hss
  have HNM := Lib.hid (And.intro hnn hmm)
  generalize vcells n m s = vc at *
  obtain ⟨len, hle⟩ : ∃ len, len = l.length := ⟨_, rfl⟩
  rw [← hle] at HO HGEO
  rw [← hle]
  clear h hlw hl9 hn hm hs hT htt h0 h1 h2 hle hp3 hp4 hp5 hws hwlt hLEN hss hnn hmm
  go_enter Tryz.func3, Tryz.ntmps3
  go_wp2_with fail
  refine (lives15 _).mono ?_
  rintro e w1 ⟨rfl, hb1⟩
  have hqr := blk_bl (alloc_new w (.cells #[.int .u8 r0, .int .u8 r1, .int .u8 r2, .slice A len c] 24)) hb1
  have HS1 := Lib.hid hqr
  have HB1 := Lib.hid (bl_then (bl_alloc (Below.refl _ _) _) hb1)
  have HZ1 : Hid (w.heap.size + 1 ≤ w1.heap.size) := by have := hb1.size; rw [World.size_alloc] at this; exact this
  have a0 := cell_of hqr 0
  have a1 := cell_of hqr 1
  have a2 := cell_of hqr 2
  have a3 := cell_of hqr 3
  clear hqr hb1
  go_wp2_with fail
  refine (HO.out (H.out.below HB1.out)).mono ?_
  rintro e w2 ⟨v, b, g, vw, rfl, hop⟩
  obtain ⟨A8, c8, e8⟩ := own_slice hop.row
  subst e8
  rw [HV.out]
  obtain ⟨a8, ha8⟩ : ∃ a8, A8 = some a8 := by
    obtain ⟨u, hu9⟩ := some_at (l := ints ws) (i := 0) (by rw [ints_length, HWL.out.2]; have := hT1.out; omega)
    obtain ⟨a', ha', -, -⟩ := (own_rk (k := .u64) hop.row).1 0 u hu9
    exact ⟨a', ha'⟩
  subst ha8
  obtain ⟨W2, hW2⟩ : ∃ W2, W2 = w2.alloc (.cells #[.int .i64 n, .int .i64 m, .int .i64 s, .int .i64 16, .int .i64 (16 + 8 * m), .int .i64 p3, .int .i64 p4, .int .i64 p5, .slice (some a8) T c8] 30) := ⟨_, rfl⟩
  have hbW : Below w2.heap.size w2 W2 := by rw [hW2]; exact bl_alloc (Below.refl _ _) _
  have HVOL : Hid (W2.heap[w2.heap.size]? = some (.cells #[.int .i64 n, .int .i64 m, .int .i64 s, .int .i64 16, .int .i64 (16 + 8 * m), .int .i64 p3, .int .i64 p4, .int .i64 p5, .slice (some a8) T c8] 30 (0, 0))) := by show _ = _; rw [hW2]; exact alloc_new _ _
  have hrk := (own_rk (k := .u64) hop.row).1.below hbW
  have hcap := (own_rk (k := .u64) hop.row).2.2
  have hvo := hop.vol.below hbW
  have HS2 := Lib.hid (blk_bl (blk_bl HS1.out hop.below) hbW)
  have HB2 := Lib.hid (bl_then (bl_then HB1.out hop.below) hbW)
  have hfx : Hid (Facts W2 v b n m s p3 p4 p5 T c8 a8 ws i (.agg #[.int .i64 n, .int .i64 m, .int .i64 s, .int .i64 16, .int .i64 (16 + 8 * m), .int .i64 p3, .int .i64 p4, .int .i64 p5, .slice (some a8) T c8])) := by
    refine ⟨fun hb => geom_ (hvo.below hb), fun hb => Vo.device_ (hvo.below hb), fun {W} hb => ?_, fun {W} {A} c hb hA => ?_⟩
    · refine (Pm.words_any (hvo.below hb).dev (las_some hvo.dev (by show 1 ≤ (ints ws).length; rw [ints_length, HWL.out.2]; have := hT1.out; omega))).mono ?_
      rintro e w' ⟨v', rfl, hown, hb'⟩
      obtain ⟨A', c', rfl⟩ := own_slice hown
      have e9 : (Pm.devOf (ints ws)).las.length = T := by show (ints ws).length = T; rw [ints_length, HWL.out.2]
      rw [words_devOf, e9] at hown
      rw [e9]
      exact ⟨A', c', rfl, (own_rk (k := .u64) hown).1, hb'⟩
    · have h9 := Pm.same_words (show Pm.Rd W A (ints ws) from hA) (show Pm.Rd W (some a8) (ints ws) from hrk.below hb) c c8 (by rw [ints_length, HWL.out.2]; have := hT1.out; omega) (by rw [ints_length, HWL.out.2]; have := hT1.out; omega)
      rw [ints_length, HWL.out.2, decide_eq_true rfl] at h9
      refine h9.mono ?_
      rintro e w' ⟨rfl, q, rfl⟩
      exact ⟨rfl, bl_drewN (Below.refl _ _) q⟩
  obtain ⟨x6, y6, z6, is6, e6, hk6, hp6, hq6⟩ := inode_pair hvo hrk HWL.out.2 hcap HWL.out.1 (by have := hT1.out; omega) (by have := hfit.out; omega) (16 + 8 * (m : Int)) p3 p4 p5 i
  obtain ⟨x7, y7, z7, is7, e7, hk7, hp7, hq7⟩ := slot_pair hvo hrk HWL.out.2 hcap HWL.out.1 (by have := hT1.out; omega) (by have := hfit.out; omega) p3 p4 p5 i
  obtain ⟨x9, y9, z9, t9, u9, hp9, hq9⟩ := record_pair hvo hrk HWL.out.2 hcap HWL.out.1 (by have := hT1.out; omega) (by have := hT1.out; omega) (16 + 8 * (m : Int)) p3 p4 p5
  have HI6 : Hid (∀ {W : World}, Below W2.heap.size W2 W → _) := @hp6
  have HJ6 : Hid (∀ {W : World}, Below W2.heap.size W2 W → _) := @hq6
  have HI7 : Hid (∀ {W : World}, Below W2.heap.size W2 W → _) := @hp7
  have HJ7 : Hid (∀ {W : World}, Below W2.heap.size W2 W → _) := @hq7
  have HI9 : Hid (∀ {W : World}, Below W2.heap.size W2 W → _) := @hp9
  have HJ9 : Hid (∀ {W : World}, Below W2.heap.size W2 W → _) := @hq9
  obtain ⟨xb, hxb⟩ := some_at (l := ws) (i := p3) (by have := hfit.out.2.1; rw [HWL.out.2]; omega)
  have hxb9 := HWL.out.1 xb (List.mem_of_getElem? hxb)
  have HBM : Hid (∀ {W : World}, Below W2.heap.size W2 W → Calls Tryz.prog 27 #[.pointer (some ⟨v, 0, none⟩)] W fun e w' => BmIs xb n W.heap.size e w' ∧ Below W.heap.size W w') := fun {W} hb => bm_get (hvo.below hb) HNM.out.1.1 (by have := HNM.out; omega) p3 HP.out.1 (by have := hfit.out; have := hT1.out; omega) xb (devOf_load (ints_get hxb)) hxb9
  have HRB : Hid (∀ {W : World}, Below W2.heap.size W2 W → Calls Tryz.prog 28 #[.agg #[.int .i64 n, .int .i64 m, .int .i64 s, .int .i64 16, .int .i64 (16 + 8 * m), .int .i64 p3, .int .i64 p4, .int .i64 p5, .slice (some a8) T c8]] W fun e w' => (xb / 2 ^ n = 0 → ∃ v, e = .returned (.tuple #[v, .bool true]) ∧ w'.ownsRow W.heap.size 4 1 v n (bvs (bitsOf xb n))) ∧ (xb / 2 ^ n ≠ 0 → e = .returned (.tuple #[.slice none 0 0, .bool false])) ∧ Below W.heap.size W w') := fun {W} hb => r15bitmap_ (hrk.below hb) HWL.out.2 hcap HWL.out.1 n m s (16 + 8 * m) p3 p4 p5 HNM.out.1.1 (by have := HNM.out; omega) hfit.out.2.1 (by have := hT1.out; omega) xb hxb
  have HBO : Hid (∀ {W : World}, (i < 0 ∨ (n : Int) ≤ i) → Below W2.heap.size W2 W → Calls Tryz.prog 25 #[.pointer (some ⟨v, 0, none⟩), .int .i64 i] W fun e w' => e = .returned (.tuple #[.slice none 0 0, .int .i64 9]) ∧ Below W.heap.size W w') := fun {W} hi hb => block_out (hvo.below hb) i hi
  obtain ⟨S0, hS0⟩ : ∃ S0, S0 = txt (octs ((ws.drop (p4 + i.toNat * (s / 8))).take (s / 8))) := ⟨_, rfl⟩
  have HBI : Hid (∀ {W : World}, (0 ≤ i ∧ i < (n : Int)) → Below W2.heap.size W2 W → Calls Tryz.prog 25 #[.pointer (some ⟨v, 0, none⟩), .int .i64 i] W fun e w' => ∃ A c, e = .returned (.tuple #[.slice A s c, .int .i64 0]) ∧ (∀ W', Bl w' W' → (convert 59 9 (.slice A s c)).run Tryz.prog W' = .ok (.string S0) W') ∧ Below W.heap.size W w') := fun {W} hi hb => by
    have hf := hfit.out.2.2 i.toNat (by omega)
    have hT9 := hT1.out
    have hl8 : ((ws.drop (p4 + i.toNat * (s / 8))).take (s / 8)).length = s / 8 := by rw [List.length_take, List.length_drop, HWL.out.2]; omega
    have hd := lds_sub (ws := ws) (k := p4 + i.toNat * (s / 8)) (n := s / 8) (by rw [HWL.out.2]; omega)
    have hs8 : 8 * (s / 8) = s := by rcases HSS.out with rfl | rfl <;> rfl
    have hk : ((p4 + i.toNat * (s / 8) : Nat) : Int) = bkAt n m + i * ((s : Int) / 8) := by
      rw [← HP.out.2.1]
      have e1 : (i.toNat : Int) = i := by omega
      rw [Int.natCast_add, Int.natCast_mul, e1]
      norm_cast
    refine (block_get (hvo.below hb) i hi _ hk (by omega) ((ws.drop (p4 + i.toNat * (s / 8))).take (s / 8)) (by rw [hl8]; exact hd) (fun x hx => HWL.out.1 x (List.mem_of_mem_drop (List.mem_of_mem_take hx))) (by rw [hl8]; omega) (by rw [hl8]; omega)).mono ?_
    rintro e w' ⟨v', rfl, hown, hb'⟩
    rw [hl8, hs8] at hown
    obtain ⟨A', c', rfl⟩ := own_slice hown
    refine ⟨A', c', rfl, fun W' hb9 => ?_, hb'⟩
    rw [hS0]
    exact conv_own (own_bl hown hb9.below)
  have HRBK : Hid (∀ {W : World}, (0 ≤ i ∧ i < (n : Int)) → Below W2.heap.size W2 W → Calls Tryz.prog 26 #[.agg #[.int .i64 n, .int .i64 m, .int .i64 s, .int .i64 16, .int .i64 (16 + 8 * m), .int .i64 p3, .int .i64 p4, .int .i64 p5, .slice (some a8) T c8], .int .i64 i] W fun e w' => e = .returned (.string S0) ∧ Below W.heap.size W w') := fun {W} hi hb => by
    have h9 := r15block_ (hrk.below hb) HWL.out.2 hcap HWL.out.1 n m (16 + 8 * m) p3 p4 p5 s HSS.out i.toNat (by have := HNM.out; omega) (p4 + i.toNat * (s / 8)) rfl (hfit.out.2.2 i.toNat (by omega)) (by have := hT1.out; omega)
    rw [show ((i.toNat : Nat) : Int) = i from by omega, ← hS0] at h9
    exact h9
  have HXB : Hid (xb / 2 ^ n = 0 → xb < 2 ^ n) := fun h => by
    rcases Nat.lt_or_ge xb (2 ^ n) with h9 | h9
    · exact h9
    · have := (Nat.div_pos_iff (a := xb) (b := 2 ^ n)).2 ⟨Nat.two_pow_pos n, h9⟩
      omega
  clear hS0 hxb hxb9
  have HRK := Lib.hid hrk
  have HVO := Lib.hid hvo
  have HCAP := Lib.hid hcap
  have HW2 := Lib.hid hW2
  have HK6 := Lib.hid hk6
  have HK7 := Lib.hid hk7
  have HLT : Hid (w2.heap.size < W2.heap.size ∧ w.heap.size < W2.heap.size) := ⟨lt_of HVOL.out, lt_of HS2.out⟩
  clear hop a0 a1 a2 a3 hbW hW2 hrk hcap hvo hp6 hq6 hp7 hq7 hp9 hq9 hk6 hk7
  go_wp2_with fail
  rw [← HW2.out]
  have hst : W2.drew.cell? ⟨w.heap.size, 0, none⟩ = some (.int .u8 r0) ∧ W2.drew.cell? ⟨w.heap.size, 1, none⟩ = some (.int .u8 r1) ∧ W2.drew.cell? ⟨w.heap.size, 2, none⟩ = some (.int .u8 r2) ∧ W2.drew.cell? ⟨w.heap.size, 3, none⟩ = some (.slice A len c) ∧ W2.drew.cell? ⟨w2.heap.size, 8, none⟩ = some (.slice (some a8) T c8) ∧ Bl W2 W2.drew := ⟨cell_of HS2.out 0, cell_of HS2.out 1, cell_of HS2.out 2, cell_of HS2.out 3, cell_of HVOL.out 8, ⟨bl_drew (Below.refl _ _)⟩⟩
  have HST := Lib.hid hst
  have hkeep : ∀ {W W' : World}, (W.cell? ⟨w.heap.size, 0, none⟩ = some (.int .u8 r0) ∧ W.cell? ⟨w.heap.size, 1, none⟩ = some (.int .u8 r1) ∧ W.cell? ⟨w.heap.size, 2, none⟩ = some (.int .u8 r2) ∧ W.cell? ⟨w.heap.size, 3, none⟩ = some (.slice A len c) ∧ W.cell? ⟨w2.heap.size, 8, none⟩ = some (.slice (some a8) T c8) ∧ Bl W2 W) → Below W.heap.size W W' → W'.cell? ⟨w.heap.size, 0, none⟩ = some (.int .u8 r0) ∧ W'.cell? ⟨w.heap.size, 1, none⟩ = some (.int .u8 r1) ∧ W'.cell? ⟨w.heap.size, 2, none⟩ = some (.int .u8 r2) ∧ W'.cell? ⟨w.heap.size, 3, none⟩ = some (.slice A len c) ∧ W'.cell? ⟨w2.heap.size, 8, none⟩ = some (.slice (some a8) T c8) ∧ Bl W2 W' := by
    rintro W W' ⟨-, -, -, -, -, ⟨hb⟩⟩ hb'
    have h9 := bl_then hb hb'
    have q1 := blk_bl HS2.out h9
    have q2 := blk_bl HVOL.out h9
    exact ⟨cell_of q1 0, cell_of q1 1, cell_of q1 2, cell_of q1 3, cell_of q2 8, ⟨h9⟩⟩
  have HKP : Hid (∀ {W W' : World}, _) := @hkeep
  clear hst hkeep
  go_region_held3 (fun w' => w'.cell? ⟨w.heap.size, 0, none⟩ = some (.int .u8 r0) ∧ w'.cell? ⟨w.heap.size, 1, none⟩ = some (.int .u8 r1) ∧ w'.cell? ⟨w.heap.size, 2, none⟩ = some (.int .u8 r2) ∧ w'.cell? ⟨w.heap.size, 3, none⟩ = some (.slice A len c) ∧ w'.cell? ⟨w2.heap.size, 8, none⟩ = some (.slice (some a8) T c8) ∧ Bl W2 w')
    (first | assumption | exact HST.out | exact HKP.out ‹_› ‹_›)
    (first | (go_at_call 14; refine (hfx.out.geo (bl_drew (Below.refl _ _))).mono ?_; rintro e w3 ⟨rfl, hb3⟩; (have HB3 := Lib.hid (bl_then (w1 := W2.drew) (bl_drew (Below.refl _ _)) hb3))) |
      (go_at_call 15; refine (HGEO.out _).mono ?_; rintro e w4 ⟨rfl, hb4⟩; (have HB4 := Lib.hid (bl_then HB3.out hb4))) |
      (go_at_call 16; refine (hfx.out.dev HB4.out).mono ?_; rintro e wd ⟨rfl, rfl⟩) |
      (go_at_call 18; refine (hfx.out.words HB4.out).mono ?_; rintro e w5 ⟨A5, c5, rfl, hr5, hb5⟩; (have HB5 := Lib.hid (bl_then HB4.out hb5)); (have HR5 := Lib.hid hr5); clear hr5) |
      (go_at_call 17; refine (hfx.out.same _ HB5.out HR5.out).mono ?_; rintro e w6 ⟨rfl, hb6⟩; (have HB6 := Lib.hid (bl_then HB5.out hb6))))
  go_wp2_with fail
  clear hu9
  refine (HI6.out HB6.out).mono ?_
  rintro e w7 ⟨rfl, hb7⟩
  have HB7 := Lib.hid (bl_then HB6.out hb7)
  have hv7 := blk_bl HVOL.out HB7.out
  obtain ⟨m0, m1, m2, m3, m4, m5, m6, m7, m8⟩ := c9 hv7
  have lt7 := lt_of hv7
  clear hb7 hv7
  go_wp2_with fail
  refine (HJ6.out (bl_alloc HB7.out _)).mono ?_
  rintro e w8 ⟨rfl, hb8⟩
  have HB8 := Lib.hid (bl_then (bl_alloc HB7.out _) hb8)
  have HX7 := Lib.hid (blk_bl (alloc_new w7 (.cells #[.int .i64 x6, .int .i64 y6, .int .i64 z6] 42)) hb8)
  clear hb8 m0 m1 m2 m3 m4 m5 m6 m7 m8 lt7
  go_wp2_with fail
  refine (HI7.out (bl_alloc HB8.out _)).mono ?_
  rintro e w9 ⟨rfl, hb9⟩
  have HB9 := Lib.hid (bl_then (bl_alloc HB8.out _) hb9)
  have HX8 := Lib.hid (blk_bl (alloc_new w8 (.cells #[.int .i64 x6, .int .i64 y6, .int .i64 z6] 47)) hb9)
  have HY7 := Lib.hid (blk_bl HX7.out (bl_then (bl_alloc (Below.refl _ _) _) hb9))
  have hv9 := blk_bl HVOL.out HB9.out
  obtain ⟨m0, m1, m2, m3, m4, m5, m6, m7, m8⟩ := c9 hv9
  have lt9 := lt_of hv9
  clear hb9 hv9
  go_wp2_with fail
  refine (HJ7.out (bl_alloc HB9.out _)).mono ?_
  rintro e w10 ⟨rfl, hb10⟩
  have HB10 := Lib.hid (bl_then (bl_alloc HB9.out _) hb10)
  have HX9 := Lib.hid (blk_bl (alloc_new w9 (.cells #[.int .i64 x7, .int .i64 y7, .int .i64 z7] 51)) hb10)
  have HY8 := Lib.hid (blk_bl HX8.out (bl_then (bl_alloc (Below.refl _ _) _) hb10))
  have HZ7 := Lib.hid (blk_bl HY7.out (bl_then (bl_alloc (Below.refl _ _) _) hb10))
  clear hb10 m0 m1 m2 m3 m4 m5 m6 m7 m8 lt9
  obtain ⟨W10, hW10⟩ : ∃ W10, W10 = w10.alloc (.cells #[.int .i64 x7, .int .i64 y7, .int .i64 z7] 54) := ⟨_, rfl⟩
  have hbw : Below w10.heap.size w10 W10 := by rw [hW10]; exact bl_alloc (Below.refl _ _) _
  have HXA : Hid (W10.heap[w10.heap.size]? = some (.cells #[.int .i64 x7, .int .i64 y7, .int .i64 z7] 54 (0, 0))) := by show _ = _; rw [hW10]; exact alloc_new _ _
  have HX99 := Lib.hid (blk_bl HX9.out hbw)
  have HX88 := Lib.hid (blk_bl HY8.out hbw)
  have HX77 := Lib.hid (blk_bl HZ7.out hbw)
  have HBA := Lib.hid (bl_then HB10.out hbw)
  have HWA := Lib.hid hW10
  have HQ6 : Hid ((is6 = true ∧ e6 = 0) ∨ (is6 = false ∧ e6 = cd i m ∧ (cd i m == 0) = false)) := by
    rcases HK6.out with h | ⟨h, h2⟩
    · exact .inl h
    · exact .inr ⟨h, h2, cd_ne i m⟩
  have HQ7 : Hid ((is7 = true ∧ e7 = 0) ∨ (is7 = false ∧ e7 = cd i n ∧ (cd i n == 0) = false)) := by
    rcases HK7.out with h | ⟨h, h2⟩
    · exact .inl ⟨h.1, h.2.1⟩
    · exact .inr ⟨h, h2, cd_ne i n⟩
  have hst : W10.drew.cell? ⟨w7.heap.size, 0, none⟩ = some (.int .i64 x6) ∧ W10.drew.cell? ⟨w7.heap.size, 1, none⟩ = some (.int .i64 y6) ∧ W10.drew.cell? ⟨w7.heap.size, 2, none⟩ = some (.int .i64 z6) ∧ W10.drew.cell? ⟨w8.heap.size, 0, none⟩ = some (.int .i64 x6) ∧ W10.drew.cell? ⟨w8.heap.size, 1, none⟩ = some (.int .i64 y6) ∧ W10.drew.cell? ⟨w8.heap.size, 2, none⟩ = some (.int .i64 z6) ∧ W10.drew.cell? ⟨w9.heap.size, 0, none⟩ = some (.int .i64 x7) ∧ W10.drew.cell? ⟨w9.heap.size, 1, none⟩ = some (.int .i64 y7) ∧ W10.drew.cell? ⟨w9.heap.size, 2, none⟩ = some (.int .i64 z7) ∧ W10.drew.cell? ⟨w10.heap.size, 0, none⟩ = some (.int .i64 x7) ∧ W10.drew.cell? ⟨w10.heap.size, 1, none⟩ = some (.int .i64 y7) ∧ W10.drew.cell? ⟨w10.heap.size, 2, none⟩ = some (.int .i64 z7) ∧ Bl W10 W10.drew := by
    obtain ⟨q0, q1, q2⟩ := c3 (W := W10.drew) HX77.out
    obtain ⟨q3, q4, q5⟩ := c3 (W := W10.drew) HX88.out
    obtain ⟨q6, q7, q8⟩ := c3 (W := W10.drew) HX99.out
    obtain ⟨q9, qa, qb⟩ := c3 (W := W10.drew) HXA.out
    exact ⟨q0, q1, q2, q3, q4, q5, q6, q7, q8, q9, qa, qb, ⟨bl_drew (Below.refl _ _)⟩⟩
  have HST2 := Lib.hid hst
  have hkeep : ∀ {W W' : World}, (W.cell? ⟨w7.heap.size, 0, none⟩ = some (.int .i64 x6) ∧ W.cell? ⟨w7.heap.size, 1, none⟩ = some (.int .i64 y6) ∧ W.cell? ⟨w7.heap.size, 2, none⟩ = some (.int .i64 z6) ∧ W.cell? ⟨w8.heap.size, 0, none⟩ = some (.int .i64 x6) ∧ W.cell? ⟨w8.heap.size, 1, none⟩ = some (.int .i64 y6) ∧ W.cell? ⟨w8.heap.size, 2, none⟩ = some (.int .i64 z6) ∧ W.cell? ⟨w9.heap.size, 0, none⟩ = some (.int .i64 x7) ∧ W.cell? ⟨w9.heap.size, 1, none⟩ = some (.int .i64 y7) ∧ W.cell? ⟨w9.heap.size, 2, none⟩ = some (.int .i64 z7) ∧ W.cell? ⟨w10.heap.size, 0, none⟩ = some (.int .i64 x7) ∧ W.cell? ⟨w10.heap.size, 1, none⟩ = some (.int .i64 y7) ∧ W.cell? ⟨w10.heap.size, 2, none⟩ = some (.int .i64 z7) ∧ Bl W10 W) → Below W.heap.size W W' → W'.cell? ⟨w7.heap.size, 0, none⟩ = some (.int .i64 x6) ∧ W'.cell? ⟨w7.heap.size, 1, none⟩ = some (.int .i64 y6) ∧ W'.cell? ⟨w7.heap.size, 2, none⟩ = some (.int .i64 z6) ∧ W'.cell? ⟨w8.heap.size, 0, none⟩ = some (.int .i64 x6) ∧ W'.cell? ⟨w8.heap.size, 1, none⟩ = some (.int .i64 y6) ∧ W'.cell? ⟨w8.heap.size, 2, none⟩ = some (.int .i64 z6) ∧ W'.cell? ⟨w9.heap.size, 0, none⟩ = some (.int .i64 x7) ∧ W'.cell? ⟨w9.heap.size, 1, none⟩ = some (.int .i64 y7) ∧ W'.cell? ⟨w9.heap.size, 2, none⟩ = some (.int .i64 z7) ∧ W'.cell? ⟨w10.heap.size, 0, none⟩ = some (.int .i64 x7) ∧ W'.cell? ⟨w10.heap.size, 1, none⟩ = some (.int .i64 y7) ∧ W'.cell? ⟨w10.heap.size, 2, none⟩ = some (.int .i64 z7) ∧ Bl W10 W' := by
    rintro W W' ⟨-, -, -, -, -, -, -, -, -, -, -, -, ⟨hb⟩⟩ hb'
    have h9 := bl_then hb hb'
    obtain ⟨q0, q1, q2⟩ := c3 (blk_bl HX77.out h9)
    obtain ⟨q3, q4, q5⟩ := c3 (blk_bl HX88.out h9)
    obtain ⟨q6, q7, q8⟩ := c3 (blk_bl HX99.out h9)
    obtain ⟨q9, qa, qb⟩ := c3 (blk_bl HXA.out h9)
    exact ⟨q0, q1, q2, q3, q4, q5, q6, q7, q8, q9, qa, qb, ⟨h9⟩⟩
  have HKP2 : Hid (∀ {W W' : World}, _) := @hkeep
  clear hst hkeep hW10 hbw
  go_wp2_with fail
  rw [← HWA.out]
  rcases HQ6.out with ⟨rfl, rfl⟩ | ⟨rfl, rfl, hq6⟩
  all_goals rcases HQ7.out with ⟨rfl, rfl⟩ | ⟨rfl, rfl, hq7⟩
  all_goals
    go_region_held3 (fun w' => w'.cell? ⟨w7.heap.size, 0, none⟩ = some (.int .i64 x6) ∧ w'.cell? ⟨w7.heap.size, 1, none⟩ = some (.int .i64 y6) ∧ w'.cell? ⟨w7.heap.size, 2, none⟩ = some (.int .i64 z6) ∧ w'.cell? ⟨w8.heap.size, 0, none⟩ = some (.int .i64 x6) ∧ w'.cell? ⟨w8.heap.size, 1, none⟩ = some (.int .i64 y6) ∧ w'.cell? ⟨w8.heap.size, 2, none⟩ = some (.int .i64 z6) ∧ w'.cell? ⟨w9.heap.size, 0, none⟩ = some (.int .i64 x7) ∧ w'.cell? ⟨w9.heap.size, 1, none⟩ = some (.int .i64 y7) ∧ w'.cell? ⟨w9.heap.size, 2, none⟩ = some (.int .i64 z7) ∧ w'.cell? ⟨w10.heap.size, 0, none⟩ = some (.int .i64 x7) ∧ w'.cell? ⟨w10.heap.size, 1, none⟩ = some (.int .i64 y7) ∧ w'.cell? ⟨w10.heap.size, 2, none⟩ = some (.int .i64 z7) ∧ Bl W10 w')
      (first | assumption | exact HST2.out | exact HKP2.out ‹_› ‹_›)
      ((go_at_call 23; refine (ref_ x6 y6 z6 _).mono ?_; rintro e w11 ⟨rfl, hb11⟩; (have HB11 := Lib.hid (bl_then (bl_drew HBA.out) hb11))))
  all_goals
    have hv11 := blk_bl HVOL.out HB11.out
    obtain ⟨m0, m1, m2, m3, m4, m5, m6, m7, m8⟩ := c9 hv11
    clear hv11
    go_wp2_with (go_at_call 24; refine (code_cd i _ _).mono ?_; rintro e wc ⟨rfl, hwc⟩; (have hwd := hwc.symm); subst hwd; clear hwc)
    clear m0 m1 m2 m3 m4 m5 m6 m7 m8
    by_cases hin : 0 ≤ i ∧ i < (n : Int)
    · refine (HBI.out hin HB11.out).mono ?_
      rintro e w12 ⟨A12, c12, rfl, hcv, hb12⟩
      have HB12 := Lib.hid (bl_then HB11.out hb12)
      have hv12 := blk_bl HVOL.out HB12.out
      obtain ⟨m0, m1, m2, m3, m4, m5, m6, m7, m8⟩ := c9 hv12
      have HIN := Lib.hid hin
      obtain ⟨hi0, hi1⟩ := hin
      have hst : w12.drew.cell? ⟨w2.heap.size, 0, none⟩ = some (.int .i64 n) ∧ w12.drew.cell? ⟨w2.heap.size, 1, none⟩ = some (.int .i64 m) ∧ w12.drew.cell? ⟨w2.heap.size, 2, none⟩ = some (.int .i64 s) ∧ w12.drew.cell? ⟨w2.heap.size, 3, none⟩ = some (.int .i64 16) ∧ w12.drew.cell? ⟨w2.heap.size, 4, none⟩ = some (.int .i64 (16 + 8 * (m : Int))) ∧ w12.drew.cell? ⟨w2.heap.size, 5, none⟩ = some (.int .i64 p3) ∧ w12.drew.cell? ⟨w2.heap.size, 6, none⟩ = some (.int .i64 p4) ∧ w12.drew.cell? ⟨w2.heap.size, 7, none⟩ = some (.int .i64 p5) ∧ w12.drew.cell? ⟨w2.heap.size, 8, none⟩ = some (.slice (some a8) T c8) ∧ Bl w12 w12.drew := by
        obtain ⟨q0, q1, q2, q3, q4, q5, q6, q7, q8⟩ := c9 (W := w12.drew) hv12
        exact ⟨q0, q1, q2, q3, q4, q5, q6, q7, q8, ⟨bl_drew (Below.refl _ _)⟩⟩
      have HST3 := Lib.hid hst
      have hkeep : ∀ {W W' : World}, (W.cell? ⟨w2.heap.size, 0, none⟩ = some (.int .i64 n) ∧ W.cell? ⟨w2.heap.size, 1, none⟩ = some (.int .i64 m) ∧ W.cell? ⟨w2.heap.size, 2, none⟩ = some (.int .i64 s) ∧ W.cell? ⟨w2.heap.size, 3, none⟩ = some (.int .i64 16) ∧ W.cell? ⟨w2.heap.size, 4, none⟩ = some (.int .i64 (16 + 8 * (m : Int))) ∧ W.cell? ⟨w2.heap.size, 5, none⟩ = some (.int .i64 p3) ∧ W.cell? ⟨w2.heap.size, 6, none⟩ = some (.int .i64 p4) ∧ W.cell? ⟨w2.heap.size, 7, none⟩ = some (.int .i64 p5) ∧ W.cell? ⟨w2.heap.size, 8, none⟩ = some (.slice (some a8) T c8) ∧ Bl w12 W) → Below W.heap.size W W' → W'.cell? ⟨w2.heap.size, 0, none⟩ = some (.int .i64 n) ∧ W'.cell? ⟨w2.heap.size, 1, none⟩ = some (.int .i64 m) ∧ W'.cell? ⟨w2.heap.size, 2, none⟩ = some (.int .i64 s) ∧ W'.cell? ⟨w2.heap.size, 3, none⟩ = some (.int .i64 16) ∧ W'.cell? ⟨w2.heap.size, 4, none⟩ = some (.int .i64 (16 + 8 * (m : Int))) ∧ W'.cell? ⟨w2.heap.size, 5, none⟩ = some (.int .i64 p3) ∧ W'.cell? ⟨w2.heap.size, 6, none⟩ = some (.int .i64 p4) ∧ W'.cell? ⟨w2.heap.size, 7, none⟩ = some (.int .i64 p5) ∧ W'.cell? ⟨w2.heap.size, 8, none⟩ = some (.slice (some a8) T c8) ∧ Bl w12 W' := by
        rintro W W' ⟨-, -, -, -, -, -, -, -, -, ⟨hb⟩⟩ hb'
        have h9 := bl_then hb hb'
        obtain ⟨q0, q1, q2, q3, q4, q5, q6, q7, q8⟩ := c9 (blk_bl (blk_bl HVOL.out HB12.out) h9)
        exact ⟨q0, q1, q2, q3, q4, q5, q6, q7, q8, ⟨h9⟩⟩
      have HKP3 : Hid (∀ {W W' : World}, _) := @hkeep
      have HB12D := Lib.hid (bl_drew HB12.out)
      clear hst hkeep hv12 hb12
      go_wp2_with fail
      clear m0 m1 m2 m3 m4 m5 m6 m7 m8
      go_region_held3 (fun w' => w'.cell? ⟨w2.heap.size, 0, none⟩ = some (.int .i64 n) ∧ w'.cell? ⟨w2.heap.size, 1, none⟩ = some (.int .i64 m) ∧ w'.cell? ⟨w2.heap.size, 2, none⟩ = some (.int .i64 s) ∧ w'.cell? ⟨w2.heap.size, 3, none⟩ = some (.int .i64 16) ∧ w'.cell? ⟨w2.heap.size, 4, none⟩ = some (.int .i64 (16 + 8 * (m : Int))) ∧ w'.cell? ⟨w2.heap.size, 5, none⟩ = some (.int .i64 p3) ∧ w'.cell? ⟨w2.heap.size, 6, none⟩ = some (.int .i64 p4) ∧ w'.cell? ⟨w2.heap.size, 7, none⟩ = some (.int .i64 p5) ∧ w'.cell? ⟨w2.heap.size, 8, none⟩ = some (.slice (some a8) T c8) ∧ Bl w12 w')
        (first | assumption | exact HST3.out | exact HKP3.out ‹_› ‹_›)
        ((go_at_call 26; refine (HRBK.out HIN.out HB12D.out).mono ?_; rintro e w13 ⟨rfl, hb13⟩; (have HB13 := Lib.hid (bl_then HB12D.out hb13))))
      clear hcv
      go_wp2_with fail
      by_cases hz : xb / 2 ^ n = 0
      · refine (HBM.out HB13.out).mono ?_
        rintro e w14 ⟨⟨q1, -⟩, hb14⟩
        obtain ⟨bb, A14, c14, rfl, hbm⟩ := q1 hz
        have HB14 := Lib.hid (bl_then HB13.out hb14)
        have HM14 := Lib.hid hbm
        have hv14 := blk_bl HVOL.out HB14.out
        obtain ⟨m0, m1, m2, m3, m4, m5, m6, m7, m8⟩ := c9 hv14
        clear hv14 hb14 hbm q1
        go_wp2_with fail
        refine (HRB.out HB14.out).mono ?_
        rintro e w15 ⟨q1, -, hb15⟩
        obtain ⟨v15, rfl, hown⟩ := q1 hz
        obtain ⟨A15, c15, rfl⟩ := own_slice hown
        have HB15 := Lib.hid (bl_then HB14.out hb15)
        have HM15 := Lib.hid (HM14.out.keep hb15)
        have HR15 := Lib.hid (own_rb hown)
        clear hb15 hown q1 m0 m1 m2 m3 m4 m5 m6 m7 m8
        go_wp2_with fail
        refine (HI9.out HB15.out).mono ?_
        rintro e w16 ⟨rfl, hb16⟩
        have HB16 := Lib.hid (bl_then HB15.out hb16)
        have HM16 := Lib.hid (HM15.out.keep hb16)
        have HR16 := Lib.hid (HR15.out.below hb16)
        have hv16 := blk_bl HVOL.out HB16.out
        have lt16 := lt_of hv16
        obtain ⟨m0, m1, m2, m3, m4, m5, m6, m7, m8⟩ := c9 hv16
        clear hv16 hb16
        go_wp2_with fail
        refine (HJ9.out (bl_alloc HB16.out _)).mono ?_
        rintro e w17 ⟨rfl, hb17⟩
        have hb18 := bl_then (bl_alloc (Below.refl _ _) (.cells #[.int .i64 x9, .int .i64 y9, .int .i64 z9, .int .i64 t9] 70)) hb17
        have HB17 := Lib.hid (bl_then (bl_alloc HB16.out _) hb17)
        have hx16 := blk_bl (alloc_new w16 (.cells #[.int .i64 x9, .int .i64 y9, .int .i64 z9, .int .i64 t9] 70)) hb17
        obtain ⟨k0, k1, k2, k3⟩ := c4 hx16
        have lt17 := lt_of hx16
        have HM17 := Lib.hid ((HM16.out.keep hb18).keep (bl_alloc (Below.refl _ _) (.cells #[.int .i64 x9, .int .i64 y9, .int .i64 z9, .int .i64 t9] 74)))
        have HR17 := Lib.hid ((HR16.out.below hb18).below (bl_alloc (Below.refl _ _) (.cells #[.int .i64 x9, .int .i64 y9, .int .i64 z9, .int .i64 t9] 74)))
        have HXL := Lib.hid (HXB.out hz)
        clear hb17 hb18 hx16 m0 m1 m2 m3 m4 m5 m6 m7 m8 lt16
        go_wp2_with (go_at_call 31; refine (lsame_ HM17.out HXL.out HNM.out.1.1 (by have := HNM.out; omega) HR17.out _).mono ?_; rintro e w18 ⟨rfl, hb18⟩; (have HB18 := Lib.hid (bl_then HB2.out (bl_then (bl_alloc HB17.out _) hb18))); clear hb18)
        go_ret
        exact ⟨rfl, HB18.out⟩
      · refine (HBM.out HB13.out).mono ?_
        rintro e w14 ⟨⟨-, q1⟩, hb14⟩
        have q2 := q1 hz
        subst q2
        have HB14 := Lib.hid (bl_then HB13.out hb14)
        have hv14 := blk_bl HVOL.out HB14.out
        obtain ⟨m0, m1, m2, m3, m4, m5, m6, m7, m8⟩ := c9 hv14
        clear hv14 hb14 q1
        go_wp2_with fail
        refine (HRB.out HB14.out).mono ?_
        rintro e w15 ⟨-, q1, hb15⟩
        have q2 := q1 hz
        subst q2
        have HB15 := Lib.hid (bl_then HB14.out hb15)
        clear hb15 q1 m0 m1 m2 m3 m4 m5 m6 m7 m8
        go_wp2_with fail
        refine (HI9.out HB15.out).mono ?_
        rintro e w16 ⟨rfl, hb16⟩
        have HB16 := Lib.hid (bl_then HB15.out hb16)
        have hv16 := blk_bl HVOL.out HB16.out
        have lt16 := lt_of hv16
        obtain ⟨m0, m1, m2, m3, m4, m5, m6, m7, m8⟩ := c9 hv16
        clear hv16 hb16
        go_wp2_with fail
        refine (HJ9.out (bl_alloc HB16.out _)).mono ?_
        rintro e w17 ⟨rfl, hb17⟩
        have HB17 := Lib.hid (bl_then (bl_alloc HB16.out _) hb17)
        have hx16 := blk_bl (alloc_new w16 (.cells #[.int .i64 x9, .int .i64 y9, .int .i64 z9, .int .i64 t9] 70)) hb17
        obtain ⟨k0, k1, k2, k3⟩ := c4 hx16
        have lt17 := lt_of hx16
        clear hb17 hx16 m0 m1 m2 m3 m4 m5 m6 m7 m8 lt16
        go_wp2_with fail
        go_ret
        exact ⟨rfl, bl_then HB2.out (bl_alloc HB17.out _)⟩
    · have hio : i < 0 ∨ (n : Int) ≤ i := by omega
      refine (HBO.out hio HB11.out).mono ?_
      rintro e w12 ⟨rfl, hb12⟩
      have HB12 := Lib.hid (bl_then HB11.out hb12)
      have hv12 := blk_bl HVOL.out HB12.out
      obtain ⟨m0, m1, m2, m3, m4, m5, m6, m7, m8⟩ := c9 hv12
      clear hv12 hb12 hin
      by_cases h0 : i < 0
      · go_wp2_with fail
        clear m0 m1 m2 m3 m4 m5 m6 m7 m8
        by_cases hz : xb / 2 ^ n = 0
        · refine (HBM.out HB12.out).mono ?_
          rintro e w14 ⟨⟨q1, -⟩, hb14⟩
          obtain ⟨bb, A14, c14, rfl, hbm⟩ := q1 hz
          have HB14 := Lib.hid (bl_then HB12.out hb14)
          have HM14 := Lib.hid hbm
          have hv14 := blk_bl HVOL.out HB14.out
          obtain ⟨m0, m1, m2, m3, m4, m5, m6, m7, m8⟩ := c9 hv14
          clear hv14 hb14 hbm q1
          go_wp2_with fail
          refine (HRB.out HB14.out).mono ?_
          rintro e w15 ⟨q1, -, hb15⟩
          obtain ⟨v15, rfl, hown⟩ := q1 hz
          obtain ⟨A15, c15, rfl⟩ := own_slice hown
          have HB15 := Lib.hid (bl_then HB14.out hb15)
          have HM15 := Lib.hid (HM14.out.keep hb15)
          have HR15 := Lib.hid (own_rb hown)
          clear hb15 hown q1 m0 m1 m2 m3 m4 m5 m6 m7 m8
          go_wp2_with fail
          refine (HI9.out HB15.out).mono ?_
          rintro e w16 ⟨rfl, hb16⟩
          have HB16 := Lib.hid (bl_then HB15.out hb16)
          have HM16 := Lib.hid (HM15.out.keep hb16)
          have HR16 := Lib.hid (HR15.out.below hb16)
          have hv16 := blk_bl HVOL.out HB16.out
          have lt16 := lt_of hv16
          obtain ⟨m0, m1, m2, m3, m4, m5, m6, m7, m8⟩ := c9 hv16
          clear hv16 hb16
          go_wp2_with fail
          refine (HJ9.out (bl_alloc HB16.out _)).mono ?_
          rintro e w17 ⟨rfl, hb17⟩
          have hb18 := bl_then (bl_alloc (Below.refl _ _) (.cells #[.int .i64 x9, .int .i64 y9, .int .i64 z9, .int .i64 t9] 70)) hb17
          have HB17 := Lib.hid (bl_then (bl_alloc HB16.out _) hb17)
          have hx16 := blk_bl (alloc_new w16 (.cells #[.int .i64 x9, .int .i64 y9, .int .i64 z9, .int .i64 t9] 70)) hb17
          obtain ⟨k0, k1, k2, k3⟩ := c4 hx16
          have lt17 := lt_of hx16
          have HM17 := Lib.hid ((HM16.out.keep hb18).keep (bl_alloc (Below.refl _ _) (.cells #[.int .i64 x9, .int .i64 y9, .int .i64 z9, .int .i64 t9] 74)))
          have HR17 := Lib.hid ((HR16.out.below hb18).below (bl_alloc (Below.refl _ _) (.cells #[.int .i64 x9, .int .i64 y9, .int .i64 z9, .int .i64 t9] 74)))
          have HXL := Lib.hid (HXB.out hz)
          clear hb17 hb18 hx16 m0 m1 m2 m3 m4 m5 m6 m7 m8 lt16
          go_wp2_with (go_at_call 31; refine (lsame_ HM17.out HXL.out HNM.out.1.1 (by have := HNM.out; omega) HR17.out _).mono ?_; rintro e w18 ⟨rfl, hb18⟩; (have HB18 := Lib.hid (bl_then HB2.out (bl_then (bl_alloc HB17.out _) hb18))); clear hb18)
          go_ret
          exact ⟨rfl, HB18.out⟩
        · refine (HBM.out HB12.out).mono ?_
          rintro e w14 ⟨⟨-, q1⟩, hb14⟩
          have q2 := q1 hz
          subst q2
          have HB14 := Lib.hid (bl_then HB12.out hb14)
          have hv14 := blk_bl HVOL.out HB14.out
          obtain ⟨m0, m1, m2, m3, m4, m5, m6, m7, m8⟩ := c9 hv14
          clear hv14 hb14 q1
          go_wp2_with fail
          refine (HRB.out HB14.out).mono ?_
          rintro e w15 ⟨-, q1, hb15⟩
          have q2 := q1 hz
          subst q2
          have HB15 := Lib.hid (bl_then HB14.out hb15)
          clear hb15 q1 m0 m1 m2 m3 m4 m5 m6 m7 m8
          go_wp2_with fail
          refine (HI9.out HB15.out).mono ?_
          rintro e w16 ⟨rfl, hb16⟩
          have HB16 := Lib.hid (bl_then HB15.out hb16)
          have hv16 := blk_bl HVOL.out HB16.out
          have lt16 := lt_of hv16
          obtain ⟨m0, m1, m2, m3, m4, m5, m6, m7, m8⟩ := c9 hv16
          clear hv16 hb16
          go_wp2_with fail
          refine (HJ9.out (bl_alloc HB16.out _)).mono ?_
          rintro e w17 ⟨rfl, hb17⟩
          have HB17 := Lib.hid (bl_then (bl_alloc HB16.out _) hb17)
          have hx16 := blk_bl (alloc_new w16 (.cells #[.int .i64 x9, .int .i64 y9, .int .i64 z9, .int .i64 t9] 70)) hb17
          obtain ⟨k0, k1, k2, k3⟩ := c4 hx16
          have lt17 := lt_of hx16
          clear hb17 hx16 m0 m1 m2 m3 m4 m5 m6 m7 m8 lt16
          go_wp2_with fail
          go_ret
          exact ⟨rfl, bl_then HB2.out (bl_alloc HB17.out _)⟩
      · have hni : (n : Int) ≤ i := by omega
        go_wp2_with fail
        clear m0 m1 m2 m3 m4 m5 m6 m7 m8
        by_cases hz : xb / 2 ^ n = 0
        · refine (HBM.out HB12.out).mono ?_
          rintro e w14 ⟨⟨q1, -⟩, hb14⟩
          obtain ⟨bb, A14, c14, rfl, hbm⟩ := q1 hz
          have HB14 := Lib.hid (bl_then HB12.out hb14)
          have HM14 := Lib.hid hbm
          have hv14 := blk_bl HVOL.out HB14.out
          obtain ⟨m0, m1, m2, m3, m4, m5, m6, m7, m8⟩ := c9 hv14
          clear hv14 hb14 hbm q1
          go_wp2_with fail
          refine (HRB.out HB14.out).mono ?_
          rintro e w15 ⟨q1, -, hb15⟩
          obtain ⟨v15, rfl, hown⟩ := q1 hz
          obtain ⟨A15, c15, rfl⟩ := own_slice hown
          have HB15 := Lib.hid (bl_then HB14.out hb15)
          have HM15 := Lib.hid (HM14.out.keep hb15)
          have HR15 := Lib.hid (own_rb hown)
          clear hb15 hown q1 m0 m1 m2 m3 m4 m5 m6 m7 m8
          go_wp2_with fail
          refine (HI9.out HB15.out).mono ?_
          rintro e w16 ⟨rfl, hb16⟩
          have HB16 := Lib.hid (bl_then HB15.out hb16)
          have HM16 := Lib.hid (HM15.out.keep hb16)
          have HR16 := Lib.hid (HR15.out.below hb16)
          have hv16 := blk_bl HVOL.out HB16.out
          have lt16 := lt_of hv16
          obtain ⟨m0, m1, m2, m3, m4, m5, m6, m7, m8⟩ := c9 hv16
          clear hv16 hb16
          go_wp2_with fail
          refine (HJ9.out (bl_alloc HB16.out _)).mono ?_
          rintro e w17 ⟨rfl, hb17⟩
          have hb18 := bl_then (bl_alloc (Below.refl _ _) (.cells #[.int .i64 x9, .int .i64 y9, .int .i64 z9, .int .i64 t9] 70)) hb17
          have HB17 := Lib.hid (bl_then (bl_alloc HB16.out _) hb17)
          have hx16 := blk_bl (alloc_new w16 (.cells #[.int .i64 x9, .int .i64 y9, .int .i64 z9, .int .i64 t9] 70)) hb17
          obtain ⟨k0, k1, k2, k3⟩ := c4 hx16
          have lt17 := lt_of hx16
          have HM17 := Lib.hid ((HM16.out.keep hb18).keep (bl_alloc (Below.refl _ _) (.cells #[.int .i64 x9, .int .i64 y9, .int .i64 z9, .int .i64 t9] 74)))
          have HR17 := Lib.hid ((HR16.out.below hb18).below (bl_alloc (Below.refl _ _) (.cells #[.int .i64 x9, .int .i64 y9, .int .i64 z9, .int .i64 t9] 74)))
          have HXL := Lib.hid (HXB.out hz)
          clear hb17 hb18 hx16 m0 m1 m2 m3 m4 m5 m6 m7 m8 lt16
          go_wp2_with (go_at_call 31; refine (lsame_ HM17.out HXL.out HNM.out.1.1 (by have := HNM.out; omega) HR17.out _).mono ?_; rintro e w18 ⟨rfl, hb18⟩; (have HB18 := Lib.hid (bl_then HB2.out (bl_then (bl_alloc HB17.out _) hb18))); clear hb18)
          go_ret
          exact ⟨rfl, HB18.out⟩
        · refine (HBM.out HB12.out).mono ?_
          rintro e w14 ⟨⟨-, q1⟩, hb14⟩
          have q2 := q1 hz
          subst q2
          have HB14 := Lib.hid (bl_then HB12.out hb14)
          have hv14 := blk_bl HVOL.out HB14.out
          obtain ⟨m0, m1, m2, m3, m4, m5, m6, m7, m8⟩ := c9 hv14
          clear hv14 hb14 q1
          go_wp2_with fail
          refine (HRB.out HB14.out).mono ?_
          rintro e w15 ⟨-, q1, hb15⟩
          have q2 := q1 hz
          subst q2
          have HB15 := Lib.hid (bl_then HB14.out hb15)
          clear hb15 q1 m0 m1 m2 m3 m4 m5 m6 m7 m8
          go_wp2_with fail
          refine (HI9.out HB15.out).mono ?_
          rintro e w16 ⟨rfl, hb16⟩
          have HB16 := Lib.hid (bl_then HB15.out hb16)
          have hv16 := blk_bl HVOL.out HB16.out
          have lt16 := lt_of hv16
          obtain ⟨m0, m1, m2, m3, m4, m5, m6, m7, m8⟩ := c9 hv16
          clear hv16 hb16
          go_wp2_with fail
          refine (HJ9.out (bl_alloc HB16.out _)).mono ?_
          rintro e w17 ⟨rfl, hb17⟩
          have HB17 := Lib.hid (bl_then (bl_alloc HB16.out _) hb17)
          have hx16 := blk_bl (alloc_new w16 (.cells #[.int .i64 x9, .int .i64 y9, .int .i64 z9, .int .i64 t9] 70)) hb17
          obtain ⟨k0, k1, k2, k3⟩ := c4 hx16
          have lt17 := lt_of hx16
          clear hb17 hx16 m0 m1 m2 m3 m4 m5 m6 m7 m8 lt16
          go_wp2_with fail
          go_ret
          exact ⟨rfl, bl_then HB2.out (bl_alloc HB17.out _)⟩

end Go.Proofs.YtgnagbbdnlmgeaaGreat.Ji
end

/- Arguments opened: the laws' raw images, numbers, slots. -/
section
namespace Go.Proofs.YtgnagbbdnlmgeaaGreat.Ao
open Go Go.RowKit Go.ChangeShapes Go.WideShapes Go.ChangeAt Go.Joins Go.Deep
open Go.Proofs.YtgnagbbdnlmgeaaGreat.Ba
set_option linter.unusedVariables false
set_option maxHeartbeats 2000000
set_option maxRecDepth 100000

theorem own : ownKnob Tryz.prog.godebug = none := by kernel_rfl
theorem laidOut : laidOutB Tryz.prog = true := by kernel_rfl

theorem cell_plain {w : World} {a : Addr} {v : Value} (h : w.cell? a = some v) : a = ⟨a.block, a.off, none⟩ ∧ a.block < w.heap.size := by
  obtain ⟨b, o, s⟩ := a
  simp only [World.cell?] at h
  split at h
  · rename_i c e f hb
    refine ⟨?_, (Array.getElem?_eq_some_iff.1 hb).1⟩
    cases s with
    | none => rfl
    | some _ => simp at h
  · cases h

theorem int_wf {k : IntKind} {n : Int} (h : (Lit.int k n).wf = true) : k.min ≤ n ∧ n ≤ k.max := by
  simpa [Lit.wf] using h


theorem words_open {H : Type} {enc : TypeId × Value → H} {w : World} {fuel : Nat} {cs : List Value} {x : DataW H × List MemPlace} (h : DataW.trod enc Tryz.prog w 0 (fun _ => true) true fuel 22 cs = some x) :
    ∃ (A : Option Addr) (l : List Int) (c : Nat), cs = [.slice A l.length c] ∧ Rk .u64 w A l ∧ l.length ≤ 9223372036854775807 := by
  rcases open_ints Tryz.underlying22 Tryz.underlying94 (by kernel_rfl) h with ⟨hcs, _⟩ | ⟨a, l, c, zs, hcs, _, hl, hm, hz, _, hcell, hwz⟩
  · exact ⟨none, [], 0, hcs, Rk.nil _ _ _, by decide⟩
  · simp only [if_true] at hz
    have hlen : (zs.take l).length = l := by rw [List.length_take]; omega
    refine ⟨some a, zs.take l, c, by rw [hlen]; exact hcs, ?_, by rw [hlen]; unfold maxLen at hm; omega⟩
    intro i z hx
    obtain ⟨hi, hz2⟩ := List.getElem?_eq_some_iff.1 hx
    rw [List.getElem_take] at hz2
    simp only [List.length_take] at hi
    have hi2 : i < zs.length := by omega
    have hci := hcell i hi2
    obtain ⟨p1, p2⟩ := cell_plain hci
    refine ⟨a, rfl, by rw [add_block] at p2; exact p2, ?_⟩
    rw [hci, List.getD_eq_getElem?_getD, List.getElem?_eq_getElem hi2, hz2]
    rfl

theorem bytes_open {H : Type} {enc : TypeId × Value → H} {w : World} {fuel : Nat} {cs : List Value} {x : DataW H × List MemPlace} (h : DataW.trod enc Tryz.prog w 0 (fun _ => true) true fuel 59 cs = some x) :
    ∃ (A : Option Addr) (l : List Nat) (c : Nat), cs = [.slice A l.length c] ∧ Rk .u8 w A (l.map fun (x : Nat) => (x : Int)) ∧ (∀ x ∈ l, x < 256) ∧ l.length ≤ 9223372036854775807 := by
  rcases open_ints Tryz.underlying59 Tryz.underlying5 (by kernel_rfl) h with ⟨hcs, _⟩ | ⟨a, l, c, zs, hcs, _, hl, hm, hz, _, hcell, hwz⟩
  · exact ⟨none, [], 0, hcs, Rk.nil _ _ _, by simp, by decide⟩
  · simp only [if_true] at hz
    have hlen : (zs.take l).length = l := by rw [List.length_take]; omega
    have hwf : ∀ z ∈ zs, 0 ≤ z ∧ z ≤ 255 := fun z hz => by
      have h := int_wf (hwz z hz)
      simp [IntKind.min, IntKind.max, IntKind.bits, IntKind.signed] at h
      exact h
    refine ⟨some a, (zs.take l).map Int.toNat, c, by rw [List.length_map, hlen]; exact hcs, ?_, ?_, by rw [List.length_map, hlen]; unfold maxLen at hm; omega⟩
    · intro i z hx
      simp only [List.getElem?_map, Option.map_eq_some_iff, List.map_map, Function.comp] at hx
      obtain ⟨y, hy, rfl⟩ := hx
      obtain ⟨hi, hz2⟩ := List.getElem?_eq_some_iff.1 hy
      rw [List.getElem_take] at hz2
      simp only [List.length_take] at hi
      have hi2 : i < zs.length := by omega
      have hci := hcell i hi2
      obtain ⟨p1, p2⟩ := cell_plain hci
      refine ⟨a, rfl, by rw [add_block] at p2; exact p2, ?_⟩
      rw [hci, List.getD_eq_getElem?_getD, List.getElem?_eq_getElem hi2, hz2]
      have := hwf y (by rw [← hz2]; exact List.getElem_mem _)
      simp only [Option.getD_some]
      rw [Int.toNat_of_nonneg this.1]
    · intro x hx
      simp only [List.mem_map] at hx
      obtain ⟨z, hz, rfl⟩ := hx
      have := hwf z (List.mem_of_mem_take hz)
      omega

theorem u8_open {H : Type} {enc : TypeId × Value → H} {w : World} {fuel : Nat} {v : Value} {x : DataW H × List MemPlace} (h : DataW.trod enc Tryz.prog w 0 (fun _ => true) true fuel 5 [v] = some x) : ∃ n : Nat, v = .int .u8 n ∧ n < 256 := by
  obtain ⟨k, e0, _, w0⟩ := DataW.trod_int Tryz.underlying5 h
  simp only [List.cons.injEq, and_true] at e0
  have b0 := int_wf w0
  simp [IntKind.min, IntKind.max, IntKind.bits, IntKind.signed] at b0
  exact ⟨k.toNat, by rw [e0, Int.toNat_of_nonneg b0.1], by omega⟩
theorem int_open {H : Type} {enc : TypeId × Value → H} {w : World} {fuel : Nat} {v : Value} {x : DataW H × List MemPlace} (h : DataW.trod enc Tryz.prog w 0 (fun _ => true) true fuel 3 [v] = some x) : ∃ n : Int, v = .int .i64 n ∧ -9223372036854775808 ≤ n ∧ n ≤ 9223372036854775807 := by
  obtain ⟨k, e0, _, w0⟩ := DataW.trod_int Tryz.underlying3 h
  simp only [List.cons.injEq, and_true] at e0
  have b0 := int_wf w0
  simp [IntKind.min, IntKind.max, IntKind.bits, IntKind.signed] at b0
  exact ⟨k, e0, b0.1, b0.2⟩

theorem raw_open {H : Type} {enc : TypeId × Value → H} {w : World} {b0 : Nat} {v : Value} {d : DataW H} {p : List MemPlace} (hv : Value.okWide Tryz.prog w .any b0 24 v) (h : DataW.Trod enc Tryz.prog w 0 (fun _ => true) true 24 v d p) :
    ∃ (r0 r1 r2 : Nat) (A : Option Addr) (l : List Int) (c : Nat), v = .agg #[.int .u8 r0, .int .u8 r1, .int .u8 r2, .slice A l.length c] ∧ r0 < 256 ∧ r1 < 256 ∧ r2 < 256 ∧ Rk .u64 w A l ∧ l.length ≤ 9223372036854775807 := by
  obtain ⟨v0, v1, v2, v3, y0, y1, y2, y3, n, rfl, -, -, t0, t1, t2, t3⟩ := open_agg4 Tryz.underlying24 (by kernel_rfl) (by kernel_rfl) hv h
  obtain ⟨r0, rfl, h0⟩ := u8_open t0
  obtain ⟨r1, rfl, h1⟩ := u8_open t1
  obtain ⟨r2, rfl, h2⟩ := u8_open t2
  obtain ⟨A, l, c, e3, hr, hl⟩ := words_open t3
  simp only [List.cons.injEq, and_true] at e3
  subst e3
  exact ⟨r0, r1, r2, A, l, c, rfl, h0, h1, h2, hr, hl⟩

end Go.Proofs.YtgnagbbdnlmgeaaGreat.Ao
end

/- Arguments opened: the laws' raw images, their words as numbers of their kind. -/
section
namespace Go.Proofs.YtgnagbbdnlmgeaaGreat.Ao
open Go Go.RowKit Go.ChangeShapes Go.WideShapes Go.ChangeAt Go.Joins Go.Deep
open Go.Proofs.YtgnagbbdnlmgeaaGreat.Ba
set_option linter.unusedVariables false
set_option maxHeartbeats 2000000
set_option maxRecDepth 100000

theorem words_openN {H : Type} {enc : TypeId × Value → H} {w : World} {fuel : Nat} {cs : List Value} {x : DataW H × List MemPlace} (h : DataW.trod enc Tryz.prog w 0 (fun _ => true) true fuel 22 cs = some x) :
    ∃ (A : Option Addr) (l : List Nat) (c : Nat), cs = [.slice A l.length c] ∧ Rk .u64 w A (l.map fun (x : Nat) => (x : Int)) ∧ (∀ x ∈ l, x < 18446744073709551616) ∧ l.length ≤ 9223372036854775807 := by
  rcases open_ints Tryz.underlying22 Tryz.underlying94 (by kernel_rfl) h with ⟨hcs, _⟩ | ⟨a, l, c, zs, hcs, _, hl, hm, hz, _, hcell, hwz⟩
  · exact ⟨none, [], 0, hcs, Rk.nil _ _ _, by simp, by decide⟩
  · simp only [if_true] at hz
    have hlen : (zs.take l).length = l := by rw [List.length_take]; omega
    have hwf : ∀ z ∈ zs, 0 ≤ z ∧ z ≤ 18446744073709551615 := fun z hz => by
      have h := int_wf (hwz z hz)
      simp [IntKind.min, IntKind.max, IntKind.bits, IntKind.signed] at h
      exact h
    refine ⟨some a, (zs.take l).map Int.toNat, c, by rw [List.length_map, hlen]; exact hcs, ?_, ?_, by rw [List.length_map, hlen]; unfold maxLen at hm; omega⟩
    · intro i z hx
      simp only [List.getElem?_map, Option.map_eq_some_iff, List.map_map, Function.comp] at hx
      obtain ⟨y, hy, rfl⟩ := hx
      obtain ⟨hi, hz2⟩ := List.getElem?_eq_some_iff.1 hy
      rw [List.getElem_take] at hz2
      simp only [List.length_take] at hi
      have hi2 : i < zs.length := by omega
      have hci := hcell i hi2
      obtain ⟨p1, p2⟩ := cell_plain hci
      refine ⟨a, rfl, by rw [add_block] at p2; exact p2, ?_⟩
      rw [hci, List.getD_eq_getElem?_getD, List.getElem?_eq_getElem hi2, hz2]
      have := hwf y (by rw [← hz2]; exact List.getElem_mem _)
      simp only [Option.getD_some]
      rw [Int.toNat_of_nonneg this.1]
    · intro x hx
      simp only [List.mem_map] at hx
      obtain ⟨z, hz, rfl⟩ := hx
      have := hwf z (List.mem_of_mem_take hz)
      omega

theorem raw_openN {H : Type} {enc : TypeId × Value → H} {w : World} {b0 : Nat} {v : Value} {d : DataW H} {p : List MemPlace} (hv : Value.okWide Tryz.prog w .any b0 24 v) (h : DataW.Trod enc Tryz.prog w 0 (fun _ => true) true 24 v d p) :
    ∃ (r0 r1 r2 : Nat) (A : Option Addr) (l : List Nat) (c : Nat), v = .agg #[.int .u8 r0, .int .u8 r1, .int .u8 r2, .slice A l.length c] ∧ r0 < 256 ∧ r1 < 256 ∧ r2 < 256 ∧ Rk .u64 w A (l.map fun (x : Nat) => (x : Int)) ∧ (∀ x ∈ l, x < 18446744073709551616) ∧ l.length ≤ 9223372036854775807 := by
  obtain ⟨v0, v1, v2, v3, y0, y1, y2, y3, n, rfl, -, -, t0, t1, t2, t3⟩ := open_agg4 Tryz.underlying24 (by kernel_rfl) (by kernel_rfl) hv h
  obtain ⟨r0, rfl, h0⟩ := u8_open t0
  obtain ⟨r1, rfl, h1⟩ := u8_open t1
  obtain ⟨r2, rfl, h2⟩ := u8_open t2
  obtain ⟨A, l, c, e3, hr, hlt, hl⟩ := words_openN t3
  simp only [List.cons.injEq, and_true] at e3
  subst e3
  exact ⟨r0, r1, r2, A, l, c, rfl, h0, h1, h2, hr, hlt, hl⟩

end Go.Proofs.YtgnagbbdnlmgeaaGreat.Ao
end
