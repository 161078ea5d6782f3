/- Parts of the proof, one behind the other: Is, Jh. -/
import Derived.Test.YtgnagbbdnlmgeaaGreatG08
import Derived.Test.YtgnagbbdnlmgeaaGreatG13
import Derived.Test.YtgnagbbdnlmgeaaGreatG12
import Derived.Test.YtgnagbbdnlmgeaaGreatG15
import Derived.Test.YtgnagbbdnlmgeaaGreatG04

/- volume.SetInode, Inode. -/
section
set_option linter.unusedVariables false
set_option linter.unusedSimpArgs false
set_option maxHeartbeats 2000000
set_option maxRecDepth 100000
namespace Go.Proofs.YtgnagbbdnlmgeaaGreat.Vo
open Go Go.RowKit
open Go.Proofs.YtgnagbbdnlmgeaaGreat.Ob Go.Proofs.YtgnagbbdnlmgeaaGreat.Ba Go.Proofs.YtgnagbbdnlmgeaaGreat.Oc Go.Proofs.YtgnagbbdnlmgeaaGreat.Pk Go.Proofs.YtgnagbbdnlmgeaaGreat.Dv Go.Proofs.YtgnagbbdnlmgeaaGreat.Su Go.Proofs.YtgnagbbdnlmgeaaGreat.Mp Go.Proofs.YtgnagbbdnlmgeaaGreat.Ge Go.Proofs.YtgnagbbdnlmgeaaGreat.Lo Go.Proofs.YtgnagbbdnlmgeaaGreat.Ko Go.Proofs.YtgnagbbdnlmgeaaGreat.In

theorem setinode_range {w : World} {v b n m s : Nat} {d : Dev} {g : Lay} (h : VolIs w v b n m s d g) (i x y z : Int) (hi : i < 0 ∨ (m : Int) ≤ i) :
    Calls Tryz.prog 51 #[.pointer (some ⟨v, 0, none⟩), .int .i64 i, .agg #[.int .i64 x, .int .i64 y, .int .i64 z]] w fun e w' => e = .returned (.int .i64 9) ∧ Below w.heap.size w w' := by
  have hu := Tryz.underlying42
  have hsl := inode_ n m s i h.ok
  rw [plc_no hi] at hsl
  have HS := Lib.hid hsl
  have h2 := h.below (bl_alloc (Below.refl _ _) (.cells #[.int .i64 x, .int .i64 y, .int .i64 z] 42))
  obtain ⟨c0, c1, c2, c3⟩ := h2.cells
  clear h h2 hi hsl
  go_enter Tryz.func51, Tryz.ntmps51
  go_wp2_with (go_at_call 76; refine (HS.out _).mono ?_; rintro e w1 ⟨rfl, hb⟩; (have HB := Lib.hid hb); clear hb)
  go_ret
  exact ⟨rfl, bl_then (bl_alloc (Below.refl _ _) _) HB.out⟩

theorem setinode_no {w : World} {v b n m s : Nat} {d : Dev} {g : Lay} (h : VolIs w v b n m s d g) (i x y z : Int) (hi : 0 ≤ i ∧ i < (m : Int)) (hmay : iB x y z = false) :
    Calls Tryz.prog 51 #[.pointer (some ⟨v, 0, none⟩), .int .i64 i, .agg #[.int .i64 x, .int .i64 y, .int .i64 z]] w fun e w' => e = .returned (.int .i64 1) ∧ Below w.heap.size w w' := by
  have hu := Tryz.underlying42
  have hsl := inode_ n m s i h.ok
  rw [plc_yes hi] at hsl
  obtain ⟨k, hk⟩ : ∃ k, k = 16 + 8 * i := ⟨_, rfl⟩
  rw [← hk] at hsl
  have hk0 : 0 ≤ k := by omega
  have HS := Lib.hid hsl
  have HE := Lib.hid (encode_no x y z hmay)
  have h2 := h.below (bl_alloc (Below.refl _ _) (.cells #[.int .i64 x, .int .i64 y, .int .i64 z] 42))
  obtain ⟨c0, c1, c2, c3⟩ := h2.cells
  clear h h2 hi hsl hk hmay
  go_enter Tryz.func51, Tryz.ntmps51
  go_wp2_with (first | (go_at_call 76; refine (HS.out _).mono ?_; rintro e w1 ⟨rfl, hb⟩; (have hq := blk_bl (alloc_new w (.cells #[.int .i64 x, .int .i64 y, .int .i64 z] 42)) hb); (have m0 := cell_of hq 0); (have m1 := cell_of hq 1); (have m2 := cell_of hq 2); (have HB := Lib.hid hb); clear hb hq) |
    (go_at_call 108; refine (HE.out _).mono ?_; rintro e w2 ⟨rfl, hb⟩; (have HB2 := Lib.hid hb); clear hb))
  go_ret
  exact ⟨rfl, bl_then (bl_then (bl_alloc (Below.refl _ _) _) HB.out) HB2.out⟩

theorem setinode_yes {w : World} {v b n m s : Nat} {d : Dev} {g : Lay} (h : VolIs w v b n m s d g) (hst : d.steps ≤ 1000000000) (i x y z : Int) (hi : 0 ≤ i ∧ i < (m : Int)) (hmay : iB x y z = true) (k : Nat) (hk : (k : Int) = 16 + 8 * i)
    (R : Dev × Option Nat) (hR : putGo true (ints (iLine x y z)) k ⟨d, 0, []⟩ = R) :
    Calls Tryz.prog 51 #[.pointer (some ⟨v, 0, none⟩), .int .i64 i, .agg #[.int .i64 x, .int .i64 y, .int .i64 z]] w fun e w' => e = .returned (.int .i64 (ecode R)) ∧ DevTo w w' b g R.1 := by
  have hu := Tryz.underlying42
  have hsl := inode_ n m s i h.ok
  rw [plc_yes hi, ← hk] at hsl
  have hin := inB_out (ok_out h.ok).1
  have hk9 : k ≤ 1000000000 := by omega
  have HS := Lib.hid hsl
  have HE := Lib.hid (encode_yes x y z hmay)
  have HV := Lib.hid h
  have HST := Lib.hid hst
  have HR := Lib.hid hR
  have HK9 := Lib.hid hk9
  have HLN := Lib.hid (iLine_len x y z)
  have h2 := h.below (bl_alloc (Below.refl _ _) (.cells #[.int .i64 x, .int .i64 y, .int .i64 z] 42))
  obtain ⟨c0, c1, c2, c3⟩ := h2.cells
  clear h h2 hi hsl hk hmay hin hst hR hk9
  generalize iLine x y z = t at *
  go_enter Tryz.func51, Tryz.ntmps51
  go_wp2_with (first | (go_at_call 76; refine (HS.out _).mono ?_; rintro e w1 ⟨rfl, hb⟩; (have hq := blk_bl (alloc_new w (.cells #[.int .i64 x, .int .i64 y, .int .i64 z] 42)) hb); (have m0 := cell_of hq 0); (have m1 := cell_of hq 1); (have m2 := cell_of hq 2); (have HB := Lib.hid hb); clear hb hq) |
    (go_at_call 108; refine (HE.out _).mono ?_; rintro e w2 ⟨v2, rfl, hown, hb⟩; (have hbw := bl_then (bl_alloc (Below.refl _ _) _) HB.out); (have hlo2 := hbw.size); (obtain ⟨A2, c2, rfl⟩ := own_slice hown); (have HR2 := Lib.hid (own_rk (k := .u64) hown).1); (have HA2 : Hid (∀ p, A2 = some p → w.heap.size ≤ p.block) := fun p hp => Nat.le_trans hlo2 (own_lo hown _ (by rw [hp]; rfl))); (have HB2 := Lib.hid (bl_then hbw hb)); (have HV2 := Lib.hid (HV.out.below HB2.out)); (have n0 := HV2.out.cells.1); clear hb HB hown hbw hlo2))
  have hput := put_all HV2.out.dev HR2.out (fun p hp hm => by have := HA2.out p hp; have := HV.out.dev.lt _ hm; omega) k c2 HK9.out (by rw [ints_length, HLN.out]; decide) HST.out R HR.out
  rw [ints_length, HLN.out] at hput
  refine hput.mono ?_
  rintro e w4 ⟨rfl, hto⟩
  have HTO := Lib.hid hto
  clear hput hto
  go_wp2_with fail
  go_ret
  exact ⟨rfl, by
    obtain ⟨g2, q1, q2, q3⟩ := HTO.out
    have hbb := HB2.out
    refine ⟨g2, q1, fun u hu => ?_, (Upd.of_below (F := g.foot b) hbb).trans q3 (fun u hu => .inl hu)⟩
    rcases q2 u hu with r | r
    · exact .inl r
    · exact .inr (Nat.le_trans hbb.size r)⟩

theorem inode_get {w : World} {v b n m s : Nat} {d : Dev} {g : Lay} (h : VolIs w v b n m s d g) (i : Int) (hi : 0 ≤ i ∧ i < (m : Int)) (k : Nat) (hk : (k : Int) = 16 + 8 * i) (ws : List Nat) (hw : lds d k 8 = ints ws) (hws : ∀ x ∈ ws, x < 18446744073709551616) :
    Calls Tryz.prog 19 #[.pointer (some ⟨v, 0, none⟩), .int .i64 i] w fun e w' => D6 ws e ∧ Below w.heap.size w w' := by
  have hu := Tryz.underlying42
  have hsl := inode_ n m s i h.ok
  rw [plc_yes hi, ← hk] at hsl
  have hin := inB_out (ok_out h.ok).1
  have hk9 : k ≤ 1000000000 := by omega
  have hl8 : ws.length = 8 := by rw [← ints_length, ← hw, lds_length]
  have HS := Lib.hid hsl
  have HV := Lib.hid h
  have HLN : Hid (∀ {W : World}, Below w.heap.size w W → _) := fun {W} hb => line_ (h.dev.below hb) k 8 hk9 (by decide)
  rw [hw] at HLN
  have HDE : Hid (∀ {W : World} {A : Option Addr} {c : Nat}, Rk .u64 W A (ints ws) → _) := fun {W A c} hr => decode_ (w := W) (A := A) hr c hl8 hws
  have h2 := h.below (bl_alloc (Below.refl _ _) (.cells #[.int .i64 0, .int .i64 0, .int .i64 0] 42))
  obtain ⟨c0, c1, c2, c3⟩ := h2.cells
  clear h h2 hi hsl hk hin hw hws hl8 hk9
  go_enter Tryz.func19, Tryz.ntmps19
  go_wp2_with fail
  refine (HS.out _).mono ?_
  rintro e w1 ⟨rfl, hb⟩
  have hq1 := Lib.hid (blk_bl (alloc_new w (.cells #[.int .i64 0, .int .i64 0, .int .i64 0] 42)) hb)
  have HB1 := Lib.hid (bl_then (bl_alloc (Below.refl _ _) _) hb)
  have n0 := (HV.out.below HB1.out).cells.1
  clear hb
  go_wp2_with fail
  refine (HLN.out HB1.out).mono ?_
  rintro e w2 ⟨v2, rfl, hown, hb⟩
  obtain ⟨A2, c2, rfl⟩ := own_slice hown
  have hq2 := Lib.hid (blk_bl hq1.out hb)
  have HB2 := Lib.hid (bl_then HB1.out hb)
  have HR2 := Lib.hid (own_rk (k := .u64) hown).1
  clear hb hown
  go_wp2_with fail
  refine (HDE.out HR2.out).mono ?_
  rintro e w3 ⟨he, hb⟩
  obtain ⟨q0, q1, q2, qe, he2, hd⟩ : ∃ q0 q1 q2 qe, e = .returned (.tuple #[.agg #[.int .i64 q0, .int .i64 q1, .int .i64 q2], .int .i64 qe]) ∧ D6 ws (.returned (.tuple #[.agg #[.int .i64 q0, .int .i64 q1, .int .i64 q2], .int .i64 qe])) := ⟨_, _, _, _, he, rfl⟩
  subst he2
  have HD := Lib.hid hd
  have hq3 := Lib.hid (blk_bl hq2.out hb)
  have HB3 := Lib.hid (bl_then HB2.out hb)
  have l0 := cell_of hq3.out 0
  have l1 := cell_of hq3.out 1
  have l2 := cell_of hq3.out 2
  have f0 := free_of hq3.out 0
  have f1 := free_of hq3.out 1
  have f2 := free_of hq3.out 2
  clear he hd hb
  go_wp2_with fail
  exact bodyPost_ret (res_ct (u := 5) rfl _ _ w.heap.size 42 #[.int .i64 q0, .int .i64 q1, .int .i64 q2] (0, 0) _ rfl (put3 hq3.out _ _ _) hu rfl (by kernel_rfl)) rfl ⟨HD.out, bl_put3 HB3.out (Nat.le_refl _) _ _ _⟩

theorem inode_out {w : World} {v b n m s : Nat} {d : Dev} {g : Lay} (h : VolIs w v b n m s d g) (i : Int) (hi : i < 0 ∨ (m : Int) ≤ i) :
    Calls Tryz.prog 19 #[.pointer (some ⟨v, 0, none⟩), .int .i64 i] w fun e w' => e = .returned (.tuple #[.agg #[.int .i64 0, .int .i64 (-1), .int .i64 0], .int .i64 9]) ∧ Below w.heap.size w w' := by
  have hu := Tryz.underlying42
  have hsl := inode_ n m s i h.ok
  rw [plc_no hi] at hsl
  have HS := Lib.hid hsl
  have h2 := h.below (bl_alloc (Below.refl _ _) (.cells #[.int .i64 0, .int .i64 0, .int .i64 0] 42))
  obtain ⟨c0, c1, c2, c3⟩ := h2.cells
  clear h h2 hi hsl
  go_enter Tryz.func19, Tryz.ntmps19
  go_wp2_with fail
  refine (HS.out _).mono ?_
  rintro e w1 ⟨rfl, hb⟩
  have hq1 := Lib.hid (blk_bl (alloc_new w (.cells #[.int .i64 0, .int .i64 0, .int .i64 0] 42)) hb)
  have HB1 := Lib.hid (bl_then (bl_alloc (Below.refl _ _) _) hb)
  clear hb
  go_wp2_with fail
  refine (none_ _).mono ?_
  rintro e w2 ⟨rfl, hb⟩
  have hq2 := Lib.hid (blk_bl hq1.out hb)
  have HB2 := Lib.hid (bl_then HB1.out hb)
  have l0 := cell_of hq2.out 0
  have l1 := cell_of hq2.out 1
  have l2 := cell_of hq2.out 2
  have f0 := free_of hq2.out 0
  have f1 := free_of hq2.out 1
  have f2 := free_of hq2.out 2
  clear hb
  go_wp2_with fail
  exact bodyPost_ret (res_ct (u := 5) rfl _ _ w.heap.size 42 #[.int .i64 0, .int .i64 (-1), .int .i64 0] (0, 0) _ rfl (put3 hq2.out _ _ _) hu rfl (by kernel_rfl)) rfl ⟨rfl, bl_put3 HB2.out (Nat.le_refl _) _ _ _⟩

end Go.Proofs.YtgnagbbdnlmgeaaGreat.Vo
end

/- What the program and the document read of one device's words: inodes, slots, the record, the bitmap, blocks, side by side. -/
section
set_option linter.unusedVariables false
set_option linter.unusedSimpArgs false
set_option maxHeartbeats 2000000
set_option maxRecDepth 100000
namespace Go.Proofs.YtgnagbbdnlmgeaaGreat.Jh
open Go Go.RowKit
open Go.Proofs.YtgnagbbdnlmgeaaGreat.Ob Go.Proofs.YtgnagbbdnlmgeaaGreat.Ba Go.Proofs.YtgnagbbdnlmgeaaGreat.Ko Go.Proofs.YtgnagbbdnlmgeaaGreat.Ge Go.Proofs.YtgnagbbdnlmgeaaGreat.Oc Go.Proofs.YtgnagbbdnlmgeaaGreat.Pk Go.Proofs.YtgnagbbdnlmgeaaGreat.Su Go.Proofs.YtgnagbbdnlmgeaaGreat.Rf Go.Proofs.YtgnagbbdnlmgeaaGreat.Dv Go.Proofs.YtgnagbbdnlmgeaaGreat.Vo Go.Proofs.YtgnagbbdnlmgeaaGreat.Ra Go.Proofs.YtgnagbbdnlmgeaaGreat.Lo Go.Proofs.YtgnagbbdnlmgeaaGreat.Li Go.Proofs.YtgnagbbdnlmgeaaGreat.Vs Go.Proofs.YtgnagbbdnlmgeaaGreat.In Go.Proofs.YtgnagbbdnlmgeaaGreat.Iq Go.Proofs.YtgnagbbdnlmgeaaGreat.Je Go.Proofs.YtgnagbbdnlmgeaaGreat.Jd Go.Proofs.YtgnagbbdnlmgeaaGreat.Bm Go.Proofs.YtgnagbbdnlmgeaaGreat.R0 Go.Proofs.YtgnagbbdnlmgeaaGreat.Rj

/-- words of their kind -/
theorem dws_nat (h l : List Nat) (T : Nat) (hh : ∀ x ∈ h, x < 18446744073709551616) (hl : ∀ x ∈ l, x < 18446744073709551616) :
    ∃ ws : List Nat, dws (ints h) (ints l) T = ints ws ∧ ∀ x ∈ ws, x < 18446744073709551616 := by
  have key : ∀ z ∈ dws (ints h) (ints l) T, ∃ x : Nat, z = (x : Int) ∧ x < 18446744073709551616 := by
    intro z hz
    unfold dws at hz
    rcases List.mem_append.1 hz with hz | hz
    · obtain ⟨x, hx, rfl⟩ := List.mem_map.1 hz
      exact ⟨x, rfl, hh x hx⟩
    · obtain ⟨j, -, rfl⟩ := List.mem_map.1 hz
      unfold rwd
      split
      · exact ⟨0, rfl, by decide⟩
      · rename_i hne
        cases he : (ints l)[(8 + j) % (ints l).length]? with
        | none => exact ⟨0, by simp [List.getD_eq_getElem?_getD, he], by decide⟩
        | some y =>
          have hm := List.mem_of_getElem? he
          obtain ⟨x, hx, rfl⟩ := List.mem_map.1 hm
          exact ⟨x, by simp [List.getD_eq_getElem?_getD, he], hl x hx⟩
  generalize dws (ints h) (ints l) T = L at *
  refine ⟨L.map Int.toNat, ?_, ?_⟩
  · unfold ints
    rw [List.map_map]
    conv => lhs; rw [← List.map_id L]
    apply List.map_congr_left
    intro z hz
    obtain ⟨x, rfl, -⟩ := key z hz
    rfl
  · intro x hx
    obtain ⟨z, hz, rfl⟩ := List.mem_map.1 hx
    obtain ⟨x, rfl, hx9⟩ := key z hz
    exact hx9

theorem lds_sub {ws : List Nat} {k n : Nat} (h : k + n ≤ ws.length) : lds (Pm.devOf (ints ws)) k n = ints ((ws.drop k).take n) := by
  rw [Md.lds_drop (by show k + n ≤ (ints ws).length; rw [ints_length]; exact h), words_devOf, ints_dt]

theorem inode_pair {W : World} {v b n m s : Nat} {g : Lay} {ws : List Nat} (hv : VolIs W v b n m s (Pm.devOf (ints ws)) g) {a : Addr} {T c8 : Nat} (hr : Rk .u64 W (some a) (ints ws)) (hT : ws.length = T) (hc : T ≤ c8) (hlt : ∀ x ∈ ws, x < 18446744073709551616) (hT9 : T ≤ 1000000) (hfit : 16 + 8 * (m : Int) ≤ T) (p2 p3 p4 p5 i : Int) :
    ∃ (x y z : Int) (is : Bool) (e : Int), ((is = true ∧ e = 0) ∨ (is = false ∧ e = if i < 0 ∨ (m : Int) ≤ i then 9 else 2)) ∧
      (∀ {W' : World}, Below W.heap.size W W' → Calls Tryz.prog 19 #[.pointer (some ⟨v, 0, none⟩), .int .i64 i] W' fun o w' => o = .returned (.tuple #[.agg #[.int .i64 x, .int .i64 y, .int .i64 z], .int .i64 e]) ∧ Below W'.heap.size W' w') ∧
      (∀ {W' : World}, Below W.heap.size W W' → Calls Tryz.prog 20 #[.agg #[.int .i64 n, .int .i64 m, .int .i64 s, .int .i64 16, .int .i64 p2, .int .i64 p3, .int .i64 p4, .int .i64 p5, .slice (some a) T c8], .int .i64 i] W' fun o w' => o = .returned (.tuple #[.agg #[.int .i64 x, .int .i64 y, .int .i64 z], .bool is]) ∧ Below W'.heap.size W' w') := by
  by_cases hi : i < 0 ∨ (m : Int) ≤ i
  · exact ⟨0, -1, 0, false, 9, .inr ⟨rfl, by rw [if_pos hi]⟩, fun hb => inode_out (hv.below hb) i hi, fun hb => r15inode_out n m s p2 p3 p4 p5 i hi⟩
  · obtain ⟨k, hk⟩ : ∃ k : Nat, (k : Int) = 16 + 8 * i := ⟨(16 + 8 * i).toNat, by omega⟩
    have hk8 : k + 8 ≤ T := by omega
    have hl := lds_sub (ws := ws) (k := k) (n := 8) (by omega)
    have hlt8 : ∀ x ∈ (ws.drop k).take 8, x < 18446744073709551616 := fun x hx => hlt x (List.mem_of_mem_drop (List.mem_of_mem_take hx))
    have h1 : ∀ {W' : World}, Below W.heap.size W W' → _ := fun {W'} hb => inode_get (hv.below hb) i (by omega) k hk _ hl hlt8
    have h2 : ∀ {W' : World}, Below W.heap.size W W' → _ := fun {W'} hb => r15inode_get (hr.below hb) hT hc hlt n m s p2 p3 p4 p5 i (by omega) k hk hk8 (by omega)
    refine ⟨_, _, _, ok6 ((ws.drop k).take 8), if ok6 ((ws.drop k).take 8) then 0 else 2, ?_, fun hb => h1 hb, fun hb => h2 hb⟩
    cases h9 : ok6 ((ws.drop k).take 8) with
    | true => exact .inl ⟨rfl, rfl⟩
    | false => exact .inr ⟨rfl, by rw [if_neg hi]; rfl⟩

theorem slot_pair {W : World} {v b n m s : Nat} {g : Lay} {ws : List Nat} (hv : VolIs W v b n m s (Pm.devOf (ints ws)) g) {a : Addr} {T c8 : Nat} (hr : Rk .u64 W (some a) (ints ws)) (hT : ws.length = T) (hc : T ≤ c8) (hlt : ∀ x ∈ ws, x < 18446744073709551616) (hT9 : T ≤ 1000000) (hfit : 16 + 8 * (m : Int) + n ≤ T) (p3 p4 p5 i : Int) :
    ∃ (x y z : Int) (is : Bool) (e : Int), ((is = true ∧ e = 0 ∧ ¬ (i < 0 ∨ (n : Int) ≤ i)) ∨ (is = false ∧ e = if i < 0 ∨ (n : Int) ≤ i then 9 else 2)) ∧
      (∀ {W' : World}, Below W.heap.size W W' → Calls Tryz.prog 21 #[.pointer (some ⟨v, 0, none⟩), .int .i64 i] W' fun o w' => o = .returned (.tuple #[.agg #[.int .i64 x, .int .i64 y, .int .i64 z], .int .i64 e]) ∧ Below W'.heap.size W' w') ∧
      (∀ {W' : World}, Below W.heap.size W W' → Calls Tryz.prog 22 #[.agg #[.int .i64 n, .int .i64 m, .int .i64 s, .int .i64 16, .int .i64 (16 + 8 * m), .int .i64 p3, .int .i64 p4, .int .i64 p5, .slice (some a) T c8], .int .i64 i] W' fun o w' => o = .returned (.tuple #[.agg #[.int .i64 x, .int .i64 y, .int .i64 z], .bool is]) ∧ Below W'.heap.size W' w') := by
  by_cases hi : i < 0 ∨ (n : Int) ≤ i
  · exact ⟨0, 0, 0, false, 9, .inr ⟨rfl, by rw [if_pos hi]⟩, fun hb => slot_out (hv.below hb) i hi, fun hb => r15slot_out n m s _ p3 p4 p5 i hi⟩
  · obtain ⟨k, hk⟩ : ∃ k : Nat, (k : Int) = 16 + 8 * m + i := ⟨(16 + 8 * m + i).toNat, by omega⟩
    have hkT : k < T := by omega
    obtain ⟨x, hx⟩ := some_at (l := ws) (i := k) (by omega)
    have hld : (Pm.devOf (ints ws)).load k = (x : Int) := devOf_load (ints_get hx)
    have hx9 := hlt x (List.mem_of_getElem? hx)
    obtain ⟨S0, g0⟩ : ∃ S0, S0 = (s7 x).1 := ⟨_, rfl⟩
    obtain ⟨S1, g1⟩ : ∃ S1, S1 = (s7 x).2.1 := ⟨_, rfl⟩
    obtain ⟨S2, g2⟩ : ∃ S2, S2 = (s7 x).2.2 := ⟨_, rfl⟩
    obtain ⟨S3, g3⟩ : ∃ S3 : Int, S3 = if ok7 x then 0 else 2 := ⟨_, rfl⟩
    have hS : ∀ e, SDec x (pa x) (pb x) (pc x) e → e = .returned (.tuple #[.agg #[.int .i64 S0, .int .i64 S1, .int .i64 S2], .int .i64 S3]) := by
      intro e he
      rw [g0, g1, g2, g3]
      exact sdec_is he
    have h1 : ∀ {W' : World}, Below W.heap.size W W' → _ := fun {W'} hb => slot_get (hv.below hb) i (by omega) k hk x hx9 hld (S0, S1, S2, S3) hS
    have h2 : ∀ {W' : World}, Below W.heap.size W W' → _ := fun {W'} hb => r15slot_get (hr.below hb) hT hc hlt n m s (16 + 8 * m) p3 p4 p5 i (by omega) k hk hkT (by omega) (by omega) x hx
    unfold R7 at h2
    rw [← g0, ← g1, ← g2] at h2
    refine ⟨S0, S1, S2, ok7 x, S3, ?_, fun hb => h1 hb, fun hb => h2 hb⟩
    rw [g3]
    cases h9 : ok7 x with
    | true => exact .inl ⟨rfl, if_pos rfl, hi⟩
    | false => exact .inr ⟨rfl, by rw [if_neg hi, if_neg (by simp)]⟩

theorem record_pair {W : World} {v b n m s : Nat} {g : Lay} {ws : List Nat} (hv : VolIs W v b n m s (Pm.devOf (ints ws)) g) {a : Addr} {T c8 : Nat} (hr : Rk .u64 W (some a) (ints ws)) (hT : ws.length = T) (hc : T ≤ c8) (hlt : ∀ x ∈ ws, x < 18446744073709551616) (hT9 : T ≤ 1000000) (h16 : 16 ≤ T) (p2 p3 p4 p5 : Int) :
    ∃ (x y z t u : Int),
      (∀ {W' : World}, Below W.heap.size W W' → Calls Tryz.prog 29 #[.pointer (some ⟨v, 0, none⟩)] W' fun o w' => o = .returned (.tuple #[.agg #[.int .i64 x, .int .i64 y, .int .i64 z, .int .i64 t], .int .i64 u]) ∧ Below W'.heap.size W' w') ∧
      (∀ {W' : World}, Below W.heap.size W W' → Calls Tryz.prog 30 #[.agg #[.int .i64 n, .int .i64 m, .int .i64 s, .int .i64 16, .int .i64 p2, .int .i64 p3, .int .i64 p4, .int .i64 p5, .slice (some a) T c8]] W' fun o w' => o = .returned (.tuple #[.agg #[.int .i64 x, .int .i64 y, .int .i64 z, .int .i64 t], .int .i64 u]) ∧ Below W'.heap.size W' w') := by
  have hl := lds_sub (ws := ws) (k := 8) (n := 8) (by omega)
  have hlt8 : ∀ x ∈ (ws.drop 8).take 8, x < 18446744073709551616 := fun x hx => hlt x (List.mem_of_mem_drop (List.mem_of_mem_take hx))
  exact ⟨_, _, _, _, _, fun hb => record_get (hv.below hb) _ hl hlt8, fun hb => r15record_ (hr.below hb) hT hc hlt n m s p2 p3 p4 p5 (by omega) (by omega)⟩

theorem geom_ {w : World} {v b n m s : Nat} {d : Dev} {g : Lay} (h : VolIs w v b n m s d g) :
    Calls Tryz.prog 14 #[.pointer (some ⟨v, 0, none⟩)] w fun e w' => e = .returned (.agg #[.int .i64 n, .int .i64 m, .int .i64 s]) ∧ Below w.heap.size w w' := by
  have hu := Tryz.underlying34
  have h2 := h.below (bl_alloc (Below.refl _ _) (.cells #[.int .i64 0, .int .i64 0, .int .i64 0] 34))
  obtain ⟨c0, c1, c2, c3⟩ := h2.cells
  clear h h2
  go_enter Tryz.func14, Tryz.ntmps14
  go_wp2_with fail
  exact bodyPost_ret (res_c rfl _ _ w.heap.size 34 #[.int .i64 n, .int .i64 m, .int .i64 s] (0, 0) _ rfl (alloc_new _ _) hu rfl (by kernel_rfl)) rfl ⟨rfl, bl_alloc (Below.refl _ _) _⟩

end Go.Proofs.YtgnagbbdnlmgeaaGreat.Jh
end
