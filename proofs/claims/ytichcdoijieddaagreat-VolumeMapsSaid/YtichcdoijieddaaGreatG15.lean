/- Parts of the proof, one behind the other: Md, R9, Mc, Ao. -/
import Derived.Test.YtichcdoijieddaaGreatG14
import Derived.Test.YtichcdoijieddaaGreatG12
import Derived.Test.YtichcdoijieddaaGreatG13
import Derived.Test.YtichcdoijieddaaGreatG04
import Derived.Test.YtichcdoijieddaaGreatG01
import Derived.Test.YtichcdoijieddaaGreatRows
import Derived.ProofKit
import Derived.OpenShut
import Derived.ShutString
import Derived.ChangeOld
import Derived.Below
import Derived.Lib.SmallJoins
import Derived.Deep.Slices
import Derived.Deep.Fields
import Derived.ChangeSame

/- The record's words in a device: written, fenced, cleared. -/
section
set_option linter.unusedVariables false
set_option linter.unusedSimpArgs false
set_option maxHeartbeats 2000000
set_option maxRecDepth 100000
namespace Go.Proofs.YtichcdoijieddaaGreat.Md
open Go Go.RowKit
open Go.Proofs.YtichcdoijieddaaGreat.Ob Go.Proofs.YtichcdoijieddaaGreat.Ba Go.Proofs.YtichcdoijieddaaGreat.Ko Go.Proofs.YtichcdoijieddaaGreat.Ge Go.Proofs.YtichcdoijieddaaGreat.Oc Go.Proofs.YtichcdoijieddaaGreat.Pk Go.Proofs.YtichcdoijieddaaGreat.Su Go.Proofs.YtichcdoijieddaaGreat.Rf Go.Proofs.YtichcdoijieddaaGreat.Dv Go.Proofs.YtichcdoijieddaaGreat.Vo Go.Proofs.YtichcdoijieddaaGreat.Ra Go.Proofs.YtichcdoijieddaaGreat.Lo Go.Proofs.YtichcdoijieddaaGreat.Li Go.Proofs.YtichcdoijieddaaGreat.Vs Go.Proofs.YtichcdoijieddaaGreat.Bm Go.Proofs.YtichcdoijieddaaGreat.R0 Go.Proofs.YtichcdoijieddaaGreat.Rj Go.Proofs.YtichcdoijieddaaGreat.Ma

def rl (x y z t : Nat) : List Nat := line (pv (f16s [1, x, y, z])) t
def nz (l : List Nat) : Nat := (l.filter fun x => decide (x ≠ 0)).length

theorem pv4 (x y z : Nat) : pv (f16s [1, x, y, z]) = 1 + 65536 * x + 4294967296 * y + 281474976710656 * z := by
  simp only [f16s, List.map_cons, List.map_nil, pv]
  omega
theorem rl_lt {x y z t : Nat} (h : rOk x y z t) : ∀ u ∈ rl x y z t, u < 18446744073709551616 := by
  obtain ⟨⟨-, a⟩, ⟨-, b⟩, ⟨-, c⟩, -, d⟩ := h
  have hs := sum7_lt (pv (f16s [1, x, y, z])) t
  have hp := pv4 x y z
  intro u hu
  simp only [rl, line, List.mem_cons, List.not_mem_nil, or_false] at hu
  omega
theorem d9_line {x y z t : Nat} (h : rOk x y z t) {e : Ending} (hd : D9 (rl x y z t) e) : e = .returned (.tuple #[.agg #[.int .i64 x, .int .i64 y, .int .i64 z, .int .i64 t], .int .i64 1]) := by
  have h0 := h
  obtain ⟨⟨-, a⟩, ⟨-, b⟩, ⟨-, c⟩, -, d⟩ := h
  have hp := pv4 x y z
  have e0 : (rl x y z t).getD 0 0 = pv (f16s [1, x, y, z]) := rfl
  have e1 : (rl x y z t).getD 1 0 = t := rfl
  have k1 : pv (f16s [1, x, y, z]) / 65536 % 65536 = x := by omega
  have k2 : pv (f16s [1, x, y, z]) / 4294967296 % 65536 = y := by omega
  have k3 : pv (f16s [1, x, y, z]) / 281474976710656 = z := by omega
  have k4 : min t 65535 = t := by omega
  have hm : mxl (rl x y z t) ≠ 0 := by
    intro h9
    have := (mxl_zero _).1 h9 (pv (f16s [1, x, y, z])) (by simp [rl, line])
    omega
  have hok : ok9 (rl x y z t) = true := by
    unfold ok9
    rw [e0, e1, k1, k2, k3, k4, decide_eq_true h0, Bool.true_and]
    exact decide_eq_true rfl
  unfold D9 r9 st9 at hd
  rw [if_pos ⟨hm, hok⟩, if_neg hm, hok, if_pos rfl, e0, e1, k1, k2, k3, k4] at hd
  exact hd
theorem d9_zeros {e : Ending} (hd : D9 (List.replicate 8 0) e) : e = .returned (.tuple #[.agg #[.int .i64 0, .int .i64 0, .int .i64 0, .int .i64 0], .int .i64 0]) := by
  have hm : mxl (List.replicate 8 0) = 0 := rfl
  unfold D9 r9 st9 at hd
  rw [if_pos hm, if_neg (fun h => h.1 hm)] at hd
  exact hd

theorem lds_drop {d : Dev} {k n : Nat} (hk : k + n ≤ d.las.length) : lds d k n = ((Pm.wordsOf d).drop k).take n := by
  apply List.ext_getElem?
  intro i
  by_cases hi : i < n
  · unfold lds
    rw [List.getElem?_map, List.getElem?_range hi, List.getElem?_take_of_lt hi, List.getElem?_drop, Pm.wordsOf_get d (k + i) (by omega)]
    rfl
  · rw [List.getElem?_eq_none (by rw [lds_length]; omega), List.getElem?_eq_none (by simp; omega)]
theorem pgo_le (all : Bool) : ∀ (xs : List Int) (a : Nat) (L : List Int) (c : Nat) (ls : List Nat), (Wp.pgo all xs a (L, c, ls)).2.1 ≤ c + xs.length ∧ (Wp.pgo all xs a (L, c, ls)).2.2.length ≤ ls.length + xs.length
  | [], a, L, c, ls => ⟨Nat.le_refl _, Nat.le_refl _⟩
  | x :: r, a, L, c, ls => by
    unfold Wp.pgo
    have hal : (addLn ls (a / 8)).length ≤ ls.length + 1 := by unfold addLn; split <;> simp
    split
    · obtain ⟨q1, q2⟩ := pgo_le all r (a + 1) L c ls
      simp only [List.length_cons]
      omega
    · obtain ⟨q1, q2⟩ := pgo_le all r (a + 1) (L.set a x) (c + 1) (addLn ls (a / 8))
      simp only [List.length_cons]
      omega

/-- the record is written -/
theorem rec_put (d : Dev) (hf : d.fuse = none) (hL : 16 ≤ d.las.length) (l : List Nat) (h8 : l.length = 8) :
    ∃ d', putGo true (ints l) 8 ⟨d, 0, []⟩ = (d', some 8) ∧ lds d' 8 8 = ints l ∧ d'.fuse = none ∧ d'.las.length = d.las.length ∧ d'.steps ≤ d.steps + 16 := by
  have hl : (ints l).length = 8 := by rw [ints_length, h8]
  obtain ⟨d', e, hp⟩ := Wp.put_many d hf (ints l) 8 (by rw [hl]; omega)
  rw [hl] at e hp
  refine ⟨d', e, ?_, hp.fuse, by rw [hp.las], ?_⟩
  · have := Vh.lds_wput (k := 8) hp.words (by rw [hl, Pm.wordsOf_length]; omega)
    rw [hl] at this
    exact this
  · have := hp.steps
    rw [show nline 8 8 = 1 from by decide] at this
    omega
/-- all lasts -/
theorem rec_fence {d : Dev} (hw : d.Wf) (hf : d.fuse = none) (hL : 16 ≤ d.las.length) : lds d.fenced 8 8 = lds d 8 8 ∧ d.fenced.fuse = none ∧ d.fenced.las.length = d.las.length ∧ d.fenced.steps ≤ d.steps + 16 := by
  obtain ⟨q1, q2, q3, q4⟩ := fenced_words hw hf
  refine ⟨?_, q2, q3, by omega⟩
  rw [lds_drop (by omega), lds_drop (by omega), q1]
/-- it is cleared -/
theorem rec_clear (d : Dev) (hf : d.fuse = none) (hL : 16 ≤ d.las.length) (l : List Nat) (hl : lds d 8 8 = ints l) :
    ∃ d', putGo false (ints (List.replicate 8 0)) 8 ⟨d, 0, []⟩ = (d', some (nz l)) ∧ lds d' 8 8 = ints (List.replicate 8 0) ∧ d'.fuse = none ∧ d'.las.length = d.las.length ∧ d'.steps ≤ d.steps + 16 := by
  have hz : ints (List.replicate 8 0) = List.replicate 8 0 := rfl
  obtain ⟨d', e, hp⟩ := Wp.put_gen d false (List.replicate 8 0) 8 d (Pm.wordsOf d) 0 [] ⟨rfl, hf, rfl, rfl, rfl⟩ (by simp; omega) (by simp)
  obtain ⟨q1, q2⟩ := pgo_clear 8 8 (Pm.wordsOf d) 0 [] (by rw [Pm.wordsOf_length]; omega)
  obtain ⟨q3, q4⟩ := pgo_le false (List.replicate 8 0) 8 (Pm.wordsOf d) 0 []
  have hcnt : (((Pm.wordsOf d).drop 8).take 8).filter (fun x => decide (x ≠ 0)) = ints (l.filter fun x => decide (x ≠ 0)) := by
    rw [← lds_drop (by omega), hl]
    clear hl
    induction l with
    | nil => rfl
    | cons a r ih =>
      simp only [ints, List.map_cons] at ih ⊢
      by_cases ha : a = 0
      · subst ha
        simpa using ih
      · rw [List.filter_cons_of_pos (by simp; omega), List.filter_cons_of_pos (by simpa using ha), ih]
        rfl
  rw [hcnt, ints_length, Nat.zero_add] at q2
  rw [q1] at hp
  rw [q2] at e hp q3
  refine ⟨d', e, ?_, hp.fuse, by rw [hp.las], ?_⟩
  · have := Vh.lds_wput (k := 8) (xs := List.replicate 8 0) hp.words (by rw [Pm.wordsOf_length]; simp; omega)
    exact this
  · have := hp.steps
    rw [List.length_replicate] at q3 q4
    rw [List.length_nil] at q4
    unfold nz at *
    omega

end Go.Proofs.YtichcdoijieddaaGreat.Md
end

/- The document's record: may, line (cantleref09). -/
section
set_option linter.unusedVariables false
set_option linter.unusedSimpArgs false
set_option maxHeartbeats 2000000
set_option maxRecDepth 100000
namespace Go.Proofs.YtichcdoijieddaaGreat.R9
open Go Go.RowKit
open Go.Proofs.YtichcdoijieddaaGreat.Ob Go.Proofs.YtichcdoijieddaaGreat.Ba Go.Proofs.YtichcdoijieddaaGreat.Oc Go.Proofs.YtichcdoijieddaaGreat.Pk Go.Proofs.YtichcdoijieddaaGreat.Su Go.Proofs.YtichcdoijieddaaGreat.Cc Go.Proofs.YtichcdoijieddaaGreat.Cr Go.Proofs.YtichcdoijieddaaGreat.Ge Go.Proofs.YtichcdoijieddaaGreat.Rj

theorem rmay_yes (s f t n : Int) (h : rOk s f t n) (w : World) : Calls Tryz.prog 29 #[.agg #[.int .i64 s, .int .i64 f, .int .i64 t, .int .i64 n]] w fun e w' => e = .returned (.bool true) ∧ Below w.heap.size w w' := by
  have hu := Tryz.underlying74
  obtain ⟨⟨a0, a1⟩, ⟨a2, a3⟩, ⟨a4, a5⟩, a6, a7⟩ := h
  have b1 : s ≤ 65533 := by omega
  have b2 : f ≤ 65533 := by omega
  have b3 : t ≤ 65533 := by omega
  have b4 : 0 < n := by omega
  have b5 : n < 65535 := by omega
  clear a1 a3 a5 a6 a7
  go_enter Tryz.func29, Tryz.ntmps29
  go_wp2
  go_ret
  exact ⟨rfl, bl_alloc (Below.refl _ _) _⟩

theorem rmay_no (s f t n : Int) (h : ¬ rOk s f t n) (w : World) : Calls Tryz.prog 29 #[.agg #[.int .i64 s, .int .i64 f, .int .i64 t, .int .i64 n]] w fun e w' => e = .returned (.bool false) ∧ Below w.heap.size w w' := by
  have hu := Tryz.underlying74
  have hc : s < 0 ∨ (0 ≤ s ∧ 65533 < s) ∨ (0 ≤ s ∧ s ≤ 65533 ∧ f < 0) ∨ (0 ≤ s ∧ s ≤ 65533 ∧ 0 ≤ f ∧ 65533 < f) ∨ (0 ≤ s ∧ s ≤ 65533 ∧ 0 ≤ f ∧ f ≤ 65533 ∧ t < 0) ∨ (0 ≤ s ∧ s ≤ 65533 ∧ 0 ≤ f ∧ f ≤ 65533 ∧ 0 ≤ t ∧ 65533 < t) ∨
      (0 ≤ s ∧ s ≤ 65533 ∧ 0 ≤ f ∧ f ≤ 65533 ∧ 0 ≤ t ∧ t ≤ 65533 ∧ n ≤ 0) ∨ (0 ≤ s ∧ s ≤ 65533 ∧ 0 ≤ f ∧ f ≤ 65533 ∧ 0 ≤ t ∧ t ≤ 65533 ∧ 0 < n ∧ 65535 ≤ n) := by
    unfold rOk bOk at h
    omega
  clear h
  rcases hc with c1 | ⟨c1, c2⟩ | ⟨c1, c2, c3⟩ | ⟨c1, c2, c3, c4⟩ | ⟨c1, c2, c3, c4, c5⟩ | ⟨c1, c2, c3, c4, c5, c6⟩ | ⟨c1, c2, c3, c4, c5, c6, c7⟩ | ⟨c1, c2, c3, c4, c5, c6, c7, c8⟩
  all_goals
    (try have e8 : decide (n < 65535) = false := decide_eq_false (by omega))
    go_enter Tryz.func29, Tryz.ntmps29
    go_wp2
    go_ret
    exact ⟨rfl, bl_alloc (Below.refl _ _) _⟩

theorem renc_ (x y z t : Nat) (h : rOk x y z t) (w : World) :
    Calls Tryz.prog 32 #[.agg #[.int .i64 x, .int .i64 y, .int .i64 z, .int .i64 t]] w fun e w' => ∃ v, e = .returned v ∧ w'.ownsRow w.heap.size 60 1 v 8 (ivs .u64 (ints (line (pv (f16s [1, x, y, z])) t))) ∧ Below w.heap.size w w' := by
  have hu := Tryz.underlying74
  obtain ⟨⟨a0, a1⟩, ⟨a2, a3⟩, ⟨a4, a5⟩, a6, a7⟩ := h
  have hx9 : x < 65536 := by omega
  have hy9 : y < 65536 := by omega
  have hz9 : z < 65536 := by omega
  have ht9 : t < 18446744073709551616 := by omega
  obtain ⟨q, hq⟩ : ∃ q, q = 1 + 65536 * x + 4294967296 * y + 281474976710656 * z := ⟨_, rfl⟩
  have hqp : pv (f16s [1, x, y, z]) = q := by simp [pv, f16s, hq]; omega
  have hq9 : q < 18446744073709551616 := by omega
  have hqi : 1 + 65536 * (x : Int) + 4294967296 * (y : Int) + 281474976710656 * (z : Int) = (q : Int) := by omega
  rw [hqp]
  obtain ⟨i0, hinf, hz0, hz1, hz2⟩ := info_parts info_u64
  clear hq hqp a0 a1 a2 a3 a4 a5 a6
  go_enter Tryz.func32, Tryz.ntmps32
  go_wp2_with fail
  have hrb := rbytes_ (rhead (w := w.alloc (.cells #[.int .i64 x, .int .i64 y, .int .i64 z, .int .i64 t] 74)) q t) (head7_lt hq9 ht9) 7 (by simp [head7])
  rw [show (head7 q t).length = 7 from rfl, World.size_alloc] at hrb
  have HSM : Hid (∀ w, Calls Tryz.prog 54 #[.string (txt (octs (head7 q t)))] w fun e w' => e = .returned (.int .u32 (sum7 q t : Nat)) ∧ w = w') := fun w => rsum32_ (octs_lt _) (by rw [octs_length]; simp [head7]) w
  have hrow : ((w.alloc (.cells #[.int .i64 x, .int .i64 y, .int .i64 z, .int .i64 t] 74)).alloc (.cells #[.int .u64 q, .int .u64 t, .int .u64 0, .int .u64 0, .int .u64 0, .int .u64 0, .int .u64 0] 60)).ownsRow w.heap.size 60 1 (.slice (some ⟨w.heap.size + 1, 0, none⟩) 7 7) 7 (ivs .u64 (ints (head7 q t))) :=
    own_new (k := .u64) (l := ints (head7 q t)) (by have := alloc_new (w.alloc (.cells #[.int .i64 x, .int .i64 y, .int .i64 z, .int .i64 t] 74)) (.cells #[.int .u64 q, .int .u64 t, .int .u64 0, .int .u64 0, .int .u64 0, .int .u64 0, .int .u64 0] 60); rw [World.size_alloc] at this; exact this) (Nat.le_succ _) rfl (by unfold maxLen; omega)
  have HROW := Lib.hid hrow
  have hs9 := sum7_lt q t
  have HBA := Lib.hid (bl_alloc (bl_alloc (Below.refl w.heap.size w) (.cells #[.int .i64 x, .int .i64 y, .int .i64 z, .int .i64 t] 74)) (.cells #[.int .u64 q, .int .u64 t, .int .u64 0, .int .u64 0, .int .u64 0, .int .u64 0, .int .u64 0] 60))
  clear hrow
  generalize txt (octs (head7 q t)) = S at *
  have HSE : Hid (line q t = head7 q t ++ [sum7 q t]) := rfl
  generalize sum7 q t = u at *
  refine hrb.mono ?_
  clear hrb
  rintro e w3 ⟨rfl, hb3⟩
  have hb3' := bl_then HBA.out (show Below ((w.alloc (.cells #[.int .i64 x, .int .i64 y, .int .i64 z, .int .i64 t] 74)).alloc (.cells #[.int .u64 q, .int .u64 t, .int .u64 0, .int .u64 0, .int .u64 0, .int .u64 0, .int .u64 0] 60)).heap.size ((w.alloc (.cells #[.int .i64 x, .int .i64 y, .int .i64 z, .int .i64 t] 74)).alloc (.cells #[.int .u64 q, .int .u64 t, .int .u64 0, .int .u64 0, .int .u64 0, .int .u64 0, .int .u64 0] 60)) w3 from hb3)
  have hrow3 := own_bl HROW.out hb3
  have HB3 := Lib.hid hb3'
  have HOW := Lib.hid (fun o => own_kp (W' := w3.alloc o) hrow3 (fun k _ hk => Below.heap_alloc _ _ k hk))
  have HR3 := Lib.hid hrow3
  clear hb3 hb3' hrow3
  go_wp2_with (first | (go_at_call 54; refine (HSM.out _).mono ?_; rintro e w4 ⟨rfl, rfl⟩) |
    (at_builtin; refine wpList_append_own _ rfl (.tmp 25) (.tmp 30) 22 rfl w.heap.size 60 i0 (.int .u64 0) 1 8 Tryz.underlying22 hinf hz0 hz1 hz2 rfl (by decide) _ 7 _ rfl (HOW.out _) ⟨w3.heap.size, 0, none⟩ 1 1 [.int .u64 u] rfl rfl (one_at _ _ _) (by intro u hu; simp at hu; subst hu; rfl) (by unfold maxLen; omega) (by omega) (by have h1 := HB3.out.size; simp; omega) ?_; intro v' w7 hown' hgrow _; (have HO := Lib.hid hown'); (have HG := Lib.hid hgrow); clear hown' hgrow))
  go_ret
  refine ⟨_, rfl, ?_, bl_grown (bl_alloc HB3.out _) HG.out (own_lo HR3.out)⟩
  rw [HSE.out, ints_append, ivs_append]
  exact HO.out

end Go.Proofs.YtichcdoijieddaaGreat.R9
end

/- VolumeMaps: the walk. -/
section
set_option linter.unusedVariables false
set_option linter.unusedSimpArgs false
set_option maxHeartbeats 2000000
set_option maxRecDepth 100000
namespace Go.Proofs.YtichcdoijieddaaGreat.Mc
open Go Go.RowKit
open Go.Proofs.YtichcdoijieddaaGreat.Ob Go.Proofs.YtichcdoijieddaaGreat.Ba Go.Proofs.YtichcdoijieddaaGreat.Ko Go.Proofs.YtichcdoijieddaaGreat.Ge Go.Proofs.YtichcdoijieddaaGreat.Oc Go.Proofs.YtichcdoijieddaaGreat.Pk Go.Proofs.YtichcdoijieddaaGreat.Su Go.Proofs.YtichcdoijieddaaGreat.Rf Go.Proofs.YtichcdoijieddaaGreat.Dv Go.Proofs.YtichcdoijieddaaGreat.Vo Go.Proofs.YtichcdoijieddaaGreat.Ra Go.Proofs.YtichcdoijieddaaGreat.Lo Go.Proofs.YtichcdoijieddaaGreat.Li Go.Proofs.YtichcdoijieddaaGreat.Vs Go.Proofs.YtichcdoijieddaaGreat.Bm Go.Proofs.YtichcdoijieddaaGreat.R0 Go.Proofs.YtichcdoijieddaaGreat.Rj Go.Proofs.YtichcdoijieddaaGreat.Ma Go.Proofs.YtichcdoijieddaaGreat.Md

theorem only_upd {q : Nat} {w w' : World} (o : Only (some ⟨q, 0, none⟩) w w') : Upd [q] w w' :=
  ⟨o.os, o.tape, o.output, Nat.le_of_eq o.size.symm, fun k _ hk => o.block k (fun a ha e => hk (by cases ha; simp at e; simp [e]))⟩
theorem RBkeep {w w' : World} {A : Option Addr} {l : List Bool} (h : RB w A l) (hk : ∀ a, A = some a → w'.heap[a.block]? = w.heap[a.block]?) (hs : w.heap.size ≤ w'.heap.size) : RB w' A l := by
  intro i x hi
  obtain ⟨a, rfl, h1, h2⟩ := h i x hi
  refine ⟨a, rfl, Nat.lt_of_lt_of_le h1 hs, ?_⟩
  rw [World.cell?_of_block (w := w) (a := a.add i) (by rw [add_block]; exact hk a rfl)]
  exact h2

/-- a world behind another -/
structure Bl (w W : World) : Prop where
  below : Below w.heap.size w W

theorem ylp {w W W' : World} {q : Nat} {x : Value} (h : W.cell? ⟨q, 8, none⟩ = some x ∧ Bl w W) (hb : Below W.heap.size W W') : W'.cell? ⟨q, 8, none⟩ = some x ∧ Bl w W' := by
  refine ⟨?_, ⟨bl_then h.2.below hb⟩⟩
  have hq : q < W.heap.size := by
    rcases Nat.lt_or_ge q W.heap.size with h9 | h9
    · exact h9
    · have h8 : W.heap[q]? = none := Array.getElem?_eq_none h9
      have h7 := h.1
      simp [World.cell?, h8] at h7
  rw [(bcell hb).1 q 8 hq]
  exact h.1

/-- what is kept while the record is written -/
structure Rs (w W : World) (x y z t : Int) (v b n m s : Nat) (d : Dev) (g : Lay) : Prop where
  bl : Below w.heap.size w W
  box : W.heap[w.heap.size + 1]? = some (.cells #[.int .i64 x, .int .i64 y, .int .i64 z, .int .i64 t] 50 (0, 0))
  vol : VolIs W v b n m s d g
  foot : ∀ k ∈ g.foot b, w.heap.size + 2 ≤ k
theorem Rs.keep {w W W' : World} {x y z t : Int} {v b n m s : Nat} {d : Dev} {g : Lay} (h : Rs w W x y z t v b n m s d g) (hb : Below W.heap.size W W') : Rs w W' x y z t v b n m s d g :=
  ⟨bl_then h.bl hb, blk_bl h.box hb, h.vol.below hb, h.foot⟩
theorem Rs.to {w W W' : World} {x y z t : Int} {v b n m s : Nat} {d d' : Dev} {g : Lay} (h : Rs w W x y z t v b n m s d g) (k : DevTo W W' b g d') (hl : d'.las.length = d.las.length) : ∃ g', Rs w W' x y z t v b n m s d' g' := by
  obtain ⟨g', q1, q2, q3⟩ := h.vol.to k hl
  refine ⟨g', h.bl.trans (q3.belowB h.bl.size (fun k hk => by have := h.foot k hk; omega)), q3.blk h.box (fun hm => by have := h.foot _ hm; omega), q1, fun k hk => ?_⟩
  rcases q2 k hk with h9 | h9
  · exact h.foot k h9
  · have := lt_of h.box
    omega

theorem walk_long (r0 r1 r2 : Nat) {A : Option Addr} (ll c : Nat) {w : World} (nn : Nat) (D : Option Addr) (dl dc : Nat) (hd : 60 < dl) (hd9 : dl ≤ 9223372036854775807) (x y z t : Int) :
    Calls Tryz.prog 4 #[.agg #[.int .u8 r0, .int .u8 r1, .int .u8 r2, .slice A ll c], .int .u8 nn, .slice D dl dc, .agg #[.int .i64 x, .int .i64 y, .int .i64 z, .int .i64 t]] w fun e w' => e = .returned (.bool true) ∧ Below w.heap.size w w' := by
  go_enter Tryz.func4, Tryz.ntmps4
  go_wp2_with fail
  refine (lives15 _).mono ?_
  rintro e w1 ⟨rfl, hb1⟩
  have HB1 := Lib.hid (bl_then (bl_alloc (bl_alloc (Below.refl _ _) _) _) hb1)
  clear hb1
  go_wp2_with fail
  refine (lives15 _).mono ?_
  rintro e w2 ⟨rfl, hb2⟩
  have HB2 := Lib.hid (bl_then HB1.out hb2)
  clear hb2
  go_wp2_with fail
  go_ret
  exact ⟨rfl, HB2.out⟩

theorem walk (r0 r1 r2 : Nat) (h0 : r0 < 256) (h1 : r1 < 256) (h2 : r2 < 256) {A : Option Addr} {l : List Int} (c : Nat) {w : World} (h : Rk .u64 w A l) (hl9 : l.length ≤ 9223372036854775807) (nn : Nat) (hnn : nn < 256) {D : Option Addr} {us : List Int} (hD : Rk .i64 w D us) (dc : Nat) (hd : us.length ≤ 60) (x y z t : Int) :
    Calls Tryz.prog 4 #[.agg #[.int .u8 r0, .int .u8 r1, .int .u8 r2, .slice A l.length c], .int .u8 nn, .slice D us.length dc, .agg #[.int .i64 x, .int .i64 y, .int .i64 z, .int .i64 t]] w fun e w' => e = .returned (.bool true) ∧ Below w.heap.size w w' := by
  have hu := Tryz.underlying33
  have hu2 := Tryz.underlying50
  have hu3 := Tryz.underlying24
  obtain ⟨n, hn⟩ : ∃ n, n = gB r0 := ⟨_, rfl⟩
  obtain ⟨m, hm⟩ : ∃ m, m = gB r1 := ⟨_, rfl⟩
  obtain ⟨s, hs⟩ : ∃ s, s = gS r2 := ⟨_, rfl⟩
  have htt := g_tot r0 r1 r2
  rw [← hn, ← hm, ← hs] at htt
  obtain ⟨T, hT⟩ : ∃ T : Nat, (T : Int) = tot n m s := ⟨(tot n m s).toNat, by omega⟩
  have hT1 : Hid (40 ≤ T ∧ T ≤ 1000) := by show _ ∧ _; omega
  have hn20 : 1 ≤ n ∧ n ≤ 20 := by have := gB_in r0; omega
  obtain ⟨p3, hp3⟩ : ∃ p3 : Nat, (p3 : Int) = bmAt n m := ⟨(bmAt n m).toNat, by unfold bmAt up8; omega⟩
  have hfit : Hid (p3 + 8 ≤ T ∧ 24 ≤ p3) := by
    show _ ∧ _
    have h3 : tot n m s = bmAt n m + up8 (((n : Int) + 63) / 64) + n * ((s : Int) / 8) := rfl
    have e2 : up8 (((n : Int) + 63) / 64) = 8 := by rw [show ((n : Int) + 63) / 64 = 1 from by omega]; decide
    have e3 : 0 ≤ (n : Int) * ((s : Int) / 8) := Int.mul_nonneg (by omega) (by omega)
    have e4 : 24 ≤ bmAt n m := by have := gB_in r1; unfold bmAt up8; omega
    omega
  have HLEN := Lib.hid (dws_length (ints (enc n m s)) l T rfl (by have := hT1.out; omega))
  have HO : Hid (∀ {W : World}, Rk .u64 W A l → _) := fun {W} hW => open_ r0 r1 r2 h0 h1 h2 c (w := W) hW hl9 n m s T hn hm hs hT
  have HV : Hid (∀ v, vcells n m s v = #[.int .i64 n, .int .i64 m, .int .i64 s, .int .i64 16, .int .i64 (16 + 8 * m), .int .i64 (bmAt n m), .int .i64 (bkAt n m), .int .i64 (tot n m s), v]) := fun _ => rfl
  have H := Lib.hid h
  have HD := Lib.hid hD
  have HP3 := Lib.hid hp3
  rw [← hp3] at HV
  generalize dws (ints (enc n m s)) l T = L at *
  generalize vcells n m s = vc at *
  obtain ⟨len, hle⟩ : ∃ len, len = l.length := ⟨_, rfl⟩
  rw [← hle] at HO
  rw [← hle]
  obtain ⟨ul, hul⟩ : ∃ ul, ul = us.length := ⟨_, rfl⟩
  rw [← hul] at hd
  rw [← hul]
  have HUL := Lib.hid hul
  obtain ⟨N0, hN0⟩ : ∃ N0, N0 = nn % 24 := ⟨_, rfl⟩
  have hN1 : (nn : Int) % 24 = (N0 : Int) := by omega
  have hN2 : N0 < 24 := by omega
  clear h hl9 hn hm hs hT htt h0 h1 h2 hle hD hul hp3 hN0
  generalize bkAt n m = p4 at *
  generalize tot n m s = p5 at *
  go_enter Tryz.func4, Tryz.ntmps4
  go_wp2_with fail
  refine (lives15 _).mono ?_
  rintro e w1 ⟨rfl, hb1⟩
  have hqr := blk_bl (alloc_old (alloc_new w (.cells #[.int .u8 r0, .int .u8 r1, .int .u8 r2, .slice A len c] 24)) (.cells #[.int .i64 x, .int .i64 y, .int .i64 z, .int .i64 t] 50)) hb1
  have hqs := alloc_new (w.alloc (.cells #[.int .u8 r0, .int .u8 r1, .int .u8 r2, .slice A len c] 24)) (.cells #[.int .i64 x, .int .i64 y, .int .i64 z, .int .i64 t] 50)
  rw [World.size_alloc] at hqs
  have HS1 := Lib.hid (blk_bl hqs hb1)
  have hz1 := hb1.size
  simp only [World.size_alloc] at hz1
  have HZ1 : Hid (w.heap.size + 2 ≤ w1.heap.size) := hz1
  have HB1 := Lib.hid (bl_then (bl_alloc (bl_alloc (Below.refl _ _) _) _) hb1)
  have a0 := cell_of hqr 0
  have a1 := cell_of hqr 1
  have a2 := cell_of hqr 2
  have a3 := cell_of hqr 3
  clear hqr hqs hb1 hz1
  go_wp2_with fail
  refine (HO.out (H.out.below HB1.out)).mono ?_
  rintro e w2 ⟨v, b, g, vw, rfl, hop⟩
  obtain ⟨A8, c8, e8⟩ := own_slice hop.row
  subst e8
  rw [HV.out]
  obtain ⟨W2, hW2⟩ : ∃ W2, W2 = w2.alloc (.cells #[.int .i64 n, .int .i64 m, .int .i64 s, .int .i64 16, .int .i64 (16 + 8 * m), .int .i64 p3, .int .i64 p4, .int .i64 p5, .slice A8 T c8] 33) := ⟨_, rfl⟩
  have hbW : Below w2.heap.size w2 W2 := by rw [hW2]; exact bl_alloc (Below.refl _ _) _
  have hsW : W2.heap.size = w2.heap.size + 1 := by rw [hW2]; simp
  have HSV : Hid (Sv w W2 w2.heap.size n m s p3 p4 p5 A8 T c8 L) :=
    ⟨by rw [hW2]; exact alloc_new _ _, (own_rk (k := .u64) hop.row).1.below hbW, bl_then (bl_then HB1.out hop.below) hbW, by have := HZ1.out; have := hop.below.size; omega⟩
  have HVO := Lib.hid (hop.vol.below hbW)
  have HS2 := Lib.hid (blk_bl (blk_bl HS1.out hop.below) hbW)
  have HFT : Hid (∀ k ∈ g.foot b, w.heap.size + 2 ≤ k ∧ k < w2.heap.size) := fun k hk => ⟨by have := HZ1.out; have := hop.foot k hk; omega, hop.vol.dev.lt k hk⟩
  have HAP : Hid (∀ a, A8 = some a → a.block ∉ g.foot b) := fun a ha => hop.apart _ (by rw [ha]; rfl)
  have HVL : Hid (v < w2.heap.size) := lt_of hop.vol.blk
  have HAL : Hid (∀ a, A8 = some a → a.block < w2.heap.size) := fun a ha => by
    obtain ⟨u, hu9⟩ := some_at (l := L) (i := 0) (by rw [HLEN.out]; have := hT1.out; omega)
    obtain ⟨a', ha', hlt, -⟩ := (own_rk (k := .u64) hop.row).1 0 u hu9
    rw [ha] at ha'; cases ha'
    exact hlt
  have HSW := Lib.hid hsW
  have HW2 := Lib.hid hW2
  clear hop a0 a1 a2 a3 hbW hsW hW2
  go_wp2_with fail
  rw [← HW2.out]
  refine (new_ N0 (by omega) W2).mono ?_
  rintro e w3 ⟨b3, rfl, hm3, hb3⟩
  have HM3 := Lib.hid hm3
  have HSV3 := Lib.hid (HSV.out.keep hb3)
  have HVO3 := Lib.hid (HVO.out.below hb3)
  have HS3 := Lib.hid (blk_bl HS2.out hb3)
  have HZ3 : Hid (W2.heap.size ≤ w3.heap.size) := hb3.size
  clear hm3 hb3
  go_wp2_with fail
  refine (rnew_ N0 (by omega) w3).mono ?_
  rintro e w4 ⟨rfl, hrb4, hb4⟩
  have HM4 := Lib.hid (HM3.out.keep hb4)
  have HRB4 := Lib.hid hrb4
  have HSV4 := Lib.hid (HSV3.out.keep hb4)
  have HVO4 := Lib.hid (HVO3.out.below hb4)
  have HS4 := Lib.hid (blk_bl HS3.out hb4)
  have HZ4 : Hid (W2.heap.size ≤ w4.heap.size) := Nat.le_trans HZ3.out hb4.size
  have hz34 : Hid (w3.heap.size < w4.heap.size ∨ N0 = 0) := by
    by_cases h0 : N0 = 0
    · exact .inr h0
    · obtain ⟨u, hu9⟩ := some_at (l := List.replicate N0 false) (i := 0) (by simp; omega)
      obtain ⟨a', ha', hlt, -⟩ := hrb4 0 u hu9
      cases ha'
      exact .inl hlt
  clear hrb4 hb4
  go_wp2_with fail
  have HDD : Hid (us ≠ [] → ∀ a a' : Addr, D = some a → (some ⟨W2.heap.size, 0, none⟩ : Option Addr) = some a' → a'.block ≠ a.block) := fun hne a a' h1 h2 => by
    obtain ⟨u, hu9⟩ := some_at (l := us) (i := 0) (List.length_pos_iff.2 hne)
    obtain ⟨a2, e2, hlt, -⟩ := HD.out 0 u hu9
    rw [h1] at e2
    cases e2
    cases h2
    have h5 := HSV.out.below.size
    have h6 := HSV.out.lo
    have h7 := HSW.out
    show W2.heap.size ≠ _
    omega
  have hput := put_any HM4.out (HD.out.below HSV4.out.below) HDD.out dc (by rw [← HUL.out]; omega)
  rw [← HUL.out] at hput
  refine hput.mono ?_
  clear hput
  rintro e w5 ⟨pr, rfl, hm5, ho5⟩
  have hup5 := only_upd ho5
  have hsv5 := HSV4.out.to hup5 (fun k hk => by have h6 := HSV.out.lo; have h7 := HSW.out; simp at hk; omega) (fun a ha hm => by have h8 := HAL.out a ha; have h7 := HSW.out; simp at hm; omega) (by rw [HLEN.out]; have := hT1.out; omega)
  have HSV5 := Lib.hid hsv5
  have HVO5 : Hid (VolIs w5 v b n m s (Pm.devOf L) g) := HVO4.out.keep (hup5.block v (lt_of HVO4.out.blk) (fun hm => by have h8 := HVL.out; have h7 := HSW.out; simp at hm; omega)) (fun k hk => hup5.block k (HVO4.out.dev.lt k hk) (fun hm => by have h8 := HFT.out k hk; have h7 := HSW.out; simp at hm; omega))
  have HS5 := Lib.hid (hup5.blk HS4.out (fun hm => by have h6 := HSV.out.lo; have h7 := HSW.out; have := HZ1.out; have h9 := lt_of HS2.out; simp at hm; omega))
  have HRB5 : Hid (RB w5 (some ⟨w3.heap.size, 0, none⟩) (List.replicate N0 false)) := by
    rcases hz34.out with h34 | h0
    · exact RBkeep HRB4.out (fun a ha => by cases ha; exact hup5.block _ h34 (fun hm => by have q1 := lt_of HM3.out.box; have q2 := HM3.out.lo; have q3 : w3.heap.size = W2.heap.size := List.mem_singleton.1 hm; omega)) hup5.size
    · subst h0
      intro i x hx
      simp at hx
  have HM5 := Lib.hid hm5
  have HZ5 : Hid (W2.heap.size ≤ w5.heap.size) := Nat.le_trans HZ4.out hup5.size
  clear hm5 ho5 hup5 hsv5
  go_wp2_with fail
  go_loopw [63, 12] (fun c63 c12 wr => ∃ (i : Nat) (A' : Option Addr) (c' : Nat), i ≤ ul ∧ c63 = .int .i64 i ∧ c12 = .slice A' N0 c' ∧ Hid (Below w5.heap.size w5 wr ∧ RB wr A' ((us.take i).foldl btn (List.replicate N0 false)) ∧ ∀ a, A' = some a → W2.heap.size ≤ a.block)) (fun c63 _ _ => ul - (intOf c63).toNat)
  case atStart => exact ⟨0, _, _, Nat.zero_le _, rfl, rfl, Below.refl _ _, HRB5.out, fun a ha => by cases ha; exact HZ3.out⟩
  case round =>
    obtain ⟨i, A', c', hi, rfl, rfl, HR⟩ := hrel
    by_cases hlt : i < ul
    · obtain ⟨u, hu9⟩ := some_at (l := us) (i := i) (by rw [← HUL.out]; exact hlt)
      have HD5 := HD.out.below (bl_then HSV5.out.below HR.out.1)
      obtain ⟨a, rfl, -, hau⟩ := HD5 i u hu9
      have hlen9 : ((us.take i).foldl btn (List.replicate N0 false)).length = N0 := by rw [btn_fold_len, List.length_replicate]
      have htn := rturn_ HR.out.2.1 c' (by rw [hlen9]; omega) u
      rw [hlen9] at htn
      have HTN := Lib.hid htn
      have HNX : Hid ((us.take (i + 1)).foldl btn (List.replicate N0 false) = btn ((us.take i).foldl btn (List.replicate N0 false)) u) := by show _ = _; rw [take_next hu9, List.foldl_append]; rfl
      have HL9 := Lib.hid hlen9
      clear HD5 hu9 hlen9 htn
      generalize wr = wA at *
      go_wp2_with fail
      refine HTN.out.mono ?_
      rintro e w6 ⟨⟨A6, c6, f6, he6, hrb6, ha6⟩, hb6⟩
      rw [btn_len, HL9.out] at he6
      subst he6
      have hz9 : ∀ a, A6 = some a → W2.heap.size ≤ a.block := fun a ha => by
        rcases ha6 a ha with h9 | h9
        · exact HR.out.2.2 a h9
        · exact Nat.le_trans (Nat.le_trans HZ5.out HR.out.1.size) h9
      have HZ := Lib.hid (And.intro (bl_then HR.out.1 hb6) (And.intro hrb6 hz9))
      clear hrb6 hb6 hz9 ha6
      go_wp2_with fail
      go_roundw
      case rel => exact ⟨i + 1, A6, c6, by omega, by go_num, rfl, HZ.out.1, by rw [HNX.out]; exact HZ.out.2.1, HZ.out.2.2⟩
      case measure => simp [intOf]; omega
    · obtain rfl : i = ul := by omega
      have hful : us.take i = us := List.take_of_length_le (by rw [← HUL.out]; omega)
      have HB6 := Lib.hid HR.out.1
      have hrb6 := HR.out.2.1
      have HAB6 := Lib.hid HR.out.2.2
      rw [hful] at hrb6
      have HRB6 := Lib.hid hrb6
      have HSV6 := Lib.hid (HSV5.out.keep HB6.out)
      have HVO6 := Lib.hid (HVO5.out.below HB6.out)
      have HS6 := Lib.hid (blk_bl HS5.out HB6.out)
      have HM6 := Lib.hid (HM5.out.keep HB6.out)
      have HZ6 : Hid (W2.heap.size ≤ wr.heap.size) := Nat.le_trans HZ5.out HB6.out.size
      clear hful hrb6 HR
      generalize wr = w6 at *
      by_cases hNn : N0 = n
      · subst hNn
        have h63 : (N0 + 63) / 64 = 1 := by omega
        obtain ⟨X, k', e1, hX, e2⟩ := fold_bits N0 hn20.1 (by omega) us 0 0 (Nat.two_pow_pos _)
        have hX64 : X < 18446744073709551616 := Nat.lt_trans hX (Nat.pow_lt_pow_right (by decide) (show N0 < 64 by omega))
        have HX := Lib.hid hX
        have hm6 : Bm w6 W2.heap.size b3 N0 [X] (some ⟨W2.heap.size, 0, none⟩) 1 := by
          have h9 := HM6.out
          rw [h63] at h9
          rw [show (turnL N0 false (List.replicate 1 0) us).1 = [X] from by unfold turnL; rw [show List.replicate 1 0 = [0] from rfl, e1]] at h9
          exact h9
        have hrb6 : RB w6 A' (bitsOf N0 X) := by
          have h9 := HRB6.out
          rw [← bits_zero, e2] at h9
          exact h9
        have hpT : p3 < L.length := by rw [HLEN.out]; have := hfit.out; omega
        obtain ⟨d1, hput, hpt⟩ := one_diff L p3 X hpT
        obtain ⟨wt, hwt⟩ : ∃ wt, wt = want L p3 X := ⟨_, rfl⟩
        rw [← hwt] at hput hpt
        go_wp2_with fail
        refine (setbm_yes HVO6.out (show (0 : Nat) ≤ 1000000000 from Nat.zero_le _) hm6 p3 HP3.out (by have := hfit.out; have := hT1.out; omega) _ (show putGo false (ints [X]) p3 ⟨Pm.devOf L, 0, []⟩ = _ from hput)).mono ?_
        rintro e w7 ⟨rfl, hto⟩
        obtain ⟨g7, hv7, hf7, hu7⟩ := HVO6.out.to hto (by show d1.las.length = _; rw [hpt.las])
        rw [show ecode (d1, some wt) = 0 from rfl]
        have hsv7 := HSV6.out.to hu7 (fun k hk => ⟨by have := HFT.out k hk; omega, Nat.ne_of_lt (HFT.out k hk).2⟩) HAP.out (by rw [HLEN.out]; have := hT1.out; omega)
        have HSV7 := Lib.hid hsv7
        have HV7 := Lib.hid hv7
        have HS7 := Lib.hid (hu7.blk HS6.out (fun hm => by have := HFT.out _ hm; omega))
        have HM7 := Lib.hid (hm6.upd hu7 (fun hm => by have := (HFT.out _ hm).2; have := HSW.out; have := hm6.lo; omega) (fun hm => by have := (HFT.out _ hm).2; have := HSW.out; omega))
        have HRB7 : Hid (RB w7 A' (bitsOf N0 X)) := by
          refine RBkeep hrb6 (fun a ha => ?_) hu7.size
          have h9 := HAB6.out a ha
          obtain ⟨u, hu9⟩ := some_at (l := bitsOf N0 X) (i := 0) (by rw [bitsOf_len]; omega)
          obtain ⟨a', e9, hlt9, -⟩ := hrb6 0 u hu9
          rw [ha] at e9
          cases e9
          exact hu7.block _ hlt9 (fun hm => by have := (HFT.out _ hm).2; have := HSW.out; omega)
        have HPT := Lib.hid hpt
        have HWT := Lib.hid hwt
        have HFT7 : Hid (∀ k ∈ g7.foot b, w.heap.size + 2 ≤ k) := fun k hk => by
          rcases hf7 k hk with h9 | h9
          · exact (HFT.out k h9).1
          · have := lt_of HS6.out
            omega
        clear hto hf7 hu7 hsv7 hv7 hpt hput hm6 hrb6 e1 e2 hwt
        go_wp2_with fail
        refine (setbm_nil HV7.out).mono ?_
        rintro e w8 ⟨rfl, hb8⟩
        have HSV8 := Lib.hid (HSV7.out.keep hb8)
        have HV8 := Lib.hid (HV7.out.below hb8)
        have HS8 := Lib.hid (blk_bl HS7.out hb8)
        have HM8 := Lib.hid (HM7.out.keep hb8)
        have hrw := rwords1 (HRB7.out.below hb8) c' (by rw [bitsOf_len]; omega) (by rw [bitsOf_len]; omega)
        rw [bwr_bits, bitsOf_len, Nat.mod_eq_of_lt hX] at hrw
        have HRW := Lib.hid hrw
        have hst8 := HSV8.out
        have m0 := cell_of hst8.vol 0
        clear hb8 hrw hst8
        go_wp2_with fail
        refine HRW.out.mono ?_
        rintro e w9 ⟨v9, rfl, hown9, hb9⟩
        obtain ⟨A9, c9, e9⟩ := own_slice hown9
        subst e9
        obtain ⟨g9, e9, hc9, -⟩ := own_at (i := 0) (x := (X : Int)) hown9 rfl
        subst e9
        have HSV9 := Lib.hid (HSV8.out.keep hb9)
        have HV9 := Lib.hid (HV8.out.below hb9)
        have HS9 := Lib.hid (blk_bl HS8.out hb9)
        have HM9 := Lib.hid (HM8.out.keep hb9)
        have hst9 := HSV9.out
        clear hb9 hown9 m0 hX
        have m0 := cell_of hst9.vol 0
        have m1 := cell_of hst9.vol 1
        have m2 := cell_of hst9.vol 2
        have m3 := cell_of hst9.vol 3
        have m4 := cell_of hst9.vol 4
        have m5 := cell_of hst9.vol 5
        have m6 := cell_of hst9.vol 6
        have m7 := cell_of hst9.vol 7
        have m8 := cell_of hst9.vol 8
        obtain ⟨z0, hz0⟩ := some_at hpT
        obtain ⟨a8, e8, -, ha8⟩ := hst9.row p3 z0 hz0
        have HZ0 := Lib.hid hz0
        have HA8 := Lib.hid e8
        subst e8
        clear hst9 hz0
        have hwz : ((z0 != (X : Int)) = false ∧ wt = 0) ∨ ((z0 != (X : Int)) = true ∧ wt = 1) := by
          have hgd : L.getD p3 0 = z0 := by rw [List.getD_eq_getElem?_getD, HZ0.out]; rfl
          have h9 := HWT.out
          unfold want at h9
          rw [hgd] at h9
          by_cases hz : z0 = (X : Int)
          · rw [if_pos hz] at h9
            exact .inl ⟨by rw [bne_eq_false_iff_eq]; exact hz, h9⟩
          · rw [if_neg hz] at h9
            exact .inr ⟨by rw [bne_iff_ne]; exact hz, h9⟩
        have hpTi : (p3 : Int) < (T : Int) := by have := HLEN.out; omega
        have hload : d1.load p3 = (X : Int) := by
          have h9 := Pm.wordsOf_get d1 p3 (by rw [HPT.out.las]; exact hpT)
          rw [HPT.out.words, List.getElem?_set, if_pos rfl, if_pos hpT] at h9
          exact (Option.some.inj h9).symm
        have HBG := Lib.hid (bm_get HV9.out hn20.1 (by omega) p3 HP3.out (by have := hfit.out; have := hT1.out; omega) X hload hX64)
        clear hload
        rcases hwz with ⟨hzx, rfl⟩ | ⟨hzx, rfl⟩
        all_goals
          go_wp2_with fail
          refine HBG.out.mono ?_
          rintro e w10 ⟨hbm, hb10⟩
          obtain ⟨b10, A10, c10, e10, hm10⟩ := hbm.1 (Nat.div_eq_of_lt HX.out)
          subst e10
          have HSV10 := Lib.hid (HSV9.out.keep hb10)
          have HV10 := Lib.hid (HV9.out.below hb10)
          have HS10 := Lib.hid (blk_bl HS9.out hb10)
          have HM10 := Lib.hid (HM9.out.keep hb10)
          have HB10 := Lib.hid hm10
          have hst10 := HSV10.out
          clear hbm hb10 hm10 m0 m1 m2 m3 m4 m5 m6 m7 m8 ha8
          have m0 := cell_of hst10.vol 0
          have m1 := cell_of hst10.vol 1
          have m2 := cell_of hst10.vol 2
          have m3 := cell_of hst10.vol 3
          have m4 := cell_of hst10.vol 4
          have m5 := cell_of hst10.vol 5
          have m6 := cell_of hst10.vol 6
          have m7 := cell_of hst10.vol 7
          have m8 := cell_of hst10.vol 8
          clear hst10
          go_wp2_with fail
          have hpt15 := put15_ (HSV10.out.row.below (bl_alloc (Below.refl _ _) (.cells #[.int .u64 X] 60))) (xs := [(X : Int)]) (B := some ⟨w10.heap.size, 0, none⟩) (blk_rk (alloc_new w10 (.cells #[.int .u64 X] 60)) (by intro q u hu; match q with | 0 => simpa using hu | q + 1 => simp at hu)) N0 m s 16 (16 + 8 * (m : Int)) p3 p4 p5 p3 c8 1 (by omega) (by rw [HLEN.out]; have := hT1.out; omega) (by simp; omega)
          rw [HLEN.out] at hpt15
          refine (show Calls _ _ #[.agg #[.int .i64 N0, .int .i64 m, .int .i64 s, .int .i64 16, .int .i64 (16 + 8 * (m : Int)), .int .i64 p3, .int .i64 p4, .int .i64 p5, .slice (some a8) T c8], .int .i64 p3, .slice (some ⟨w10.heap.size, 0, none⟩) 1 1] _ _ from hpt15).mono ?_
          clear hpt15
          rintro e w11 ⟨v11, rfl, hown11, hb11⟩
          obtain ⟨A11, c11, e11⟩ := own_slice hown11
          subst e11
          have hb11' := bl_then (w1 := w10.alloc (.cells #[.int .u64 X] 60)) (bl_alloc (Below.refl _ _) _) hb11
          have HSV11 := Lib.hid (HSV10.out.keep hb11')
          have HV11 := Lib.hid (HV10.out.below hb11')
          have HS11 := Lib.hid (blk_bl HS10.out hb11')
          have HM11 := Lib.hid (HM10.out.keep hb11')
          have HBB11 := Lib.hid (HB10.out.keep hb11')
          have HR11 : Hid (Rk .u64 w11 A11 (L.set p3 (X : Int))) := (own_rk (k := .u64) hown11).1
          have hst := HPT.out.stores
          rw [show (Pm.devOf L).stores = 0 from rfl, Nat.zero_add] at hst
          have hsp := HPT.out.steps
          rw [show (Pm.devOf L).steps = 0 from rfl, Nat.zero_add] at hsp
          have HDV : Hid (∀ W, Bl w11 W → _) := fun W hb => Vo.device_ (HV11.out.below hb.below)
          have HWD : Hid (∀ W, Bl w11 W → _) := fun W hb => Pm.words_any (HV11.out.below hb.below).dev (las_some HV11.out.dev (by rw [HPT.out.las]; show 1 ≤ L.length; omega))
          have hll : d1.las.length = T := by rw [HPT.out.las]; exact HLEN.out
          rw [HPT.out.words, hll] at HWD
          have HSM : Hid (∀ W (A2 : Option Addr) (c2 : Nat), Bl w11 W → Rk .u64 W A2 (L.set p3 (X : Int)) → Calls Tryz.prog 23 #[.slice A2 T c2, .slice A11 T c11] W fun e w' => e = .returned (.bool true) ∧ Below W.heap.size W w') := fun W A2 c2 hb hr => by
            have h9 := Pm.same_words (show Pm.Rd W A2 (L.set p3 (X : Int)) from hr) (show Pm.Rd W A11 (L.set p3 (X : Int)) from HR11.out.below hb.below) c2 c11 (by rw [List.length_set, HLEN.out]; have := hT1.out; omega) (by rw [List.length_set, HLEN.out]; have := hT1.out; omega)
            rw [List.length_set, HLEN.out, decide_eq_true rfl] at h9
            refine h9.mono ?_
            rintro e w' ⟨rfl, q, rfl⟩
            exact ⟨rfl, bl_drewN (Below.refl _ _) _⟩
          have HSTO : Hid (∀ W, Bl w11 W → _) := fun W hb => stores_any (HV11.out.below hb.below).dev
          rw [hst] at HSTO
          have HSTE : Hid (∀ W, Bl w11 W → _) := fun W hb => Pm.steps_any (HV11.out.below hb.below).dev
          rw [hsp] at HSTE
          have HBS : Hid (∀ W, Bl w11 W → Calls Tryz.prog 22 #[.pointer (some ⟨b10, 0, none⟩), .pointer (some ⟨b3, 0, none⟩)] W fun e w' => e = .returned (.bool true) ∧ Below W.heap.size W w') := fun W hb => by
            have h9 := same_ (HBB11.out.keep hb.below) (HM11.out.keep hb.below)
            rw [decide_eq_true ⟨rfl, rfl⟩] at h9
            exact h9
          have hbl0 : Below w11.heap.size w11 (w11.alloc (.cells #[.int .i64 N0, .int .i64 m, .int .i64 s, .int .i64 16, .int .i64 (16 + 8 * m), .int .i64 p3, .int .i64 p4, .int .i64 p5, .slice A11 T c11] 33)) := bl_alloc (Below.refl _ _) _
          have HY0 : Hid ((w11.alloc (.cells #[.int .i64 N0, .int .i64 m, .int .i64 s, .int .i64 16, .int .i64 (16 + 8 * m), .int .i64 p3, .int .i64 p4, .int .i64 p5, .slice A11 T c11] 33)).drew.cell? ⟨w11.heap.size, 8, none⟩ = some (.slice A11 T c11) ∧ Bl w11 (w11.alloc (.cells #[.int .i64 N0, .int .i64 m, .int .i64 s, .int .i64 16, .int .i64 (16 + 8 * m), .int .i64 p3, .int .i64 p4, .int .i64 p5, .slice A11 T c11] 33)).drew) := ⟨cell_of (alloc_new w11 _) 8, ⟨bl_drew hbl0⟩⟩
          clear hown11 hb11 hb11' hst hsp hll hbl0
          have HY := HY0
          go_wp2_with fail
          go_region_held3 (fun w' => w'.cell? ⟨w11.heap.size, 8, none⟩ = some (.slice A11 T c11) ∧ Bl w11 w')
            (first | assumption | exact HY.out)
            (first
              | (go_at_call 22; refine (HBS.out _ HY.out.2).mono ?_; rintro e wn ⟨rfl, hbn⟩; replace HY := Lib.hid (ylp HY.out hbn); clear hbn)
              | (go_at_call 24; refine (HDV.out _ HY.out.2).mono ?_; rintro e wn ⟨rfl, rfl⟩)
              | (go_at_call 25; refine (HWD.out _ HY.out.2).mono ?_; rintro e wn ⟨vn, rfl, hownn, hbn⟩; (obtain ⟨An, cn, en⟩ := own_slice hownn); subst en; (have HRA := Lib.hid (own_rk (k := .u64) hownn).1); replace HY := Lib.hid (ylp HY.out hbn); clear hbn hownn)
              | (go_at_call 23; refine (HSM.out _ _ _ HY.out.2 HRA.out).mono ?_; rintro e wn ⟨rfl, hbn⟩; replace HY := Lib.hid (ylp HY.out hbn); clear hbn)
              | (go_at_call 26; refine (HSTO.out _ HY.out.2).mono ?_; rintro e wn ⟨rfl, rfl⟩)
              | (go_at_call 27; refine (HSTE.out _ HY.out.2).mono ?_; rintro e wn ⟨rfl, rfl⟩))
          have HRS := Lib.hid (Rs.mk (bl_then HSV11.out.below HY.out.2.below) (blk_bl HS11.out HY.out.2.below) (HV11.out.below HY.out.2.below) HFT7.out)
          have HST2 : Hid (d1.steps ≤ 2) := by show _ ≤ _; have h9 := HPT.out.steps; rw [show (Pm.devOf L).steps = 0 from rfl] at h9; omega
          have HLD : Hid (16 ≤ d1.las.length) := by show _ ≤ _; rw [HPT.out.las]; show _ ≤ L.length; rw [HLEN.out]; have := hT1.out; omega
          have r0 := cell_of HRS.out.box 0
          have r1 := cell_of HRS.out.box 1
          have r2 := cell_of HRS.out.box 2
          have r3 := cell_of HRS.out.box 3
          clear m0 m1 m2 m3 m4 m5 m6 m7 m8
          by_cases hok : rOk x y z t
          · obtain ⟨x', rfl⟩ : ∃ k : Nat, x = k := ⟨x.toNat, by have := hok.1.1; omega⟩
            obtain ⟨y', rfl⟩ : ∃ k : Nat, y = k := ⟨y.toNat, by have := hok.2.1.1; omega⟩
            obtain ⟨z', rfl⟩ : ∃ k : Nat, z = k := ⟨z.toNat, by have := hok.2.2.1.1; omega⟩
            obtain ⟨t', rfl⟩ : ∃ k : Nat, t = k := ⟨t.toNat, by have := hok.2.2.2.1; omega⟩
            have HOK := Lib.hid hok
            obtain ⟨d2, e2, hl2, hf2, hn2, hs2⟩ := rec_put d1 HPT.out.fuse HLD.out (rl x' y' z' t') rfl
            have HE2 := Lib.hid e2
            have HL2 := Lib.hid hl2
            have HD2 : Hid (d2.fuse = none ∧ d2.las.length = d1.las.length ∧ d2.steps ≤ 18) := by have := HST2.out; exact ⟨hf2, hn2, by omega⟩
            clear e2 hl2 hf2 hn2 hs2 hok
            go_wp2_with fail
            refine (setrec_yes HRS.out.vol (by have := HST2.out; omega) x' y' z' t' HOK.out _ HE2.out).mono ?_
            rintro e w13 ⟨rfl, hto⟩
            rw [show ecode (d2, some 8) = 0 from rfl]
            obtain ⟨g13, hrs13⟩ := HRS.out.to hto HD2.out.2.1
            have HR13 := Lib.hid hrs13
            clear hto hrs13 r0 r1 r2 r3
            have r0 := cell_of HR13.out.box 0
            have r1 := cell_of HR13.out.box 1
            have r2 := cell_of HR13.out.box 2
            have r3 := cell_of HR13.out.box 3
            go_wp2_with fail
            refine (R9.rmay_yes x' y' z' t' HOK.out _).mono ?_
            rintro e w14 ⟨rfl, hb14⟩
            have HR14 := Lib.hid (HR13.out.keep hb14)
            clear hb14 r0 r1 r2 r3
            go_wp2_with fail
            refine (record_get HR14.out.vol (rl x' y' z' t') HL2.out (rl_lt HOK.out)).mono ?_
            rintro e w15 ⟨hd9, hb15⟩
            obtain rfl := d9_line HOK.out hd9
            have HR15 := Lib.hid (HR14.out.keep hb15)
            have r0 := cell_of HR15.out.box 0
            have r1 := cell_of HR15.out.box 1
            have r2 := cell_of HR15.out.box 2
            have r3 := cell_of HR15.out.box 3
            have hlt15 := lt_of HR15.out.box
            clear hb15 hd9
            go_wp2_with fail
            have hrs16 := HR15.out.keep (bl_alloc (Below.refl _ _) (.cells #[.int .i64 x', .int .i64 y', .int .i64 z', .int .i64 t'] 50))
            obtain ⟨q1, q2, q3, q4⟩ := rec_fence hrs16.vol.dev.wf HD2.out.1 (by rw [HD2.out.2.1]; exact HLD.out)
            have HD3 : Hid (d2.fenced.fuse = none ∧ d2.fenced.las.length = d1.las.length ∧ d2.fenced.steps ≤ 34) := ⟨q2, by rw [q3]; exact HD2.out.2.1, by have := HD2.out.2.2; omega⟩
            have HL3 : Hid (lds d2.fenced 8 8 = ints (rl x' y' z' t')) := q1.trans HL2.out
            have HR16 := Lib.hid hrs16
            clear hrs16 q1 q2 q3 q4
            refine (sync_ HR16.out.vol (by have := HD2.out.2.2; omega) HD2.out.1).mono ?_
            rintro e w17 ⟨rfl, hto⟩
            obtain ⟨g17, hrs17⟩ := HR16.out.to hto (by rw [HD3.out.2.1, HD2.out.2.1])
            have HR17 := Lib.hid hrs17
            clear hto hrs17 r0 r1 r2 r3 hlt15
            have r0 := cell_of HR17.out.box 0
            have r1 := cell_of HR17.out.box 1
            have r2 := cell_of HR17.out.box 2
            have r3 := cell_of HR17.out.box 3
            generalize d2.fenced = d3 at *
            go_wp2_with fail
            refine (R9.renc_ x' y' z' t' HOK.out _).mono ?_
            rintro e w18 ⟨v18, rfl, hown18, hb18⟩
            obtain ⟨A18, c18, e18⟩ := own_slice hown18
            subst e18
            have HR18 := Lib.hid (HR17.out.keep hb18)
            have HRK : Hid (Rk .u64 w18 A18 (ints (rl x' y' z' t'))) := (own_rk (k := .u64) hown18).1
            have HLT := Lib.hid (rl_lt HOK.out)
            have HL8 : Hid ((rl x' y' z' t').length = 8) := rfl
            clear hown18 hb18 r0 r1 r2 r3
            generalize rl x' y' z' t' = RL at *
            obtain ⟨C, hC⟩ : ∃ C, C = nz RL := ⟨_, rfl⟩
            have HC := Lib.hid hC
            have HC8 : Hid (C ≤ 8) := by show _ ≤ _; rw [hC]; unfold nz; exact Nat.le_trans (List.length_filter_le _ _) (Nat.le_of_eq HL8.out)
            obtain ⟨d4, e4, hl4, hf4, hn4, hs4⟩ := rec_clear d3 HD3.out.1 (by rw [HD3.out.2.1]; exact HLD.out) RL HL3.out
            rw [← hC] at e4
            have HE4 := Lib.hid e4
            have HL4 := Lib.hid hl4
            have HD4 : Hid (d4.fuse = none ∧ d4.las.length = d1.las.length ∧ d4.steps ≤ 50) := ⟨hf4, by rw [hn4]; exact HD3.out.2.1, by have := HD3.out.2.2; omega⟩
            obtain ⟨d5, e5, hl5, hf5, hn5, hs5⟩ := rec_clear d4 hf4 (by rw [HD4.out.2.1]; exact HLD.out) _ hl4
            have HE5 := Lib.hid e5
            have HN5 := Lib.hid hn5
            clear e4 hl4 hf4 hn4 hs4 e5 hl5 hf5 hn5 hs5 hC
            go_wp2_with fail
            go_loop [216, 28] (fun c216 c28 => ∃ i q : Nat, i ≤ 8 ∧ q ≤ i ∧ c216 = .int .i64 i ∧ c28 = .int .i64 q ∧ Hid (q = nz (RL.take i))) (fun c216 _ => 8 - (intOf c216).toNat)
            case atStart => exact ⟨0, 0, Nat.zero_le _, Nat.le_refl _, rfl, rfl, rfl⟩
            case round =>
              obtain ⟨i, q, hi, hqi, rfl, rfl, HQ⟩ := hrel
              by_cases hlt : i < 8
              · obtain ⟨u, hu9⟩ := some_at (l := RL) (i := i) (by rw [HL8.out]; exact hlt)
                obtain ⟨a18, e18, -, ha18⟩ := HRK.out i (u : Int) (ints_get hu9)
                subst e18
                have HNX : Hid (nz (RL.take (i + 1)) = q + if u = 0 then 0 else 1) := by
                  show _ = _
                  rw [take_next hu9, HQ.out]
                  unfold nz
                  rw [List.filter_append, List.length_append]
                  by_cases hu0 : u = 0 <;> simp [hu0]
                have hu64 : u < 18446744073709551616 := HLT.out u (List.mem_of_getElem? hu9)
                clear hu9
                by_cases hu0 : u = 0
                · subst hu0
                  have HN2 : Hid (q = nz (RL.take (i + 1))) := by show _ = _; rw [HNX.out]; simp
                  go_wp2_with fail
                  go_round
                  case rel => exact ⟨i + 1, q, by omega, by omega, by go_num, by go_num, HN2⟩
                  case measure => simp [intOf]; omega
                · have HN2 : Hid (q + 1 = nz (RL.take (i + 1))) := by show _ = _; rw [HNX.out, if_neg hu0]
                  have hu1 : ((u : Int) != 0) = true := by rw [bne_iff_ne]; omega
                  go_wp2_with fail
                  go_round
                  case rel => exact ⟨i + 1, q + 1, by omega, by omega, by go_num, by go_num, HN2⟩
                  case measure => simp [intOf]; omega
              · obtain rfl : i = 8 := by omega
                have hqC : q = C := by rw [HQ.out, HC.out, List.take_of_length_le (by rw [HL8.out]; omega)]
                subst hqC
                go_wp2_with fail
                refine (clearrec_ HR18.out.vol (by have := HD3.out.2.2; omega) _ HE4.out).mono ?_
                rintro e w19 ⟨rfl, hto⟩
                rw [show ecode (d4, some q) = 0 from rfl, show (d4, some q).2.getD 0 = q from rfl]
                obtain ⟨g19, hrs19⟩ := HR18.out.to hto (by show d4.las.length = _; rw [HD4.out.2.1, HD3.out.2.1])
                have HR19 := Lib.hid hrs19
                clear hto hrs19
                go_wp2_with fail
                refine (record_get HR19.out.vol (List.replicate 8 0) HL4.out (by simp)).mono ?_
                rintro e w20 ⟨hd9, hb20⟩
                obtain rfl := d9_zeros hd9
                have HR20 := Lib.hid (HR19.out.keep hb20)
                clear hb20 hd9
                go_wp2_with fail
                refine (clearrec_ HR20.out.vol (by have := HD4.out.2.2; omega) _ HE5.out).mono ?_
                rintro e w21 ⟨rfl, hto⟩
                rw [show ecode (d5, some (nz (List.replicate 8 0))) = 0 from rfl, show (d5, some (nz (List.replicate 8 0))).2.getD 0 = 0 from rfl]
                obtain ⟨g21, hrs21⟩ := HR20.out.to hto (by show d5.las.length = _; exact HN5.out)
                have HR21 := Lib.hid hrs21
                clear hto hrs21
                go_wp2_with fail
                go_ret
                exact ⟨rfl, HR21.out.bl⟩
          · have HOK := Lib.hid hok
            clear hok
            go_wp2_with fail
            refine (setrec_no HRS.out.vol x y z t HOK.out).mono ?_
            rintro e w13 ⟨rfl, hb13⟩
            have HR13 := Lib.hid (HRS.out.keep hb13)
            replace HY := Lib.hid (ylp HY.out hb13)
            clear hb13 r0 r1 r2 r3
            have r0 := cell_of HR13.out.box 0
            have r1 := cell_of HR13.out.box 1
            have r2 := cell_of HR13.out.box 2
            have r3 := cell_of HR13.out.box 3
            go_wp2_with fail
            refine (R9.rmay_no x y z t HOK.out _).mono ?_
            rintro e w14 ⟨rfl, hb14⟩
            have HR14 := Lib.hid (HR13.out.keep hb14)
            replace HY := Lib.hid (ylp (ylp HY.out hb14) (bl_drew (Below.refl _ _)))
            clear hb14 r0 r1 r2 r3
            go_wp2_with fail
            go_region_held3 (fun w' => w'.cell? ⟨w11.heap.size, 8, none⟩ = some (.slice A11 T c11) ∧ Bl w11 w')
              (first | assumption | exact HY.out)
              (first
                | (go_at_call 24; refine (HDV.out _ HY.out.2).mono ?_; rintro e wn ⟨rfl, rfl⟩)
                | (go_at_call 25; refine (HWD.out _ HY.out.2).mono ?_; rintro e wn ⟨vn, rfl, hownn, hbn⟩; (obtain ⟨An, cn, en⟩ := own_slice hownn); subst en; (have HRA := Lib.hid (own_rk (k := .u64) hownn).1); replace HY := Lib.hid (ylp HY.out hbn); clear hbn hownn)
                | (go_at_call 23; refine (HSM.out _ _ _ HY.out.2 HRA.out).mono ?_; rintro e wn ⟨rfl, hbn⟩; replace HY := Lib.hid (ylp HY.out hbn); clear hbn))
            all_goals
              go_wp2
              go_ret
              exact ⟨rfl, bl_then HSV11.out.below HY.out.2.below⟩
      · go_wp2_with fail
        refine (setbm_len HVO6.out HM6.out hNn).mono ?_
        rintro e w7 ⟨rfl, hb7⟩
        have HSV7 := Lib.hid (HSV6.out.keep hb7)
        have HVO7 := Lib.hid (HVO6.out.below hb7)
        clear hb7
        go_wp2_with fail
        refine (setbm_nil HVO7.out).mono ?_
        rintro e w8 ⟨rfl, hb8⟩
        have HSV8 := Lib.hid (HSV7.out.keep hb8)
        have HSY := Lib.hid (HSV8.out.still (HVO7.out.below hb8) HLEN.out (by have := hT1.out; omega))
        have hst8 := HSV8.out
        have eN : ((N0 : Int) != (n : Int)) = true := by rw [bne_iff_ne]; omega
        clear hb8
        have m0 := cell_of hst8.vol 0
        have m1 := cell_of hst8.vol 1
        have m2 := cell_of hst8.vol 2
        have m3 := cell_of hst8.vol 3
        have m4 := cell_of hst8.vol 4
        have m5 := cell_of hst8.vol 5
        have m6 := cell_of hst8.vol 6
        have m7 := cell_of hst8.vol 7
        have m8 := cell_of hst8.vol 8
        clear hst8
        generalize (16 + 8 * (m : Int)) = p2 at *
        go_wp2_with (go_at_call 11; refine HSY.out.mono ?_; rintro e w9 ⟨rfl, hb9⟩; (have HB9 := Lib.hid hb9); clear hb9)
        go_ret
        exact ⟨rfl, bl_then HSV8.out.below HB9.out⟩

end Go.Proofs.YtichcdoijieddaaGreat.Mc
end

/- Arguments opened: the laws' raw images, numbers, slots. -/
section
namespace Go.Proofs.YtichcdoijieddaaGreat.Ao
open Go Go.RowKit Go.ChangeShapes Go.WideShapes Go.ChangeAt Go.Joins Go.Deep
open Go.Proofs.YtichcdoijieddaaGreat.Ba
set_option linter.unusedVariables false
set_option maxHeartbeats 2000000
set_option maxRecDepth 100000

theorem own : ownKnob Tryz.prog.godebug = none := by kernel_rfl
theorem laidOut : laidOutB Tryz.prog = true := by kernel_rfl

theorem cell_plain {w : World} {a : Addr} {v : Value} (h : w.cell? a = some v) : a = ⟨a.block, a.off, none⟩ ∧ a.block < w.heap.size := by
  obtain ⟨b, o, s⟩ := a
  simp only [World.cell?] at h
  split at h
  · rename_i c e f hb
    refine ⟨?_, (Array.getElem?_eq_some_iff.1 hb).1⟩
    cases s with
    | none => rfl
    | some _ => simp at h
  · cases h

theorem int_wf {k : IntKind} {n : Int} (h : (Lit.int k n).wf = true) : k.min ≤ n ∧ n ≤ k.max := by
  simpa [Lit.wf] using h


theorem words_open {H : Type} {enc : TypeId × Value → H} {w : World} {fuel : Nat} {cs : List Value} {x : DataW H × List MemPlace} (h : DataW.trod enc Tryz.prog w 0 (fun _ => true) true fuel 22 cs = some x) :
    ∃ (A : Option Addr) (l : List Int) (c : Nat), cs = [.slice A l.length c] ∧ Rk .u64 w A l ∧ l.length ≤ 9223372036854775807 := by
  rcases open_ints Tryz.underlying22 Tryz.underlying60 (by kernel_rfl) h with ⟨hcs, _⟩ | ⟨a, l, c, zs, hcs, _, hl, hm, hz, _, hcell, hwz⟩
  · exact ⟨none, [], 0, hcs, Rk.nil _ _ _, by decide⟩
  · simp only [if_true] at hz
    have hlen : (zs.take l).length = l := by rw [List.length_take]; omega
    refine ⟨some a, zs.take l, c, by rw [hlen]; exact hcs, ?_, by rw [hlen]; unfold maxLen at hm; omega⟩
    intro i z hx
    obtain ⟨hi, hz2⟩ := List.getElem?_eq_some_iff.1 hx
    rw [List.getElem_take] at hz2
    simp only [List.length_take] at hi
    have hi2 : i < zs.length := by omega
    have hci := hcell i hi2
    obtain ⟨p1, p2⟩ := cell_plain hci
    refine ⟨a, rfl, by rw [add_block] at p2; exact p2, ?_⟩
    rw [hci, List.getD_eq_getElem?_getD, List.getElem?_eq_getElem hi2, hz2]
    rfl

theorem bytes_open {H : Type} {enc : TypeId × Value → H} {w : World} {fuel : Nat} {cs : List Value} {x : DataW H × List MemPlace} (h : DataW.trod enc Tryz.prog w 0 (fun _ => true) true fuel 95 cs = some x) :
    ∃ (A : Option Addr) (l : List Nat) (c : Nat), cs = [.slice A l.length c] ∧ Rk .u8 w A (l.map fun (x : Nat) => (x : Int)) ∧ (∀ x ∈ l, x < 256) ∧ l.length ≤ 9223372036854775807 := by
  rcases open_ints Tryz.underlying95 Tryz.underlying5 (by kernel_rfl) h with ⟨hcs, _⟩ | ⟨a, l, c, zs, hcs, _, hl, hm, hz, _, hcell, hwz⟩
  · exact ⟨none, [], 0, hcs, Rk.nil _ _ _, by simp, by decide⟩
  · simp only [if_true] at hz
    have hlen : (zs.take l).length = l := by rw [List.length_take]; omega
    have hwf : ∀ z ∈ zs, 0 ≤ z ∧ z ≤ 255 := fun z hz => by
      have h := int_wf (hwz z hz)
      simp [IntKind.min, IntKind.max, IntKind.bits, IntKind.signed] at h
      exact h
    refine ⟨some a, (zs.take l).map Int.toNat, c, by rw [List.length_map, hlen]; exact hcs, ?_, ?_, by rw [List.length_map, hlen]; unfold maxLen at hm; omega⟩
    · intro i z hx
      simp only [List.getElem?_map, Option.map_eq_some_iff, List.map_map, Function.comp] at hx
      obtain ⟨y, hy, rfl⟩ := hx
      obtain ⟨hi, hz2⟩ := List.getElem?_eq_some_iff.1 hy
      rw [List.getElem_take] at hz2
      simp only [List.length_take] at hi
      have hi2 : i < zs.length := by omega
      have hci := hcell i hi2
      obtain ⟨p1, p2⟩ := cell_plain hci
      refine ⟨a, rfl, by rw [add_block] at p2; exact p2, ?_⟩
      rw [hci, List.getD_eq_getElem?_getD, List.getElem?_eq_getElem hi2, hz2]
      have := hwf y (by rw [← hz2]; exact List.getElem_mem _)
      simp only [Option.getD_some]
      rw [Int.toNat_of_nonneg this.1]
    · intro x hx
      simp only [List.mem_map] at hx
      obtain ⟨z, hz, rfl⟩ := hx
      have := hwf z (List.mem_of_mem_take hz)
      omega

theorem u8_open {H : Type} {enc : TypeId × Value → H} {w : World} {fuel : Nat} {v : Value} {x : DataW H × List MemPlace} (h : DataW.trod enc Tryz.prog w 0 (fun _ => true) true fuel 5 [v] = some x) : ∃ n : Nat, v = .int .u8 n ∧ n < 256 := by
  obtain ⟨k, e0, _, w0⟩ := DataW.trod_int Tryz.underlying5 h
  simp only [List.cons.injEq, and_true] at e0
  have b0 := int_wf w0
  simp [IntKind.min, IntKind.max, IntKind.bits, IntKind.signed] at b0
  exact ⟨k.toNat, by rw [e0, Int.toNat_of_nonneg b0.1], by omega⟩
theorem int_open {H : Type} {enc : TypeId × Value → H} {w : World} {fuel : Nat} {v : Value} {x : DataW H × List MemPlace} (h : DataW.trod enc Tryz.prog w 0 (fun _ => true) true fuel 3 [v] = some x) : ∃ n : Int, v = .int .i64 n ∧ -9223372036854775808 ≤ n ∧ n ≤ 9223372036854775807 := by
  obtain ⟨k, e0, _, w0⟩ := DataW.trod_int Tryz.underlying3 h
  simp only [List.cons.injEq, and_true] at e0
  have b0 := int_wf w0
  simp [IntKind.min, IntKind.max, IntKind.bits, IntKind.signed] at b0
  exact ⟨k, e0, b0.1, b0.2⟩

theorem raw_open {H : Type} {enc : TypeId × Value → H} {w : World} {b0 : Nat} {v : Value} {d : DataW H} {p : List MemPlace} (hv : Value.okWide Tryz.prog w .any b0 24 v) (h : DataW.Trod enc Tryz.prog w 0 (fun _ => true) true 24 v d p) :
    ∃ (r0 r1 r2 : Nat) (A : Option Addr) (l : List Int) (c : Nat), v = .agg #[.int .u8 r0, .int .u8 r1, .int .u8 r2, .slice A l.length c] ∧ r0 < 256 ∧ r1 < 256 ∧ r2 < 256 ∧ Rk .u64 w A l ∧ l.length ≤ 9223372036854775807 := by
  obtain ⟨v0, v1, v2, v3, y0, y1, y2, y3, n, rfl, -, -, t0, t1, t2, t3⟩ := open_agg4 Tryz.underlying24 (by kernel_rfl) (by kernel_rfl) hv h
  obtain ⟨r0, rfl, h0⟩ := u8_open t0
  obtain ⟨r1, rfl, h1⟩ := u8_open t1
  obtain ⟨r2, rfl, h2⟩ := u8_open t2
  obtain ⟨A, l, c, e3, hr, hl⟩ := words_open t3
  simp only [List.cons.injEq, and_true] at e3
  subst e3
  exact ⟨r0, r1, r2, A, l, c, rfl, h0, h1, h2, hr, hl⟩

end Go.Proofs.YtichcdoijieddaaGreat.Ao
end
