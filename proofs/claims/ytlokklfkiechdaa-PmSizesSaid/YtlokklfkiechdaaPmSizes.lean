/- PmSizes: whatever number of words is asked for, the law returns true, and its argument reads as it did. No conditions. -/
import Derived.Test.YtlokklfkiechdaaRows
import Derived.Test.YtlokklfkiechdaaPmL
import Derived.ProofKit
import Derived.OpenShut
import Derived.ShutString
import Derived.Deep.RegionWith
namespace Go.Proofs.Ytlokklfkiechdaa.pmSizes
open Go.ChangeShapes Go.WideShapes Go.ChangeAt Go.RowKit
open Go.ChangeMaps (open_string shut_string)
open Go.Proofs.Ytlokklfkiechdaa.Ob Go.Proofs.Ytlokklfkiechdaa.Dv Go.Proofs.Ytlokklfkiechdaa.Pm
set_option linter.unusedVariables false
set_option maxHeartbeats 400000

theorem own : ownKnob Try.prog.godebug = none := by kernel_rfl

theorem nd_inn (n k : Int) (h : k = (min (max 0 n) 4194304) ∨ k < 0) : (newDev n).inn k = false := by
  simp only [Dev.inn, newDev, List.length_replicate, Bool.and_eq_false_iff, decide_eq_false_iff_not]
  omega
theorem nd_load (n k : Int) : (newDev n).load k = 0 := by
  have h1 : (newDev n).find k = none := rfl
  simp only [Dev.load, h1, Dev.lasting]
  split
  · simp [newDev, List.getD_eq_getElem?_getD, List.getElem?_replicate]
    split <;> rfl
  · rfl
theorem nd_len (n : Int) : ((newDev n).las.length : Int) = min (max 0 n) 4194304 := by
  simp only [newDev, List.length_replicate]
  omega
theorem nd_flush (n k : Int) (h : k = (min (max 0 n) 4194304 + 7) / 8) : (newDev n).flushOk k = false := by
  have := nd_len n
  have h2 : ¬ 8 * k < ((newDev n).las.length : Int) := by omega
  simp [Dev.flushOk, h2]
theorem nd_flush0 (n : Int) : (newDev n).flushOk 0 = decide (0 < min (max 0 n) 4194304) := by
  have := nd_len n
  have h2 : decide (8 * (0 : Int) < ((newDev n).las.length : Int)) = decide (0 < min (max 0 n) 4194304) := by rw [this]; simp
  simp only [Dev.flushOk, h2]
  simp [Dev.down, newDev]

theorem store_none {n k v : Int} (h : (newDev n).storeOk k = false) : (newDev n).stored k v = newDev n := by
  unfold Dev.stored
  rw [if_neg (by simp [h])]
theorem flush_none {n k : Int} (h : (newDev n).flushOk k = false) : (newDev n).flushed k = newDev n := by
  unfold Dev.flushed
  rw [if_neg (by simp [h])]

theorem mine_dr {w W W' : World} {b : Nat} {d : Dev} {g : Lay} (h : Mine w W b d g) (k : ∃ n, W' = W.drewN n) : Mine w W' b d g := by
  obtain ⟨n, rfl⟩ := k
  exact h.drewN n

theorem q_len {w : World} {b : Nat} {g : Lay} {n m : Int} (h : DevIs w b (newDev n) g) (hm : Hid (m = min (max 0 n) 4194304)) :
    Calls Try.prog 12 #[.pointer (some ⟨b, 0, none⟩)] w fun e w' => e = .returned (.int .i64 m) ∧ w = w' := by
  have := len_any h
  rw [nd_len, ← hm.out] at this
  exact this
theorem q_load {w : World} {b : Nat} {g : Lay} {n : Int} (h : DevIs w b (newDev n) g) (k : Int) :
    Calls Try.prog 13 #[.pointer (some ⟨b, 0, none⟩), .int .i64 k] w fun e w' => e = .returned (.int .u64 0) ∧ ∃ n, w' = w.drewN n := by
  have := load_any h k
  rw [nd_load] at this
  exact this
theorem q_store {w : World} {b : Nat} {g : Lay} {n m : Int} (h : DevIs w b (newDev n) g) (hm : Hid (m = min (max 0 n) 4194304)) :
    Calls Try.prog 14 #[.pointer (some ⟨b, 0, none⟩), .int .i64 m, .int .u64 1] w fun e w' => e = .returned (.bool false) ∧ w = w' :=
  store_no h m 1 (by simp [Dev.storeOk, nd_inn n m (.inl hm.out)])
theorem q_flush {w : World} {b : Nat} {g : Lay} {n m k : Int} (h : DevIs w b (newDev n) g) (hm : Hid (m = min (max 0 n) 4194304)) (hk : k = (m + 7) / 8) :
    Calls Try.prog 15 #[.pointer (some ⟨b, 0, none⟩), .int .i64 k] w fun e w' => e = .returned (.bool false) ∧ w = w' :=
  flush_no h k (nd_flush n k (by rw [← hm.out]; exact hk))
theorem q_flush0 {w : World} {b : Nat} {g : Lay} {n m : Int} {r : Bool} (h : DevIs w b (newDev n) g) (hm : Hid (m = min (max 0 n) 4194304)) (hr : Hid (r = decide (0 < m))) :
    Calls Try.prog 15 #[.pointer (some ⟨b, 0, none⟩), .int .i64 0] w fun e w' => e = .returned (.bool r) ∧ DevTo w w' b g ((newDev n).flushed 0) := by
  have := flush_any h 0 (by simp [newDev])
  rw [nd_flush0, ← hm.out, ← hr.out] at this
  exact this

set_option maxRecDepth 100000 in
theorem walk_at (a0 n m : Int) (r : Bool) (w : World) (h : (5000 < a0 ∧ a0 < 4194304 ∧ Hid (n = 5000) ∧ Hid (m = 5000) ∧ r = true) ∨ (a0 ≤ 0 ∧ Hid (n = a0) ∧ Hid (m = 0) ∧ r = false) ∨ (0 < a0 ∧ a0 ≤ 5000 ∧ Hid (n = a0) ∧ Hid (m = a0) ∧ r = true) ∨ (4194304 < a0 ∧ Hid (n = a0) ∧ Hid (m = 4194304) ∧ r = true) ∨ (Hid (a0 = 4194304) ∧ Hid (n = 4194304) ∧ Hid (m = 4194304) ∧ r = true))
    (hm : Hid (m = min (max 0 n) 4194304)) (hr : Hid (r = decide (0 < m))) :
    Calls Try.prog 3 #[.int .i64 a0] w fun e w' => e = .returned (.bool true) ∧ Below w.heap.size w w' := by
  have hl := lives_any w
  have HL := Lib.hid hl
  clear hl
  have p1 : (5000 + 7) / 8 = (625 : Int) := by decide
  rcases h with ⟨h1, h2, hn, hm', rfl⟩ | ⟨h1, hn, hm', rfl⟩ | ⟨h1, h2, hn, hm', rfl⟩ | ⟨h1, hn, hm', rfl⟩ | ⟨h1, hn, hm', rfl⟩
  all_goals (try obtain rfl := h1.out)
  all_goals (obtain rfl := hn.out; obtain rfl := hm'.out)
  all_goals
    clear hn hm'
    go_enter Try.func3, Try.ntmps3
    go_wp2_with (first | (go_at_call 10; refine HL.out.mono ?_; rintro e w1 ⟨rfl, hb0⟩; (have HB := Lib.hid hb0); clear hb0) |
      (go_at_call 11; refine (new_any _ _).mono ?_; rintro e w2 ⟨_, rfl, b, g0, rfl, h1, h2, h3⟩; (have M := Lib.hid (Mine.mk h1 h2 h3)); clear h1 h2 h3) |
      (go_at_call 12; refine (q_len M.out.dev hm).mono ?_; rintro e w3 ⟨rfl, rfl⟩) |
      (go_at_call 14; refine (q_store M.out.dev hm).mono ?_; rintro e w3 ⟨rfl, rfl⟩) |
      (go_at_call 15; refine (q_flush M.out.dev hm (by omega)).mono ?_; rintro e w3 ⟨rfl, rfl⟩) |
      (go_at_call_of 15 (Value.int IntKind.i64 0); refine (q_flush0 M.out.dev hm hr).mono ?_; rintro e w3 ⟨rfl, hd⟩; (obtain ⟨g9, m9⟩ := M.out.to hd); (have M9 := Lib.hid m9); clear hd m9) |
      (go_at_call 13; refine (q_load M.out.dev _).mono ?_; rintro e w3 ⟨rfl, hw3⟩; (have M' := Lib.hid (mine_dr M.out hw3)); clear M hw3; (have M := M'); clear M'))
    go_ret
    first | exact ⟨rfl, HB.out.trans (M9.out.below.mono HB.out.size)⟩ | exact ⟨rfl, HB.out.trans (M.out.below.mono HB.out.size)⟩

theorem walk (a0 : Int) (w : World) :
    Calls Try.prog 3 #[.int .i64 a0] w fun e w' => e = .returned (.bool true) ∧ Below w.heap.size w w' := by
  by_cases h1 : a0 ≤ 0
  · exact walk_at a0 a0 0 false w (.inr (.inl ⟨h1, rfl, rfl, rfl⟩)) (by show 0 = min (max 0 a0) 4194304; omega) rfl
  by_cases h2 : a0 ≤ 5000
  · exact walk_at a0 a0 a0 true w (.inr (.inr (.inl ⟨by omega, h2, rfl, rfl, rfl⟩))) (by show a0 = min (max 0 a0) 4194304; omega) (by show true = decide (0 < a0); simp; omega)
  by_cases h3 : a0 < 4194304
  · exact walk_at a0 5000 5000 true w (.inl ⟨by omega, h3, rfl, rfl, rfl⟩) rfl rfl
  by_cases h4 : a0 = 4194304
  · exact walk_at a0 4194304 4194304 true w (.inr (.inr (.inr (.inr ⟨h4, rfl, rfl, rfl⟩)))) rfl rfl
  · exact walk_at a0 a0 4194304 true w (.inr (.inr (.inr (.inl ⟨by omega, rfl, rfl, rfl⟩)))) (by show 4194304 = min (max 0 a0) 4194304; omega) rfl

set_option maxRecDepth 100000 in
theorem lifted (os : Os) (started : os.Started) (H : Type) (enc : TypeId × Value → H) :
    ReturnsInHanded {} Try.checked os 3 .any (Rows.pmSizesSpec.pre6 enc Try.prog Try.f3 Rows.pmSizesRow.domain false) (Rows.pmSizesSpec.post enc Try.prog Try.f3 false true false false) := by
  refine returnsInHanded_of_change (C := Try.checked) own started (by kernel_rfl) Try.func3
    (ChangeSpec.witness6 (enc := enc) (C := Try.checked) false ⟨#[], #[.int .i64 0], []⟩ 8 (by kernel_rfl) (by kernel_rfl) (by kernel_rfl) (by kernel_rfl)) ?_
  intro W base args ds gs before hval0 hW hcnd _
  have hval : ∀ (j : Nat) t v, Try.f3.params[j]? = some t → args[j]? = some v → Value.okWide Try.prog W .any base t v := hval0
  have hW' := hW
  obtain ⟨p, q, hA0, hV, rfl, hfz, hnd⟩ := hW
  have hA : DataW.TrodAll enc Try.prog W 0 (fun _ => true) true Try.f3.params.toList args.toList ds p := hA0
  rw [Try.params3] at hA hval
  obtain ⟨v0, vs0, d0, ds0, p0, q0, hargs, rfl, rfl, h0, r0⟩ := trodAll_cons hA
  obtain ⟨rfl, rfl, rfl⟩ := trodAll_nil r0
  obtain rfl : args = #[v0] := by cases args; simp_all
  obtain ⟨rfl, rfl⟩ := trodVars_none hV
  obtain ⟨a0, rfl, rfl, rfl, w0⟩ := open_int Try.underlying3 (hval 0 3 v0 rfl rfl) h0
  clear hA0 hval0
  refine (walk a0 W).mono fun e W' ⟨he, bel⟩ => ?_
  subst he
  exact ⟨_, rfl, _, _, _, [], [], [], hW', trodAll_mk1 (shut_bool Try.underlying4 _), (trodAll_cons_mk (shut_int Try.underlying3 w0) trodAll_mk0), rfl, bel.frame _, fun h => by cases h⟩

theorem over : Rows.pmSizesRow.holds Try.pinned (OpenSpec.ofChange Rows.pmSizesSpec) :=
  OpenClaim.holds_of_wide 3 Try.f3 rfl rfl rfl rfl rfl rfl rfl ⟨rfl, rfl, rfl, rfl, rfl⟩ rfl rfl rfl rfl rfl (by kernel_rfl) Try.func3 (by kernel_rfl)
    (of_decide_eq_true (by kernel_rfl)) (by unfold Func.isWrapper; first | (rw [if_pos (by decide +kernel)]; kernel_rfl) | (rw [if_neg (by decide +kernel)]; exact ⟨rfl, rfl⟩))
    (fun os started H enc _ => lifted os started H enc)

/-- PmSizes holds. -/
theorem proved : Rows.PmSizesSaid := over
#print axioms proved

end Go.Proofs.Ytlokklfkiechdaa.pmSizes
