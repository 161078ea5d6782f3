/- The device's small calls: what each comes to. -/
import Derived.Test.YtlokklfkiechdaaProg
import Derived.Test.YtlokklfkiechdaaDv
import Derived.WalkKit
import Derived.WalkSpells
import Derived.KernelRfl
import Derived.Outline
import Derived.OwnWalk
set_option linter.unusedVariables false
set_option linter.unusedSimpArgs false
set_option maxHeartbeats 400000
namespace Go.Proofs.Ytlokklfkiechdaa.Pm
open Go Go.RowKit
open Go.ChangeMaps (setBlock)
open Go.Proofs.Ytlokklfkiechdaa.Ob Go.Proofs.Ytlokklfkiechdaa.Mp Go.Proofs.Ytlokklfkiechdaa.Dv

theorem dev_cells {w : World} {b : Nat} {d : Dev} {g : Lay} (h : DevIs w b d g) :
    w.cell? ⟨b, 0, none⟩ = some (.int .i64 d.steps) ∧ w.cell? ⟨b, 1, none⟩ = some (.int .i64 d.stores) ∧ w.cell? ⟨b, 2, none⟩ = some (.slice g.A d.las.length g.c) ∧
    w.cell? ⟨b, 3, none⟩ = some (.map (some g.M)) ∧ w.cell? ⟨b, 4, none⟩ = some (.bool d.fuse.isSome) ∧ w.cell? ⟨b, 5, none⟩ = some (.int .i64 (d.fuse.getD 0)) := by
  refine ⟨?_, ?_, ?_, ?_, ?_, ?_⟩ <;> (rw [cell_of h.blk]; rfl)
theorem dev_free {w : World} {b : Nat} {d : Dev} {g : Lay} (h : DevIs w b d g) (i : Nat) : w.frozen? ⟨b, i, none⟩ = false := free_of h.blk i

theorem len_any {w : World} {b : Nat} {d : Dev} {g : Lay} (h : DevIs w b d g) :
    Calls Try.prog 12 #[.pointer (some ⟨b, 0, none⟩)] w fun e w' => e = .returned (.int .i64 d.las.length) ∧ w = w' := by
  obtain ⟨c0, c1, c2, c3, c4, c5⟩ := dev_cells h
  go_enter Try.func12, Try.ntmps12
  go_wp2
  go_ret
  exact ⟨rfl, rfl⟩

theorem in_any {w : World} {b : Nat} {d : Dev} {g : Lay} (h : DevIs w b d g) (k : Int) :
    Calls Try.prog 35 #[.pointer (some ⟨b, 0, none⟩), .int .i64 k] w fun e w' => e = .returned (.bool (d.inn k)) ∧ w = w' := by
  obtain ⟨c0, c1, c2, c3, c4, c5⟩ := dev_cells h
  by_cases h0 : 0 ≤ k
  · by_cases h1 : k < d.las.length
    · have e : d.inn k = true := by simp [Dev.inn, h0, h1]
      rw [e]
      clear e
      go_enter Try.func35, Try.ntmps35
      go_wp2
      go_ret
      exact ⟨rfl, rfl⟩
    · have e : d.inn k = false := by simp [Dev.inn, h1]
      rw [e]
      clear e
      go_enter Try.func35, Try.ntmps35
      go_wp2
      go_ret
      exact ⟨rfl, rfl⟩
  · have e : d.inn k = false := by simp [Dev.inn, h0]
    rw [e]
    clear e
    go_enter Try.func35, Try.ntmps35
    go_wp2
    go_ret
    exact ⟨rfl, rfl⟩

theorem down_any {w : World} {b : Nat} {d : Dev} {g : Lay} (h : DevIs w b d g) :
    Calls Try.prog 29 #[.pointer (some ⟨b, 0, none⟩)] w fun e w' => e = .returned (.bool d.down) ∧ w = w' := by
  obtain ⟨c0, c1, c2, c3, c4, c5⟩ := dev_cells h
  unfold Dev.down
  cases hf : d.fuse with
  | none =>
    simp only [hf, Option.isSome_none, Option.getD_none] at c4 c5
    clear c0 c1 c2 c3
    go_enter Try.func29, Try.ntmps29
    go_wp2
    go_ret
    exact ⟨rfl, rfl⟩
  | some n =>
    simp only [hf, Option.isSome_some, Option.getD_some] at c4 c5
    clear c0 c1 c2 c3 hf
    cases n with
    | zero =>
      go_enter Try.func29, Try.ntmps29
      go_wp2
      go_ret
      exact ⟨rfl, rfl⟩
    | succ n =>
      have e : ((n + 1 : Nat) : Int) ≠ 0 := by omega
      have e0 : decide (some (n + 1) = some 0) = false := by simp
      rw [e0]
      have e1 : (((n + 1 : Nat) : Int) == 0) = false := by simp; omega
      go_enter Try.func29, Try.ntmps29
      go_wp2
      go_ret
      exact ⟨rfl, rfl⟩

theorem steps_any {w : World} {b : Nat} {d : Dev} {g : Lay} (h : DevIs w b d g) :
    Calls Try.prog 31 #[.pointer (some ⟨b, 0, none⟩)] w fun e w' => e = .returned (.int .i64 d.steps) ∧ w = w' := by
  obtain ⟨c0, c1, c2, c3, c4, c5⟩ := dev_cells h
  go_enter Try.func31, Try.ntmps31
  go_wp2
  go_ret
  exact ⟨rfl, rfl⟩

end Go.Proofs.Ytlokklfkiechdaa.Pm
