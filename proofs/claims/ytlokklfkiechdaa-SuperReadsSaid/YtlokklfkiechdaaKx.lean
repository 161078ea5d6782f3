/- The second chapter's example, out of its two sums' contracts. -/
import Derived.Test.YtlokklfkiechdaaOb
import Derived.Test.YtlokklfkiechdaaProg
import Derived.Test.YtlokklfkiechdaaWWords
import Derived.WalkKit
import Derived.WalkSpells
import Derived.Lib.SlBytesConst
import Derived.Lib.Hide
set_option linter.unusedVariables false
set_option linter.unusedSimpArgs false
set_option maxHeartbeats 400000
namespace Go.Proofs.Ytlokklfkiechdaa.Kx
open Go Go.RowKit Go.Proofs.YtlokklfkiechdaaW.PrintWords
open Go.Proofs.Ytlokklfkiechdaa.Ob

/-- a slice of one row of bytes -/
theorem part_C {W : World} {p q : Nat} {xs : List Int} {T1 T2 c : Nat} {fr fr' : Nat × Nat} (h1 : W.heap[p]? = some (.cells #[.slice (some ⟨q, 0, none⟩) xs.length c] T2 fr)) (h2 : W.heap[q]? = some (.cells (nums .u8 xs).toArray T1 fr'))
    (hc : xs.length ≤ c) (hm : xs.length ≤ 9223372036854775807) : Kd.C (Kd.slice 5 (Kd.int .u8)) W (some ⟨p, 0, none⟩) 1 [xs] := by
  refine ⟨rfl, by decide, fun _ => ⟨_, rfl, fun j y hj => ?_⟩⟩
  match j with
  | j + 1 => simp at hj
  | 0 =>
    simp at hj
    subst hj
    refine ⟨[.slice (some ⟨q, 0, none⟩) xs.length c], rfl, ⟨some ⟨q, 0, none⟩, c, rfl, hc, rfl, hm, fun _ => ⟨_, rfl, fun j y hj => ⟨[.int .u8 y], rfl, rfl, fun i u hi => ?_⟩⟩⟩, fun i u hi => ?_⟩
    · match i with
      | i + 1 => simp at hi
      | 0 =>
        simp at hi
        subst hi
        have : (⟨q, 0, none⟩ : Addr).add (j * 1 + 0) = ⟨q, j, none⟩ := by rw [add_plain]; simp
        have e : (Kd.int IntKind.u8).sz = 1 := rfl
        rw [e, this, cell_of h2]
        simp [nums, hj]
    · match i with
      | i + 1 => simp at hi
      | 0 =>
        simp at hi
        subst hi
        have : (⟨p, 0, none⟩ : Addr).add (0 * 1 + 0) = ⟨p, 0, none⟩ := by rw [add_plain]
        have e : (Kd.slice 5 (Kd.int IntKind.u8)).sz = 1 := rfl
        rw [e, this, cell_of h1]
        rfl

theorem alloc_get (w : World) (o : Obj) (k : Nat) : (w.alloc o).heap[k]? = if k = w.heap.size then some o else w.heap[k]? := by
  show (w.heap.push o)[k]? = _
  rw [Array.getElem?_push]
theorem size_drewN (w : World) (n : Nat) : (w.drewN n).heap.size = w.heap.size := rfl
theorem heap_drewN (w : World) (n : Nat) : (w.drewN n).heap = w.heap := rfl

def nine : List Int := [49, 50, 51, 52, 53, 54, 55, 56, 57]

theorem lives02_any
    (h32 : ∀ (A : Option Addr) (c : Nat) (W : World), Kd.C (Kd.slice 5 (Kd.int .u8)) W A 1 [nine] → 1 ≤ c → Calls Try.prog 59 #[.slice A 1 c] W fun e w' => e = .returned (.int .u32 3421780262) ∧ Drawn0 W w')
    (h16 : ∀ (A : Option Addr) (c : Nat) (W : World), Kd.C (Kd.slice 5 (Kd.int .u8)) W A 1 [nine] → 1 ≤ c → Calls Try.prog 60 #[.slice A 1 c] W fun e w' => e = .returned (.int .u16 10673) ∧ Drawn0 W w')
    (w : World) : Calls Try.prog 37 #[] w fun e w' => e = .returned (.bool true) ∧ Below w.heap.size w w' := by
  have kc := fun (w : World) (C : Array Value) (n c : Nat) => Lib.run_convert_bytes_const (P := Try.prog) w 54 5 C n c Try.underlying54 Try.underlying5
  have H32 := Lib.hid h32
  have H16 := Lib.hid h16
  clear h32 h16
  go_enter Try.func37, Try.ntmps37
  go_wp2_with fail
  refine (H32.out _ _ _ (part_C (p := w.heap.size + 1) (q := w.heap.size) (xs := nine) (c := 9) (T2 := 54) (T1 := 5) (fr := (0, 0)) (fr' := (9, 10)) (by simp only [alloc_get, heap_drewN, size_drewN, World.size_alloc]; simp [nine]) (by simp only [alloc_get, heap_drewN, size_drewN, World.size_alloc]; simp [nine, nums] <;> omega) (by decide) (by decide)) (by decide)).mono ?_
  rintro e w1 ⟨rfl, hd⟩
  obtain ⟨n, rfl⟩ := hd
  go_wp2_with fail
  refine (H16.out _ _ _ (part_C (p := w.heap.size + 2) (q := w.heap.size) (xs := nine) (c := 9) (T2 := 54) (T1 := 5) (fr := (0, 0)) (fr' := (9, 10)) (by simp only [alloc_get, heap_drewN, size_drewN, World.size_alloc]; simp [nine]) (by simp only [alloc_get, heap_drewN, size_drewN, World.size_alloc]; simp [nine, nums] <;> omega) (by decide) (by decide)) (by decide)).mono ?_
  rintro e w1 ⟨rfl, hd⟩
  obtain ⟨n2, rfl⟩ := hd
  go_wp2_with fail
  go_ret
  exact ⟨rfl, (((((Upd.refl [] w).alloc _).alloc _).drewN n).alloc _ |>.drewN n2).below (by simp)⟩

end Go.Proofs.Ytlokklfkiechdaa.Kx
