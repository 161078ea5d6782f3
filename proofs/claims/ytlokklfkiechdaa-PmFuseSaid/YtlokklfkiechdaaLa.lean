/- The acts of the first chapter's laws: as they come in, and whether they are few. -/
import Derived.Test.YtlokklfkiechdaaPmQ
set_option linter.unusedVariables false
set_option linter.unusedSimpArgs false
set_option maxHeartbeats 1000000
namespace Go.Proofs.Ytlokklfkiechdaa.La
open Go Go.RowKit
open Go.ChangeMaps (setBlock)
open Go.Proofs.Ytlokklfkiechdaa.Ob Go.Proofs.Ytlokklfkiechdaa.Mp Go.Proofs.Ytlokklfkiechdaa.Dv Go.Proofs.Ytlokklfkiechdaa.Wl Go.Proofs.Ytlokklfkiechdaa.Cp Go.Proofs.Ytlokklfkiechdaa.Pm

structure Act where
  k : Int
  W : Int
  X : Int
  ca : Option Addr
  cl : Nat
  cc : Nat

def Act.val (a : Act) : Value := .agg #[.int .u8 a.k, .int .i64 a.W, .int .u64 a.X, .slice a.ca a.cl a.cc]

structure Act.Wf (x : Act) : Prop where
  k0 : 0 ≤ x.k
  k1 : x.k < 256
  w0 : -9223372036854775808 ≤ x.W
  w1 : x.W ≤ 9223372036854775807
  x0 : 0 ≤ x.X
  x1 : x.X < 18446744073709551616

/-- the slice (A, ..) holds these acts -/
def ActsAt (w : World) (A : Option Addr) (l : List Act) : Prop := ∀ (i : Nat) x, l[i]? = some x → x.Wf ∧ ∃ q off, A = some ⟨q, off, none⟩ ∧ q < w.heap.size ∧ w.cell? ⟨q, off + i * 4, none⟩ = some (.int .u8 x.k) ∧ w.cell? ⟨q, off + i * 4 + 1, none⟩ = some (.int .i64 x.W) ∧ w.cell? ⟨q, off + i * 4 + 2, none⟩ = some (.int .u64 x.X) ∧ w.cell? ⟨q, off + i * 4 + 3, none⟩ = some (.slice x.ca x.cl x.cc)

theorem ActsAt.upd {w w' : World} {A : Option Addr} {l : List Act} {F : List Nat} (h : ActsAt w A l) (hu : Upd F w w') (hF : ∀ a, A = some a → a.block ∉ F) : ActsAt w' A l := by
  intro i x hi
  obtain ⟨hw, q, off, rfl, h0, h1, h2, h3, h4⟩ := h i x hi
  have hb := hu.block q h0 (hF _ rfl)
  have e : ∀ j, w'.cell? ⟨q, j, none⟩ = w.cell? ⟨q, j, none⟩ := fun j => cell_block hb j
  exact ⟨hw, q, off, rfl, Nat.lt_of_lt_of_le h0 hu.size, by rw [e]; exact h1, by rw [e]; exact h2, by rw [e]; exact h3, by rw [e]; exact h4⟩
theorem ActsAt.below {w w' : World} {A : Option Addr} {l : List Act} (h : ActsAt w A l) (hu : Below w.heap.size w w') : ActsAt w' A l := h.upd (Upd.of_below (F := []) hu) (by simp)

def fewB (l : List Act) : Bool := (l.all fun a => decide (a.cl ≤ 60)) && decide (l.length ≤ 60)

set_option maxRecDepth 100000 in
theorem few_any {w : World} {A : Option Addr} {l : List Act} (h : ActsAt w A l) (c : Nat) (hl : l.length ≤ 9223372036854775807) :
    Calls Try.prog 24 #[.slice A l.length c] w fun e w' => e = .returned (.bool (fewB l)) ∧ Below w.heap.size w w' := by
  have H := Lib.hid h
  clear h
  obtain ⟨n, hn⟩ : ∃ n, n = l.length := ⟨_, rfl⟩
  rw [← hn]
  rw [← hn] at hl
  have HN := Lib.hid hn
  clear hn
  go_enter Try.func24, Try.ntmps24
  go_wp2
  go_loopw [7] (fun c7 wr => ∃ i : Nat, i ≤ n ∧ c7 = .int .i64 i ∧ Hid (Below w.heap.size w wr ∧ (l.take i).all (fun a => decide (a.cl ≤ 60)) = true)) (fun c7 _ => n - (intOf c7).toNat)
  case atStart => exact ⟨0, Nat.zero_le _, rfl, ⟨Below.refl _ _, by simp⟩⟩
  case round =>
    obtain ⟨i, hi, rfl, HB⟩ := hrel
    by_cases hlt : i < n
    · obtain ⟨x, hx⟩ : ∃ x, l[i]? = some x := ⟨_, List.getElem?_eq_getElem (by rw [← HN.out]; exact hlt)⟩
      obtain ⟨hw, q, off, rfl, h0, h1, h2, h3, h4⟩ := (H.out.below HB.out.1) i x hx
      have HX := Lib.hid hx
      clear hx hw h0
      have HS := Lib.hid HB.out.1.size
      by_cases hc : 60 < x.cl
      · go_wp2
        go_ret
        refine ⟨?_, HB.out.1.trans ((Below.refl _ _).alloc HS.out _)⟩
        have : fewB l = false := by
          unfold fewB
          rw [Bool.and_eq_false_iff]
          left
          rw [List.all_eq_false]
          exact ⟨x, List.mem_of_getElem? HX.out, by simpa using hc⟩
        rw [this]
        rfl
      · have hc' : x.cl ≤ 60 := by omega
        go_wp2
        go_roundw
        case rel =>
          refine ⟨i + 1, by omega, by go_num, HB.out.1.trans ((Below.refl _ _).alloc HS.out _), ?_⟩
          obtain ⟨hi', hx'⟩ := List.getElem?_eq_some_iff.1 HX.out
          rw [List.take_succ_eq_append_getElem hi', List.all_append, HB.out.2, hx']
          simp [hc']
        case measure => simp [intOf]; omega
    · obtain rfl : i = n := by omega
      have e : decide ((i : Int) ≤ 60) = decide (i ≤ 60) := by
        congr 1
        apply propext
        omega
      have E := Lib.hid e
      clear e
      go_wp2
      go_ret
      refine ⟨?_, HB.out.1⟩
      have h2 := HB.out.2
      rw [HN.out, List.take_length] at h2
      simp only [fewB, h2, Bool.true_and]
      rw [← HN.out]
      exact congrArg (fun b => Ending.returned (.bool b)) E.out

end Go.Proofs.Ytlokklfkiechdaa.La
