/- The first chapter's example lives. -/
import Derived.Test.YtlokklfkiechdaaPmK
set_option linter.unusedVariables false
set_option linter.unusedSimpArgs false
set_option maxHeartbeats 400000
namespace Go.Proofs.Ytlokklfkiechdaa.Pm
open Go Go.RowKit
open Go.ChangeMaps (setBlock)
open Go.Proofs.Ytlokklfkiechdaa.Ob Go.Proofs.Ytlokklfkiechdaa.Mp Go.Proofs.Ytlokklfkiechdaa.Dv Go.Proofs.Ytlokklfkiechdaa.Wl

/-- A device that a call has made for itself, from block B on, in a world that is as w was below B. -/
structure Mine (w W : World) (b : Nat) (d : Dev) (g : Lay) : Prop where
  dev : DevIs W b d g
  own : ∀ k ∈ g.foot b, w.heap.size ≤ k
  below : Below w.heap.size w W

theorem Mine.to {w W W' : World} {b : Nat} {d d' : Dev} {g : Lay} (h : Mine w W b d g) (k : DevTo W W' b g d') : ∃ g', Mine w W' b d' g' := by
  obtain ⟨g', h1, h2, h3⟩ := k
  have hs := h.below.size
  refine ⟨g', h1, fun x hx => ?_, h.below.trans (h3.belowB hs h.own)⟩
  rcases h2 x hx with r | r
  · exact h.own x r
  · omega
theorem Mine.below_ {w W W' : World} {b : Nat} {d : Dev} {g : Lay} (h : Mine w W b d g) (k : Below W.heap.size W W') : Mine w W' b d g :=
  ⟨h.dev.below k, h.own, h.below.trans (k.mono h.below.size)⟩
theorem Mine.drewN {w W : World} {b : Nat} {d : Dev} {g : Lay} (h : Mine w W b d g) (n : Nat) : Mine w (W.drewN n) b d g :=
  ⟨h.dev.drewN n, h.own, ⟨h.below.os, h.below.tape, h.below.output, h.below.size, h.below.block⟩⟩

def ld0 : Dev := newDev 8
def ld1 : Dev := ld0.stored 0 5
def ld2 : Dev := ld1.stored 0 6
def ld3 : Dev := ld2.flushed 0
def ld4 : Dev := ld3.fenced

theorem ev0 : ld0.storeOk 0 = true := by decide
theorem ev1 : ld1.storeOk 0 = true := by decide
theorem ev2 : ld2.may 0 = [0, 5, 6] := by decide
theorem ev3 : ld2.load 0 = 6 := by decide
theorem ev4 : ld2.flushOk 0 = true := by decide
theorem ev5 : ld3.down = false := by decide
theorem ev6 : ld4.may 0 = [6] := by decide
theorem st0 : ld0.steps < 1099511627776 ∧ ld1.steps < 1099511627776 ∧ ld2.steps < 1099511627776 ∧ ld3.steps < 1099511627776 := by decide

set_option maxRecDepth 100000 in
theorem lives_any (w : World) : Calls Try.prog 10 #[] w fun e w' => e = .returned (.bool true) ∧ Below w.heap.size w w' := by
  go_enter Try.func10, Try.ntmps10
  go_wp2_with fail
  refine (new_any 8 _).mono ?_
  rintro e w1 ⟨_, rfl, b, g0, rfl, h1, h2, h3⟩
  have M0 := Lib.hid (Mine.mk h1 h2 h3)
  clear h1 h2 h3
  go_wp2_with fail
  have hs := store_any M0.out.dev 0 5 st0.1
  rw [show (newDev 8).storeOk 0 = true from ev0] at hs
  refine hs.mono ?_
  rintro e w2 ⟨rfl, hd⟩
  obtain ⟨g1, m1⟩ := M0.out.to hd
  have M1 := Lib.hid m1
  clear hs hd m1
  go_wp2_with fail
  have hs := store_any M1.out.dev 0 6 st0.2.1
  rw [show ((newDev 8).stored 0 5).storeOk 0 = true from ev1] at hs
  refine hs.mono ?_
  rintro e w3 ⟨rfl, hd⟩
  obtain ⟨g2, m2⟩ := M1.out.to hd
  have M2 : Hid (Mine w w3 b ld2 g2) := Lib.hid m2
  clear hs hd m2
  go_wp2_with fail
  refine (may_any M2.out.dev 0).mono ?_
  rintro e w4 ⟨v, rfl, ho, hb⟩
  obtain ⟨A, c, qs, rfl, hsl, -⟩ := Sl.of_own ho
  have M3 := Lib.hid (M2.out.below_ hb)
  have el : (ld2.may 0).length = 3 := by rw [ev2]; rfl
  rw [el]
  clear ho hb hsl el
  go_wp2_with fail
  have hl := load_any M3.out.dev 0
  rw [ev3] at hl
  refine hl.mono ?_
  rintro e w5 ⟨rfl, n5, rfl⟩
  have M5 := Lib.hid (M3.out.drewN n5)
  clear hl
  go_wp2_with fail
  have hs := flush_any M5.out.dev 0 st0.2.2.1
  rw [ev4] at hs
  refine hs.mono ?_
  rintro e w6 ⟨rfl, hd⟩
  obtain ⟨g6, m6⟩ := M5.out.to hd
  have M6 : Hid (Mine w w6 b ld3 g6) := Lib.hid m6
  clear hs hd m6
  go_wp2_with fail
  have hs := fence_any M6.out.dev st0.2.2.2
  rw [ev5] at hs
  refine hs.mono ?_
  rintro e w7 ⟨rfl, hd⟩
  obtain ⟨g7, m7⟩ := M6.out.to hd
  have M7 : Hid (Mine w w7 b ld4 g7) := Lib.hid m7
  clear hs hd m7
  go_wp2_with fail
  refine (may_any M7.out.dev 0).mono ?_
  rintro e w8 ⟨v, rfl, ho, hb⟩
  obtain ⟨A, c, qs, rfl, hsl, -⟩ := Sl.of_own ho
  have M8 := Lib.hid (M7.out.below_ hb)
  have el : (ld4.may 0).length = 1 := by rw [ev6]; rfl
  rw [el]
  clear ho hb hsl el
  go_wp2_with fail
  refine (may_any M8.out.dev 0).mono ?_
  rintro e w9 ⟨v, rfl, ho, hb⟩
  obtain ⟨A, c, qs, rfl, hsl, -⟩ := Sl.of_own ho
  have M9 := Lib.hid (M8.out.below_ hb)
  have el : (ld4.may 0).length = 1 := by rw [ev6]; rfl
  rw [el]
  rw [ev6] at hsl
  obtain ⟨q, off, cs, rfl, _, _, _, hcell, _⟩ := hsl.at_ (i := 0) (v := .int .u64 6) rfl
  have hcell' : w9.cell? ⟨q, off, none⟩ = some (.int .u64 6) := hcell
  clear ho hb hsl el hcell
  go_wp2_with fail
  go_ret
  exact ⟨rfl, M9.out.below⟩

end Go.Proofs.Ytlokklfkiechdaa.Pm
