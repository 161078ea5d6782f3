/- A device's fuse is laid. -/
import Derived.Test.YtlokklfkiechdaaPmL
import Derived.Deep.RegionWith
set_option linter.unusedVariables false
set_option linter.unusedSimpArgs false
set_option maxHeartbeats 400000
namespace Go.Proofs.Ytlokklfkiechdaa.Pm
open Go Go.RowKit
open Go.ChangeMaps (setBlock)
open Go.Proofs.Ytlokklfkiechdaa.Ob Go.Proofs.Ytlokklfkiechdaa.Mp Go.Proofs.Ytlokklfkiechdaa.Dv Go.Proofs.Ytlokklfkiechdaa.Wl

def armed (d : Dev) (n : Int) : Dev := { d with fuse := some (max 0 n).toNat }
theorem armed_wf {d : Dev} (h : d.Wf) (n : Int) (hn : n ≤ 9223372036854775807) : (armed d n).Wf :=
  ⟨h.len, h.keys, h.lo, h.hi, h.ne, h.fl, h.few, h.st, h.lim, fun m hm => by simp only [armed, Option.some.injEq] at hm; omega⟩

theorem arm_any {w : World} {b : Nat} {d : Dev} {g : Lay} (h : DevIs w b d g) (n : Int) (hn : n ≤ 9223372036854775807) :
    Calls Try.prog 30 #[.pointer (some ⟨b, 0, none⟩), .int .i64 n] w fun e w' => e = .returned (.tuple #[]) ∧ Upd [b] w w' ∧ DevIs w' b (armed d n) g := by
  have H := Lib.hid h
  have hc4 : w.cell? ⟨b, 4, none⟩ = some (.bool d.fuse.isSome) := by rw [cell_of h.blk]; rfl
  have hc5 : w.cell? ⟨b, 5, none⟩ = some (.int .i64 (d.fuse.getD 0)) := by rw [cell_of h.blk]; rfl
  have f4 := dev_free h 4
  have f5 := dev_free h 5
  have HW := Lib.hid (armed_wf h.wf n hn)
  have he : cellsOf (armed d n) g = #[.int .i64 d.steps, .int .i64 d.stores, .slice g.A d.las.length g.c, .map (some g.M), .bool true, .int .i64 (max 0 n)] := by
    simp only [cellsOf, armed, Option.isSome_some, Option.getD_some]
    rw [show (((max 0 n).toNat : Nat) : Int) = max 0 n from by omega]
  have HE := Lib.hid he
  clear h he
  rcases (by omega : n ≤ 0 ∨ 0 < n) with h0 | h0
  all_goals
    go_enter Try.func30, Try.ntmps30
    go_wp2
    go_end0
    have hu := ((Upd.refl [b] w).setCell (a := ⟨b, 4, none⟩) (by simp) (.bool true)).setCell (a := ⟨b, 5, none⟩) (by simp) (.int .i64 (max 0 n))
    have hb := set_b (set_b H.out.blk 4 (.bool true) rfl) 5 (.int .i64 (max 0 n)) rfl
    first | rw [show max 0 n = 0 from by omega] at hu hb | rw [show max 0 n = n from by omega] at hu hb
    refine ⟨rfl, hu, dev_own H.out ?_ hu rfl rfl HW.out⟩
    rw [hb, HE.out]
    first | rw [show max 0 n = 0 from by omega] | rw [show max 0 n = n from by omega]
    rfl

end Go.Proofs.Ytlokklfkiechdaa.Pm
