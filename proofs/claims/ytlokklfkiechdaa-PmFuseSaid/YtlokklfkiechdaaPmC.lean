/- A device's step: it counts, and its fuse burns. -/
import Derived.Test.YtlokklfkiechdaaPmB
set_option linter.unusedVariables false
set_option linter.unusedSimpArgs false
set_option maxHeartbeats 400000
namespace Go.Proofs.Ytlokklfkiechdaa.Pm
open Go Go.RowKit
open Go.ChangeMaps (setBlock)
open Go.Proofs.Ytlokklfkiechdaa.Ob Go.Proofs.Ytlokklfkiechdaa.Mp Go.Proofs.Ytlokklfkiechdaa.Dv

/-- The device's own block alone has turned. -/
theorem dev_own {w w' : World} {b : Nat} {d d' : Dev} {g : Lay} (h : DevIs w b d g) (hb : w'.heap[b]? = some (.cells (cellsOf d' g) 75 (0, 0))) (hu : Upd [b] w w')
    (hl : d'.las = d.las) (ho : d'.opn = d.opn) (hw : d'.Wf) : DevIs w' b d' g := by
  have hnd := h.nd
  have hk : ∀ k ∈ g.foot b, k ≠ b → w'.heap[k]? = w.heap[k]? := fun k hk hne => hu.block k (h.lt k hk) (by simpa using hne)
  have hne : ∀ k, k ∈ g.M :: (g.Ls ++ g.ents) → k ≠ b := by
    intro k hk1 e
    subst e
    simp only [Lay.foot] at hnd
    exact (List.nodup_cons.1 hnd).1 hk1
  have hk' : ∀ k ∈ g.M :: (g.Ls ++ g.ents), w'.heap[k]? = w.heap[k]? := fun k hk1 => hk k (by simp only [Lay.foot]; exact List.mem_cons_of_mem _ hk1) (hne k hk1)
  refine ⟨hb, ?_, (hk' _ (by simp)).trans h.map, fun x hx => (h.ents x hx).keep (hk' _ (by simp [(mem_ents hx).1])) (hk' _ (by simp [(mem_ents hx).2])), by rw [ho]; exact h.opn, hnd, h.bnd, h.old, hw⟩
  rw [hl]
  exact h.las.keep (fun q hq => hk' q (by simp [hq]))

theorem stepped_wf {d : Dev} (h : d.Wf) (store : Bool) (hlim : d.steps < 1099511627776) : (d.stepped store).Wf := by
  refine ⟨h.len, h.keys, h.lo, h.hi, h.ne, h.fl, fun x hx => ?_, ?_, ?_, fun n hn => ?_⟩
  · have := h.few x hx
    simp only [Dev.stepped]
    omega
  · have := h.st
    simp only [Dev.stepped]
    cases store <;> simp <;> omega
  · simp only [Dev.stepped]
    omega
  · simp only [Dev.stepped, Option.map_eq_some_iff] at hn
    obtain ⟨m, hm, rfl⟩ := hn
    have := h.fuse m hm
    omega

theorem set_b {w : World} {b : Nat} {t : TypeId} {cs : Array Value} (h : w.heap[b]? = some (.cells cs t (0, 0))) (i : Nat) (u : Value) {cs' : Array Value} (e : cs.setIfInBounds i u = cs') :
    (w.setCell ⟨b, i, none⟩ u).heap[b]? = some (.cells cs' t (0, 0)) := by rw [set_same h, e]

/-- one more, if it is a store -/
def inc (store : Bool) (y : Int) : Int := if store then y + 1 else y

theorem did_any {w : World} {b : Nat} (x y : Int) (hx0 : 0 ≤ x) (hx : x < 1099511627776) (hy0 : 0 ≤ y) (hy : y < 1099511627776) (c2 c3 c4 c5 : Value)
    (hb : w.heap[b]? = some (.cells #[.int .i64 x, .int .i64 y, c2, c3, c4, c5] 75 (0, 0))) (store : Bool) :
    Calls Try.prog 58 #[.pointer (some ⟨b, 0, none⟩), .bool store] w fun e w' => e = .returned (.tuple #[]) ∧ Upd [b] w w' ∧
      w'.heap[b]? = some (.cells #[.int .i64 (x + 1), .int .i64 (inc store y), c2, c3, c4, c5] 75 (0, 0)) := by
  have h0 : w.cell? ⟨b, 0, none⟩ = some (.int .i64 x) := by rw [cell_of hb]; rfl
  have h1 : w.cell? ⟨b, 1, none⟩ = some (.int .i64 y) := by rw [cell_of hb]; rfl
  have f0 := free_of hb 0
  have f1 := free_of hb 1
  have HB := Lib.hid hb
  clear hb
  cases store with
  | true =>
    go_enter Try.func58, Try.ntmps58
    go_wp2
    go_end0
    exact ⟨rfl, ((Upd.refl _ _).setCell (by simp) _).setCell (by simp) _, set_b (set_b HB.out 0 (.int .i64 (x + 1)) rfl) 1 (.int .i64 (y + 1)) rfl⟩
  | false =>
    go_enter Try.func58, Try.ntmps58
    go_wp2
    go_end0
    exact ⟨rfl, (Upd.refl _ _).setCell (by simp) _, set_b HB.out 0 (.int .i64 (x + 1)) rfl⟩

theorem step_down {w : World} {b : Nat} {d : Dev} {g : Lay} (h : DevIs w b d g) (hd : d.down = true) (store : Bool) :
    Calls Try.prog 36 #[.pointer (some ⟨b, 0, none⟩), .bool store] w fun e w' => e = .returned (.bool false) ∧ w = w' := by
  have hc := down_any h
  rw [hd] at hc
  have HC := Lib.hid hc
  clear hc h hd
  go_enter Try.func36, Try.ntmps36
  go_wp2_with (go_at_call 29; refine HC.out.mono ?_; rintro e w' ⟨rfl, rfl⟩)
  go_ret
  exact ⟨rfl, rfl⟩

theorem step_go {w : World} {b : Nat} {d : Dev} {g : Lay} (h : DevIs w b d g) (hd : d.down = false) (hlim : d.steps < 1099511627776) (store : Bool) :
    Calls Try.prog 36 #[.pointer (some ⟨b, 0, none⟩), .bool store] w fun e w' => e = .returned (.bool true) ∧ Upd [b] w w' ∧ DevIs w' b (d.stepped store) g := by
  have hc := down_any h
  rw [hd] at hc
  have HC := Lib.hid hc
  have hw := stepped_wf h.wf store hlim
  have hst := h.wf.st
  have hfu := h.wf.fuse
  obtain ⟨c0, c1, c2, c3, c4, c5⟩ := dev_cells h
  have f5 := dev_free h 5
  have H := Lib.hid h
  have W := Lib.hid hw
  have hblk := h.blk
  clear hc h c0 c1 c2 c3 hw
  cases hf : d.fuse with
  | none =>
    rw [hf] at c4 c5
    simp only [Option.isSome_none, Option.getD_none] at c4 c5
    have hdid := did_any (d.steps : Int) (d.stores : Int) (by omega) (by omega) (by omega) (by omega) _ _ _ _ hblk store
    have HF := Lib.hid hf
    have HD := Lib.hid hdid
    clear hf hdid hd hblk
    go_enter Try.func36, Try.ntmps36
    go_wp2_with (first | (go_at_call 29; refine HC.out.mono ?_; rintro e w' ⟨rfl, rfl⟩) | (go_at_call 58; refine HD.out.mono ?_; rintro e w1 ⟨rfl, hu, hb1⟩))
    go_ret
    refine ⟨rfl, hu, dev_own H.out ?_ hu rfl rfl W.out⟩
    rw [hb1]
    simp only [cellsOf, Dev.stepped, HF.out]
    cases store <;> simp [inc]
  | some n =>
    cases n with
    | zero => simp [Dev.down, hf] at hd
    | succ n =>
      rw [hf] at c4 c5
      simp only [Option.isSome_some, Option.getD_some] at c4 c5
      have hm : ∃ m : Int, ((n + 1 : Nat) : Int) = m ∧ 0 < m := ⟨_, rfl, by omega⟩
      obtain ⟨m, hm, hpos⟩ := hm
      have hm9 : m ≤ 9223372036854775807 ∨ 9223372036854775807 < m := by omega
      rw [hm] at c5
      have hblk' : w.heap[b]? = some (.cells #[.int .i64 d.steps, .int .i64 d.stores, .slice g.A d.las.length g.c, .map (some g.M), .bool true, .int .i64 m] 75 (0, 0)) := by
        rw [hblk, ← hm]
        simp [cellsOf, hf]
      have hset : (w.setCell ⟨b, 5, none⟩ (.int .i64 (m - 1))).heap[b]? = some (.cells #[.int .i64 d.steps, .int .i64 d.stores, .slice g.A d.las.length g.c, .map (some g.M), .bool true, .int .i64 (m - 1)] 75 (0, 0)) := set_b hblk' 5 (.int .i64 (m - 1)) rfl
      have hu0 : Upd [b] w (w.setCell ⟨b, 5, none⟩ (.int .i64 (m - 1))) := (Upd.refl _ _).setCell (by simp) _
      have hdid := did_any (d.steps : Int) (d.stores : Int) (by omega) (by omega) (by omega) (by omega) _ _ _ _ hset store
      have hfin : d.fuse.isSome = true ∧ ((d.stepped store).fuse.getD 0 : Int) = m - 1 ∧ (d.stepped store).fuse.isSome = true := by
        refine ⟨by rw [hf]; rfl, ?_, by simp [Dev.stepped, hf]⟩
        have : (d.stepped store).fuse.getD 0 = n := by simp [Dev.stepped, hf]
        rw [this]
        omega
      have HD := Lib.hid hdid
      have HU := Lib.hid hu0
      have HN := Lib.hid hfin
      have hlm : m ≤ 9223372036854775807 := hfu _ hf |> fun h => by omega
      clear hf hdid hd hblk hblk' hset hu0 hm hm9 hfin
      go_enter Try.func36, Try.ntmps36
      go_wp2_with (first | (go_at_call 29; refine HC.out.mono ?_; rintro e w' ⟨rfl, rfl⟩) | (go_at_call 58; refine HD.out.mono ?_; rintro e w1 ⟨rfl, hu, hb1⟩))
      go_ret
      have hu2 := HU.out.trans hu (fun x hx => .inl hx)
      refine ⟨rfl, hu2, dev_own H.out ?_ hu2 rfl rfl W.out⟩
      rw [hb1]
      obtain ⟨q1, q2, q3⟩ := HN.out
      simp only [cellsOf, q2, q3]
      cases store <;> simp [Dev.stepped, inc]

end Go.Proofs.Ytlokklfkiechdaa.Pm
