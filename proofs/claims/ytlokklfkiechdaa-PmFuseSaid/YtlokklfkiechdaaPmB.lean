/- The device's words as they are seen, and its steps. -/
import Derived.Test.YtlokklfkiechdaaPmA
import Derived.Lib.Hide
import Derived.Deep.QuietTactic
import Derived.BigQuiet
set_option linter.unusedVariables false
set_option linter.unusedSimpArgs false
set_option maxHeartbeats 400000
namespace Go.Proofs.Ytlokklfkiechdaa.Pm
open Go Go.RowKit
open Go.ChangeMaps (setBlock)
open Go.Proofs.Ytlokklfkiechdaa.Ob Go.Proofs.Ytlokklfkiechdaa.Mp Go.Proofs.Ytlokklfkiechdaa.Dv

theorem inn_true {d : Dev} {k : Int} (h : d.inn k = true) : ∃ n : Nat, k = n ∧ n < d.las.length := by
  simp [Dev.inn] at h
  exact ⟨k.toNat, by omega, by omega⟩

theorem lasting_any {w : World} {b : Nat} {d : Dev} {g : Lay} (h : DevIs w b d g) (k : Int) :
    Calls Try.prog 28 #[.pointer (some ⟨b, 0, none⟩), .int .i64 k] w fun e w' => e = .returned (.int .u64 (d.lasting k)) ∧ w = w' := by
  obtain ⟨c0, c1, c2, c3, c4, c5⟩ := dev_cells h
  clear c0 c1 c3 c4 c5
  have hc := in_any h k
  cases hi : d.inn k with
  | true =>
    obtain ⟨n, rfl, hn⟩ := inn_true hi
    have hv : (u64s d.las)[n]? = some (.int .u64 (d.las.getD n 0)) := by simp [u64s, hn]
    obtain ⟨q, off, cs, hA, -, hb, -, hcell, -⟩ := h.las.at_ hv
    have e : d.lasting n = d.las.getD n 0 := by simp [Dev.lasting, hi]
    rw [hA] at c2
    rw [e]
    rw [hi] at hc
    clear hi e hA hv hb
    generalize d.las.getD n 0 = v at *
    have HC := Lib.hid hc
    clear hc h
    go_enter Try.func28, Try.ntmps28
    go_wp2_with (go_at_call 35; refine HC.out.mono ?_; rintro e w' ⟨rfl, rfl⟩)
    go_ret
    exact ⟨rfl, rfl⟩
  | false =>
    have e : d.lasting k = 0 := by simp [Dev.lasting, hi]
    rw [e]
    rw [hi] at hc
    clear hi e
    have HC := Lib.hid hc
    clear hc h
    go_enter Try.func28, Try.ntmps28
    go_wp2_with (go_at_call 35; refine HC.out.mono ?_; rintro e w' ⟨rfl, rfl⟩)
    go_ret
    exact ⟨rfl, rfl⟩

/-! ### look-up in the map of what is pending -/
theorem find_split : ∀ (es : List Ent) (k : Int), (∀ x ∈ es, x.key ≠ k) ∨ ∃ pre x post, es = pre ++ x :: post ∧ x.key = k ∧ ∀ y ∈ pre, y.key ≠ k
  | [], _ => .inl (by simp)
  | x :: es, k => by
    by_cases hx : x.key = k
    · exact .inr ⟨[], x, es, rfl, hx, by simp⟩
    · rcases find_split es k with h | ⟨pre, y, post, rfl, hy, hp⟩
      · exact .inl (by simp [hx]; exact h)
      · exact .inr ⟨x :: pre, y, post, rfl, hy, by simp [hx]; exact hp⟩

theorem find_of_none {d : Dev} {g : Lay} (ho : d.opn = g.es.map fun x => (x.key, x.pen)) {k : Int} (hn : ∀ x ∈ g.es, x.key ≠ k) : d.find k = none := by
  unfold Dev.find
  rw [ho]
  simp only [Option.map_eq_none_iff, List.find?_eq_none, List.mem_map]
  rintro _ ⟨x, hx, rfl⟩
  simpa using hn x hx

theorem find_of_some {d : Dev} {g : Lay} (ho : d.opn = g.es.map fun x => (x.key, x.pen)) {pre post : List Ent} {x : Ent} (he : g.es = pre ++ x :: post) (hp : ∀ y ∈ pre, y.key ≠ x.key) : d.find x.key = some x.pen := by
  unfold Dev.find
  rw [ho, he, List.map_append, List.map_cons, List.find?_append]
  have : (List.map (fun x => (x.key, x.pen)) pre).find? (fun y => decide (y.1 = x.key)) = none := by
    simp only [List.find?_eq_none, List.mem_map]
    rintro _ ⟨y, hy, rfl⟩
    simpa using hp y hy
  rw [this]
  simp

theorem zero_ptr (w : World) : (zeroValue 76).run Try.prog w = .ok (.pointer none) w := by kernel_rfl

theorem look_none {w : World} {b : Nat} {d : Dev} {g : Lay} (h : DevIs w b d g) {k : Int} (hn : ∀ x ∈ g.es, x.key ≠ k) :
    (Instr.lookup 71 (.map (some g.M)) (.int .i64 k) false).run Try.prog w = .ok (.pointer none) w :=
  run_lookup_none (K := kInt .i64) (k := k) Try.underlying71 Try.underlying3 h.map (by simp only [List.mem_map]; rintro _ ⟨x, hx, rfl⟩; exact hn x hx) (zero_ptr w)

theorem look_some {w : World} {b : Nat} {d : Dev} {g : Lay} (h : DevIs w b d g) {pre post : List Ent} {x : Ent} (he : g.es = pre ++ x :: post) (hp : ∀ y ∈ pre, y.key ≠ x.key) :
    (Instr.lookup 71 (.map (some g.M)) (.int .i64 x.key) false).run Try.prog w = .ok (.pointer (some ⟨x.p, 0, none⟩)) w := by
  have hm := h.map
  rw [he, List.map_append, List.map_cons] at hm
  exact run_lookup_some (K := kInt .i64) (k := x.key) (b := x.born) Try.underlying71 Try.underlying3 hm (by simp only [List.mem_map]; rintro _ ⟨y, hy, rfl⟩; exact hp y hy)

theorem load_any {w : World} {b : Nat} {d : Dev} {g : Lay} (h : DevIs w b d g) (k : Int) :
    Calls Try.prog 13 #[.pointer (some ⟨b, 0, none⟩), .int .i64 k] w fun e w' => e = .returned (.int .u64 (d.load k)) ∧ ∃ n, w' = w.drewN n := by
  obtain ⟨c0, c1, c2, c3, c4, c5⟩ := dev_cells h
  clear c0 c1 c2 c4 c5
  have hc := lasting_any h k
  rcases find_split g.es k with hn | ⟨pre, x, post, he, rfl, hp⟩
  · have e : d.load k = d.lasting k := by simp [Dev.load, find_of_none h.opn hn]
    have hl := look_none h hn
    rw [e]
    clear e hn
    have HC := Lib.hid hc
    clear hc h
    go_enter Try.func13, Try.ntmps13
    go_wp2_with (go_at_call 28; refine HC.out.mono ?_; rintro e w' ⟨rfl, rfl⟩)
    go_ret
    exact ⟨rfl, 0, rfl⟩
  · have hl := look_some h he hp
    have hx : x ∈ g.es := by rw [he]; simp
    obtain ⟨e1, cs, e2, hcap, hlc, hat⟩ := h.ents x hx
    have hne : x.pen.l ≠ [] := h.wf.ne (x.key, x.pen) (by rw [h.opn]; exact List.mem_map.2 ⟨x, hx, rfl⟩)
    have hpos : 0 < x.pen.l.length := List.length_pos_iff.2 hne
    have few : x.pen.l.length ≤ 1099511627776 := Nat.le_trans (h.wf.few (x.key, x.pen) (by rw [h.opn]; exact List.mem_map.2 ⟨x, hx, rfl⟩)) (Nat.le_trans h.wf.st h.wf.lim)
    have e : d.load x.key = x.pen.l.getD (x.pen.l.length - 1) 0 := by simp [Dev.load, find_of_some h.opn he hp]
    have hv := hat (x.pen.l.length - 1) (x.pen.l.getD (x.pen.l.length - 1) 0) (by rw [List.getD_eq_getElem?_getD, List.getElem?_eq_getElem (by omega)]; rfl)
    rw [e]
    have p0 : w.cell? ⟨x.p, 0, none⟩ = some (.slice (some ⟨x.q, x.off, none⟩) x.pen.l.length x.cap) := by rw [cell_of e1]; rfl
    have v0 : w.cell? ⟨x.q, x.off + (x.pen.l.length - 1), none⟩ = some (.int .u64 (x.pen.l.getD (x.pen.l.length - 1) 0)) := by rw [cell_of e2]; exact hv
    clear e hv hat e1 e2 hp he hne hx hc h
    generalize x.pen.l.getD (x.pen.l.length - 1) 0 = v at *
    generalize x.pen.l.length = n at *
    go_enter Try.func13, Try.ntmps13
    go_wp2
    go_quiet (fail)
    go_wp2
    go_ret
    exact ⟨rfl, _, rfl⟩

end Go.Proofs.Ytlokklfkiechdaa.Pm
