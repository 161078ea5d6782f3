/- Parts of the proof, one behind the other: Dv, PmA, PmB, PmC, PmD, PmE, PmF. -/
import Derived.Test.YtgnagbbdnlmgeaaGreatG03
import Derived.Test.YtgnagbbdnlmgeaaGreatG01
import Derived.Test.YtgnagbbdnlmgeaaGreatProg
import Derived.WalkKit
import Derived.WalkSpells
import Derived.KernelRfl
import Derived.Outline
import Derived.OwnWalk
import Derived.Lib.Hide
import Derived.Deep.QuietTactic
import Derived.BigQuiet
import Derived.ArgAppend
import Derived.Maps.Own

/- A persistent-memory device as plain data, and how it lies in memory. -/
section
set_option linter.unusedVariables false
set_option linter.unusedSimpArgs false
set_option linter.unusedSectionVars false
namespace Go.Proofs.YtgnagbbdnlmgeaaGreat.Dv
open Go Go.RowKit
open Go.ChangeMaps (setBlock)
open Go.Proofs.YtgnagbbdnlmgeaaGreat.Ob Go.Proofs.YtgnagbbdnlmgeaaGreat.Mp

/-- A word's stores that don't last yet, and how many of them were there at the last flush. -/
structure Pen where
  l : List Int
  fl : Nat
deriving DecidableEq

/-- A device: counts, lasting words, what is pending (by word), a fuse. -/
structure Dev where
  steps : Nat
  stores : Nat
  las : List Int
  opn : List (Int × Pen)
  fuse : Option Nat

def u64s (l : List Int) : List Value := l.map (Value.int .u64)
theorem u64s_length (l : List Int) : (u64s l).length = l.length := by simp [u64s]

structure Dev.Wf (d : Dev) : Prop where
  len : d.las.length ≤ 4194304
  keys : (d.opn.map (·.1)).Nodup
  lo : ∀ x ∈ d.opn, 0 ≤ x.1
  hi : ∀ x ∈ d.opn, x.1 < d.las.length
  ne : ∀ x ∈ d.opn, x.2.l ≠ []
  fl : ∀ x ∈ d.opn, x.2.fl ≤ x.2.l.length
  few : ∀ x ∈ d.opn, x.2.l.length ≤ d.stores
  st : d.stores ≤ d.steps
  lim : d.steps ≤ 1099511627776
  fuse : ∀ n, d.fuse = some n → n ≤ 9223372036854775807

/-- One pending word, in memory: its key, its entry's stamp, its block, its row's block, the slice's place and room. -/
structure Ent where
  key : Int
  born : Nat
  p : Nat
  q : Nat
  off : Nat
  cap : Nat
  pen : Pen

def EntAt (w : World) (x : Ent) : Prop :=
  w.heap[x.p]? = some (.cells #[.slice (some ⟨x.q, x.off, none⟩) x.pen.l.length x.cap, .int .i64 x.pen.fl] 149 (0, 0)) ∧
  ∃ cs, w.heap[x.q]? = some (.cells cs 94 (0, 0)) ∧ x.off + x.cap ≤ cs.size ∧ x.pen.l.length ≤ x.cap ∧ ∀ (j : Nat) v, x.pen.l[j]? = some v → cs[x.off + j]? = some (.int .u64 v)

def Ent.en (x : Ent) : En Int := (x.key, .pointer (some ⟨x.p, 0, none⟩), x.born)

/-- Where a device lies. -/
structure Lay where
  A : Option Addr
  c : Nat
  Ls : List Nat
  M : Nat
  clock : Nat
  es : List Ent

def Lay.ents (g : Lay) : List Nat := g.es.flatMap fun x => [x.p, x.q]
def Lay.foot (g : Lay) (b : Nat) : List Nat := b :: g.M :: (g.Ls ++ g.ents)

def cellsOf (d : Dev) (g : Lay) : Array Value :=
  #[.int .i64 d.steps, .int .i64 d.stores, .slice g.A d.las.length g.c, .map (some g.M), .bool d.fuse.isSome, .int .i64 (d.fuse.getD 0)]

structure DevIs (w : World) (b : Nat) (d : Dev) (g : Lay) : Prop where
  blk : w.heap[b]? = some (.cells (cellsOf d g) 146 (0, 0))
  las : Sl w 94 g.A g.c (u64s d.las) g.Ls
  map : w.heap[g.M]? = some (obj (kInt .i64) (g.es.map Ent.en) g.clock)
  ents : ∀ x ∈ g.es, EntAt w x
  opn : d.opn = g.es.map fun x => (x.key, x.pen)
  nd : (g.foot b).Nodup
  bnd : (g.es.map (·.born)).Nodup
  old : ∀ x ∈ g.es, x.born < g.clock
  wf : d.Wf

/-- A device at block b, in the blocks F. -/
def DevAt (w : World) (b : Nat) (d : Dev) (F : List Nat) : Prop := ∃ g, DevIs w b d g ∧ F = g.foot b

theorem EntAt.keep {w w' : World} {x : Ent} (h : EntAt w x) (hp : w'.heap[x.p]? = w.heap[x.p]?) (hq : w'.heap[x.q]? = w.heap[x.q]?) : EntAt w' x := by
  obtain ⟨h1, cs, h2, r⟩ := h
  exact ⟨hp.trans h1, cs, hq.trans h2, r⟩

theorem mem_ents {g : Lay} {x : Ent} (h : x ∈ g.es) : x.p ∈ g.ents ∧ x.q ∈ g.ents := by
  unfold Lay.ents
  simp only [List.mem_flatMap]
  exact ⟨⟨x, h, by simp⟩, ⟨x, h, by simp⟩⟩

theorem DevIs.lt {w : World} {b : Nat} {d : Dev} {g : Lay} (h : DevIs w b d g) : ∀ k ∈ g.foot b, k < w.heap.size := by
  intro k hk
  simp only [Lay.foot, List.mem_cons, List.mem_append] at hk
  rcases hk with rfl | rfl | hk | hk
  · exact lt_of h.blk
  · exact lt_of h.map
  · obtain ⟨_, ⟨_, hq⟩ | ⟨q, off, cs, _, hq, hb, _⟩⟩ := h.las
    · rw [hq] at hk; simp at hk
    · rw [hq] at hk; simp at hk; subst hk; exact lt_of hb
  · simp only [Lay.ents, List.mem_flatMap] at hk
    obtain ⟨x, hx, hk⟩ := hk
    obtain ⟨h1, cs, h2, _⟩ := h.ents x hx
    simp at hk
    rcases hk with rfl | rfl
    · exact lt_of h1
    · exact lt_of h2

theorem DevIs.keep {w w' : World} {b : Nat} {d : Dev} {g : Lay} (h : DevIs w b d g) (hk : ∀ k ∈ g.foot b, w'.heap[k]? = w.heap[k]?) : DevIs w' b d g :=
  ⟨(hk b (by simp [Lay.foot])).trans h.blk, h.las.keep (fun q hq => hk q (by simp [Lay.foot, hq])), (hk g.M (by simp [Lay.foot])).trans h.map,
   fun x hx => (h.ents x hx).keep (hk _ (by simp [Lay.foot, (mem_ents hx).1])) (hk _ (by simp [Lay.foot, (mem_ents hx).2])), h.opn, h.nd, h.bnd, h.old, h.wf⟩

theorem DevIs.upd {w w' : World} {b : Nat} {d : Dev} {g : Lay} {F : List Nat} (h : DevIs w b d g) (hu : Upd F w w') (hF : ∀ k ∈ g.foot b, k ∉ F) : DevIs w' b d g :=
  h.keep (fun k hk => hu.block k (h.lt k hk) (hF k hk))
theorem DevIs.below {w w' : World} {b : Nat} {d : Dev} {g : Lay} (h : DevIs w b d g) (hu : Below w.heap.size w w') : DevIs w' b d g :=
  h.keep (fun k hk => hu.block k (h.lt k hk))
theorem DevIs.drewN {w : World} {b : Nat} {d : Dev} {g : Lay} (h : DevIs w b d g) (n : Nat) : DevIs (w.drewN n) b d g := h.keep (fun _ _ => rfl)

/-- What a call that turns a device comes to. -/
def DevTo (w w' : World) (b : Nat) (g : Lay) (d' : Dev) : Prop :=
  ∃ g', DevIs w' b d' g' ∧ (∀ k ∈ g'.foot b, k ∈ g.foot b ∨ w.heap.size ≤ k) ∧ Upd (g.foot b) w w'

/-! ### the device's answers, as plain functions -/
def Dev.find (d : Dev) (k : Int) : Option Pen := (d.opn.find? fun x => decide (x.1 = k)).map (·.2)
def Dev.inn (d : Dev) (k : Int) : Bool := decide (0 ≤ k) && decide (k < d.las.length)
def Dev.lasting (d : Dev) (k : Int) : Int := if d.inn k then d.las.getD k.toNat 0 else 0
def Dev.load (d : Dev) (k : Int) : Int := match d.find k with
  | some p => p.l.getD (p.l.length - 1) 0
  | none => d.lasting k
def Dev.down (d : Dev) : Bool := decide (d.fuse = some 0)
/-- a step that may be done -/
def Dev.stepped (d : Dev) (store : Bool) : Dev := { d with steps := d.steps + 1, stores := d.stores + (if store then 1 else 0), fuse := d.fuse.map (· - 1) }
def putPen (k x : Int) (l : List (Int × Pen)) : List (Int × Pen) := l.map fun y => if y.1 = k then (y.1, ⟨y.2.l ++ [x], y.2.fl⟩) else y
def Dev.storeOk (d : Dev) (k : Int) : Bool := d.inn k && !d.down
def Dev.stored (d : Dev) (k x : Int) : Dev :=
  if d.storeOk k then { d.stepped true with opn := if (d.find k).isSome then putPen k x d.opn else d.opn ++ [(k, ⟨[x], 0⟩)] } else d
def Dev.flushOk (d : Dev) (line : Int) : Bool := decide (0 ≤ line) && decide (8 * line < d.las.length) && !d.down
def flushPen (line : Int) (y : Int × Pen) : Int × Pen := if y.1 / 8 = line then (y.1, ⟨y.2.l, y.2.l.length⟩) else y
def Dev.flushed (d : Dev) (line : Int) : Dev := if d.flushOk line then { d.stepped false with opn := d.opn.map (flushPen line) } else d
def fencePen (y : Int × Pen) : Option (Int × Pen) :=
  if y.2.fl = 0 then some y else if y.2.l.length ≤ y.2.fl then none else some (y.1, ⟨y.2.l.drop y.2.fl, 0⟩)
/-- word i behind a fence -/
def fenceWord (l : List (Int × Pen)) (i : Nat) (v : Int) : Int := match l.find? (fun x => decide (x.1 = (i : Int))) with
  | some y => if y.2.fl = 0 then v else y.2.l.getD (y.2.fl - 1) 0
  | none => v
def Dev.fenced (d : Dev) : Dev := if d.down then d else { d.stepped false with opn := d.opn.filterMap fencePen, las := d.las.mapIdx (fenceWord d.opn) }
def Dev.may (d : Dev) (k : Int) : List Int := if d.inn k then d.las.getD k.toNat 0 :: ((d.find k).map (·.l)).getD [] else []

end Go.Proofs.YtgnagbbdnlmgeaaGreat.Dv
end

/- The device's small calls: what each comes to. -/
section
set_option linter.unusedVariables false
set_option linter.unusedSimpArgs false
set_option maxHeartbeats 400000
namespace Go.Proofs.YtgnagbbdnlmgeaaGreat.Pm
open Go Go.RowKit
open Go.ChangeMaps (setBlock)
open Go.Proofs.YtgnagbbdnlmgeaaGreat.Ob Go.Proofs.YtgnagbbdnlmgeaaGreat.Mp Go.Proofs.YtgnagbbdnlmgeaaGreat.Dv

theorem dev_cells {w : World} {b : Nat} {d : Dev} {g : Lay} (h : DevIs w b d g) :
    w.cell? ⟨b, 0, none⟩ = some (.int .i64 d.steps) ∧ w.cell? ⟨b, 1, none⟩ = some (.int .i64 d.stores) ∧ w.cell? ⟨b, 2, none⟩ = some (.slice g.A d.las.length g.c) ∧
    w.cell? ⟨b, 3, none⟩ = some (.map (some g.M)) ∧ w.cell? ⟨b, 4, none⟩ = some (.bool d.fuse.isSome) ∧ w.cell? ⟨b, 5, none⟩ = some (.int .i64 (d.fuse.getD 0)) := by
  refine ⟨?_, ?_, ?_, ?_, ?_, ?_⟩ <;> (rw [cell_of h.blk]; rfl)
theorem dev_free {w : World} {b : Nat} {d : Dev} {g : Lay} (h : DevIs w b d g) (i : Nat) : w.frozen? ⟨b, i, none⟩ = false := free_of h.blk i

theorem len_any {w : World} {b : Nat} {d : Dev} {g : Lay} (h : DevIs w b d g) :
    Calls Tryz.prog 170 #[.pointer (some ⟨b, 0, none⟩)] w fun e w' => e = .returned (.int .i64 d.las.length) ∧ w = w' := by
  obtain ⟨c0, c1, c2, c3, c4, c5⟩ := dev_cells h
  go_enter Tryz.func170, Tryz.ntmps170
  go_wp2
  go_ret
  exact ⟨rfl, rfl⟩

theorem in_any {w : World} {b : Nat} {d : Dev} {g : Lay} (h : DevIs w b d g) (k : Int) :
    Calls Tryz.prog 173 #[.pointer (some ⟨b, 0, none⟩), .int .i64 k] w fun e w' => e = .returned (.bool (d.inn k)) ∧ w = w' := by
  obtain ⟨c0, c1, c2, c3, c4, c5⟩ := dev_cells h
  by_cases h0 : 0 ≤ k
  · by_cases h1 : k < d.las.length
    · have e : d.inn k = true := by simp [Dev.inn, h0, h1]
      rw [e]
      clear e
      go_enter Tryz.func173, Tryz.ntmps173
      go_wp2
      go_ret
      exact ⟨rfl, rfl⟩
    · have e : d.inn k = false := by simp [Dev.inn, h1]
      rw [e]
      clear e
      go_enter Tryz.func173, Tryz.ntmps173
      go_wp2
      go_ret
      exact ⟨rfl, rfl⟩
  · have e : d.inn k = false := by simp [Dev.inn, h0]
    rw [e]
    clear e
    go_enter Tryz.func173, Tryz.ntmps173
    go_wp2
    go_ret
    exact ⟨rfl, rfl⟩

theorem down_any {w : World} {b : Nat} {d : Dev} {g : Lay} (h : DevIs w b d g) :
    Calls Tryz.prog 192 #[.pointer (some ⟨b, 0, none⟩)] w fun e w' => e = .returned (.bool d.down) ∧ w = w' := by
  obtain ⟨c0, c1, c2, c3, c4, c5⟩ := dev_cells h
  unfold Dev.down
  cases hf : d.fuse with
  | none =>
    simp only [hf, Option.isSome_none, Option.getD_none] at c4 c5
    clear c0 c1 c2 c3
    go_enter Tryz.func192, Tryz.ntmps192
    go_wp2
    go_ret
    exact ⟨rfl, rfl⟩
  | some n =>
    simp only [hf, Option.isSome_some, Option.getD_some] at c4 c5
    clear c0 c1 c2 c3 hf
    cases n with
    | zero =>
      go_enter Tryz.func192, Tryz.ntmps192
      go_wp2
      go_ret
      exact ⟨rfl, rfl⟩
    | succ n =>
      have e : ((n + 1 : Nat) : Int) ≠ 0 := by omega
      have e0 : decide (some (n + 1) = some 0) = false := by simp
      rw [e0]
      have e1 : (((n + 1 : Nat) : Int) == 0) = false := by simp; omega
      go_enter Tryz.func192, Tryz.ntmps192
      go_wp2
      go_ret
      exact ⟨rfl, rfl⟩

theorem steps_any {w : World} {b : Nat} {d : Dev} {g : Lay} (h : DevIs w b d g) :
    Calls Tryz.prog 38 #[.pointer (some ⟨b, 0, none⟩)] w fun e w' => e = .returned (.int .i64 d.steps) ∧ w = w' := by
  obtain ⟨c0, c1, c2, c3, c4, c5⟩ := dev_cells h
  go_enter Tryz.func38, Tryz.ntmps38
  go_wp2
  go_ret
  exact ⟨rfl, rfl⟩

end Go.Proofs.YtgnagbbdnlmgeaaGreat.Pm
end

/- The device's words as they are seen, and its steps. -/
section
set_option linter.unusedVariables false
set_option linter.unusedSimpArgs false
set_option maxHeartbeats 400000
namespace Go.Proofs.YtgnagbbdnlmgeaaGreat.Pm
open Go Go.RowKit
open Go.ChangeMaps (setBlock)
open Go.Proofs.YtgnagbbdnlmgeaaGreat.Ob Go.Proofs.YtgnagbbdnlmgeaaGreat.Mp Go.Proofs.YtgnagbbdnlmgeaaGreat.Dv

theorem inn_true {d : Dev} {k : Int} (h : d.inn k = true) : ∃ n : Nat, k = n ∧ n < d.las.length := by
  simp [Dev.inn] at h
  exact ⟨k.toNat, by omega, by omega⟩

theorem lasting_any {w : World} {b : Nat} {d : Dev} {g : Lay} (h : DevIs w b d g) (k : Int) :
    Calls Tryz.prog 137 #[.pointer (some ⟨b, 0, none⟩), .int .i64 k] w fun e w' => e = .returned (.int .u64 (d.lasting k)) ∧ w = w' := by
  obtain ⟨c0, c1, c2, c3, c4, c5⟩ := dev_cells h
  clear c0 c1 c3 c4 c5
  have hc := in_any h k
  cases hi : d.inn k with
  | true =>
    obtain ⟨n, rfl, hn⟩ := inn_true hi
    have hv : (u64s d.las)[n]? = some (.int .u64 (d.las.getD n 0)) := by simp [u64s, hn]
    obtain ⟨q, off, cs, hA, -, hb, -, hcell, -⟩ := h.las.at_ hv
    have e : d.lasting n = d.las.getD n 0 := by simp [Dev.lasting, hi]
    rw [hA] at c2
    rw [e]
    rw [hi] at hc
    clear hi e hA hv hb
    generalize d.las.getD n 0 = v at *
    have HC := Lib.hid hc
    clear hc h
    go_enter Tryz.func137, Tryz.ntmps137
    go_wp2_with (go_at_call 173; refine HC.out.mono ?_; rintro e w' ⟨rfl, rfl⟩)
    go_ret
    exact ⟨rfl, rfl⟩
  | false =>
    have e : d.lasting k = 0 := by simp [Dev.lasting, hi]
    rw [e]
    rw [hi] at hc
    clear hi e
    have HC := Lib.hid hc
    clear hc h
    go_enter Tryz.func137, Tryz.ntmps137
    go_wp2_with (go_at_call 173; refine HC.out.mono ?_; rintro e w' ⟨rfl, rfl⟩)
    go_ret
    exact ⟨rfl, rfl⟩

/-! ### look-up in the map of what is pending -/
theorem find_split : ∀ (es : List Ent) (k : Int), (∀ x ∈ es, x.key ≠ k) ∨ ∃ pre x post, es = pre ++ x :: post ∧ x.key = k ∧ ∀ y ∈ pre, y.key ≠ k
  | [], _ => .inl (by simp)
  | x :: es, k => by
    by_cases hx : x.key = k
    · exact .inr ⟨[], x, es, rfl, hx, by simp⟩
    · rcases find_split es k with h | ⟨pre, y, post, rfl, hy, hp⟩
      · exact .inl (by simp [hx]; exact h)
      · exact .inr ⟨x :: pre, y, post, rfl, hy, by simp [hx]; exact hp⟩

theorem find_of_none {d : Dev} {g : Lay} (ho : d.opn = g.es.map fun x => (x.key, x.pen)) {k : Int} (hn : ∀ x ∈ g.es, x.key ≠ k) : d.find k = none := by
  unfold Dev.find
  rw [ho]
  simp only [Option.map_eq_none_iff, List.find?_eq_none, List.mem_map]
  rintro _ ⟨x, hx, rfl⟩
  simpa using hn x hx

theorem find_of_some {d : Dev} {g : Lay} (ho : d.opn = g.es.map fun x => (x.key, x.pen)) {pre post : List Ent} {x : Ent} (he : g.es = pre ++ x :: post) (hp : ∀ y ∈ pre, y.key ≠ x.key) : d.find x.key = some x.pen := by
  unfold Dev.find
  rw [ho, he, List.map_append, List.map_cons, List.find?_append]
  have : (List.map (fun x => (x.key, x.pen)) pre).find? (fun y => decide (y.1 = x.key)) = none := by
    simp only [List.find?_eq_none, List.mem_map]
    rintro _ ⟨y, hy, rfl⟩
    simpa using hp y hy
  rw [this]
  simp

theorem zero_ptr (w : World) : (zeroValue 147).run Tryz.prog w = .ok (.pointer none) w := by kernel_rfl

theorem look_none {w : World} {b : Nat} {d : Dev} {g : Lay} (h : DevIs w b d g) {k : Int} (hn : ∀ x ∈ g.es, x.key ≠ k) :
    (Instr.lookup 144 (.map (some g.M)) (.int .i64 k) false).run Tryz.prog w = .ok (.pointer none) w :=
  run_lookup_none (K := kInt .i64) (k := k) Tryz.underlying144 Tryz.underlying3 h.map (by simp only [List.mem_map]; rintro _ ⟨x, hx, rfl⟩; exact hn x hx) (zero_ptr w)

theorem look_some {w : World} {b : Nat} {d : Dev} {g : Lay} (h : DevIs w b d g) {pre post : List Ent} {x : Ent} (he : g.es = pre ++ x :: post) (hp : ∀ y ∈ pre, y.key ≠ x.key) :
    (Instr.lookup 144 (.map (some g.M)) (.int .i64 x.key) false).run Tryz.prog w = .ok (.pointer (some ⟨x.p, 0, none⟩)) w := by
  have hm := h.map
  rw [he, List.map_append, List.map_cons] at hm
  exact run_lookup_some (K := kInt .i64) (k := x.key) (b := x.born) Tryz.underlying144 Tryz.underlying3 hm (by simp only [List.mem_map]; rintro _ ⟨y, hy, rfl⟩; exact hp y hy)

theorem load_any {w : World} {b : Nat} {d : Dev} {g : Lay} (h : DevIs w b d g) (k : Int) :
    Calls Tryz.prog 82 #[.pointer (some ⟨b, 0, none⟩), .int .i64 k] w fun e w' => e = .returned (.int .u64 (d.load k)) ∧ ∃ n, w' = w.drewN n := by
  obtain ⟨c0, c1, c2, c3, c4, c5⟩ := dev_cells h
  clear c0 c1 c2 c4 c5
  have hc := lasting_any h k
  rcases find_split g.es k with hn | ⟨pre, x, post, he, rfl, hp⟩
  · have e : d.load k = d.lasting k := by simp [Dev.load, find_of_none h.opn hn]
    have hl := look_none h hn
    rw [e]
    clear e hn
    have HC := Lib.hid hc
    clear hc h
    go_enter Tryz.func82, Tryz.ntmps82
    go_wp2_with (go_at_call 137; refine HC.out.mono ?_; rintro e w' ⟨rfl, rfl⟩)
    go_ret
    exact ⟨rfl, 0, rfl⟩
  · have hl := look_some h he hp
    have hx : x ∈ g.es := by rw [he]; simp
    obtain ⟨e1, cs, e2, hcap, hlc, hat⟩ := h.ents x hx
    have hne : x.pen.l ≠ [] := h.wf.ne (x.key, x.pen) (by rw [h.opn]; exact List.mem_map.2 ⟨x, hx, rfl⟩)
    have hpos : 0 < x.pen.l.length := List.length_pos_iff.2 hne
    have few : x.pen.l.length ≤ 1099511627776 := Nat.le_trans (h.wf.few (x.key, x.pen) (by rw [h.opn]; exact List.mem_map.2 ⟨x, hx, rfl⟩)) (Nat.le_trans h.wf.st h.wf.lim)
    have e : d.load x.key = x.pen.l.getD (x.pen.l.length - 1) 0 := by simp [Dev.load, find_of_some h.opn he hp]
    have hv := hat (x.pen.l.length - 1) (x.pen.l.getD (x.pen.l.length - 1) 0) (by rw [List.getD_eq_getElem?_getD, List.getElem?_eq_getElem (by omega)]; rfl)
    rw [e]
    have p0 : w.cell? ⟨x.p, 0, none⟩ = some (.slice (some ⟨x.q, x.off, none⟩) x.pen.l.length x.cap) := by rw [cell_of e1]; rfl
    have v0 : w.cell? ⟨x.q, x.off + (x.pen.l.length - 1), none⟩ = some (.int .u64 (x.pen.l.getD (x.pen.l.length - 1) 0)) := by rw [cell_of e2]; exact hv
    clear e hv hat e1 e2 hp he hne hx hc h
    generalize x.pen.l.getD (x.pen.l.length - 1) 0 = v at *
    generalize x.pen.l.length = n at *
    go_enter Tryz.func82, Tryz.ntmps82
    go_wp2
    go_quiet (fail)
    go_wp2
    go_ret
    exact ⟨rfl, _, rfl⟩

end Go.Proofs.YtgnagbbdnlmgeaaGreat.Pm
end

/- A device's step: it counts, and its fuse burns. -/
section
set_option linter.unusedVariables false
set_option linter.unusedSimpArgs false
set_option maxHeartbeats 400000
namespace Go.Proofs.YtgnagbbdnlmgeaaGreat.Pm
open Go Go.RowKit
open Go.ChangeMaps (setBlock)
open Go.Proofs.YtgnagbbdnlmgeaaGreat.Ob Go.Proofs.YtgnagbbdnlmgeaaGreat.Mp Go.Proofs.YtgnagbbdnlmgeaaGreat.Dv

/-- The device's own block alone has turned. -/
theorem dev_own {w w' : World} {b : Nat} {d d' : Dev} {g : Lay} (h : DevIs w b d g) (hb : w'.heap[b]? = some (.cells (cellsOf d' g) 146 (0, 0))) (hu : Upd [b] w w')
    (hl : d'.las = d.las) (ho : d'.opn = d.opn) (hw : d'.Wf) : DevIs w' b d' g := by
  have hnd := h.nd
  have hk : ∀ k ∈ g.foot b, k ≠ b → w'.heap[k]? = w.heap[k]? := fun k hk hne => hu.block k (h.lt k hk) (by simpa using hne)
  have hne : ∀ k, k ∈ g.M :: (g.Ls ++ g.ents) → k ≠ b := by
    intro k hk1 e
    subst e
    simp only [Lay.foot] at hnd
    exact (List.nodup_cons.1 hnd).1 hk1
  have hk' : ∀ k ∈ g.M :: (g.Ls ++ g.ents), w'.heap[k]? = w.heap[k]? := fun k hk1 => hk k (by simp only [Lay.foot]; exact List.mem_cons_of_mem _ hk1) (hne k hk1)
  refine ⟨hb, ?_, (hk' _ (by simp)).trans h.map, fun x hx => (h.ents x hx).keep (hk' _ (by simp [(mem_ents hx).1])) (hk' _ (by simp [(mem_ents hx).2])), by rw [ho]; exact h.opn, hnd, h.bnd, h.old, hw⟩
  rw [hl]
  exact h.las.keep (fun q hq => hk' q (by simp [hq]))

theorem stepped_wf {d : Dev} (h : d.Wf) (store : Bool) (hlim : d.steps < 1099511627776) : (d.stepped store).Wf := by
  refine ⟨h.len, h.keys, h.lo, h.hi, h.ne, h.fl, fun x hx => ?_, ?_, ?_, fun n hn => ?_⟩
  · have := h.few x hx
    simp only [Dev.stepped]
    omega
  · have := h.st
    simp only [Dev.stepped]
    cases store <;> simp <;> omega
  · simp only [Dev.stepped]
    omega
  · simp only [Dev.stepped, Option.map_eq_some_iff] at hn
    obtain ⟨m, hm, rfl⟩ := hn
    have := h.fuse m hm
    omega

theorem set_b {w : World} {b : Nat} {t : TypeId} {cs : Array Value} (h : w.heap[b]? = some (.cells cs t (0, 0))) (i : Nat) (u : Value) {cs' : Array Value} (e : cs.setIfInBounds i u = cs') :
    (w.setCell ⟨b, i, none⟩ u).heap[b]? = some (.cells cs' t (0, 0)) := by rw [set_same h, e]

/-- one more, if it is a store -/
def inc (store : Bool) (y : Int) : Int := if store then y + 1 else y

theorem did_any {w : World} {b : Nat} (x y : Int) (hx0 : 0 ≤ x) (hx : x < 1099511627776) (hy0 : 0 ≤ y) (hy : y < 1099511627776) (c2 c3 c4 c5 : Value)
    (hb : w.heap[b]? = some (.cells #[.int .i64 x, .int .i64 y, c2, c3, c4, c5] 146 (0, 0))) (store : Bool) :
    Calls Tryz.prog 193 #[.pointer (some ⟨b, 0, none⟩), .bool store] w fun e w' => e = .returned (.tuple #[]) ∧ Upd [b] w w' ∧
      w'.heap[b]? = some (.cells #[.int .i64 (x + 1), .int .i64 (inc store y), c2, c3, c4, c5] 146 (0, 0)) := by
  have h0 : w.cell? ⟨b, 0, none⟩ = some (.int .i64 x) := by rw [cell_of hb]; rfl
  have h1 : w.cell? ⟨b, 1, none⟩ = some (.int .i64 y) := by rw [cell_of hb]; rfl
  have f0 := free_of hb 0
  have f1 := free_of hb 1
  have HB := Lib.hid hb
  clear hb
  cases store with
  | true =>
    go_enter Tryz.func193, Tryz.ntmps193
    go_wp2
    go_end0
    exact ⟨rfl, ((Upd.refl _ _).setCell (by simp) _).setCell (by simp) _, set_b (set_b HB.out 0 (.int .i64 (x + 1)) rfl) 1 (.int .i64 (y + 1)) rfl⟩
  | false =>
    go_enter Tryz.func193, Tryz.ntmps193
    go_wp2
    go_end0
    exact ⟨rfl, (Upd.refl _ _).setCell (by simp) _, set_b HB.out 0 (.int .i64 (x + 1)) rfl⟩

theorem step_down {w : World} {b : Nat} {d : Dev} {g : Lay} (h : DevIs w b d g) (hd : d.down = true) (store : Bool) :
    Calls Tryz.prog 184 #[.pointer (some ⟨b, 0, none⟩), .bool store] w fun e w' => e = .returned (.bool false) ∧ w = w' := by
  have hc := down_any h
  rw [hd] at hc
  have HC := Lib.hid hc
  clear hc h hd
  go_enter Tryz.func184, Tryz.ntmps184
  go_wp2_with (go_at_call 192; refine HC.out.mono ?_; rintro e w' ⟨rfl, rfl⟩)
  go_ret
  exact ⟨rfl, rfl⟩

theorem step_go {w : World} {b : Nat} {d : Dev} {g : Lay} (h : DevIs w b d g) (hd : d.down = false) (hlim : d.steps < 1099511627776) (store : Bool) :
    Calls Tryz.prog 184 #[.pointer (some ⟨b, 0, none⟩), .bool store] w fun e w' => e = .returned (.bool true) ∧ Upd [b] w w' ∧ DevIs w' b (d.stepped store) g := by
  have hc := down_any h
  rw [hd] at hc
  have HC := Lib.hid hc
  have hw := stepped_wf h.wf store hlim
  have hst := h.wf.st
  have hfu := h.wf.fuse
  obtain ⟨c0, c1, c2, c3, c4, c5⟩ := dev_cells h
  have f5 := dev_free h 5
  have H := Lib.hid h
  have W := Lib.hid hw
  have hblk := h.blk
  clear hc h c0 c1 c2 c3 hw
  cases hf : d.fuse with
  | none =>
    rw [hf] at c4 c5
    simp only [Option.isSome_none, Option.getD_none] at c4 c5
    have hdid := did_any (d.steps : Int) (d.stores : Int) (by omega) (by omega) (by omega) (by omega) _ _ _ _ hblk store
    have HF := Lib.hid hf
    have HD := Lib.hid hdid
    clear hf hdid hd hblk
    go_enter Tryz.func184, Tryz.ntmps184
    go_wp2_with (first | (go_at_call 192; refine HC.out.mono ?_; rintro e w' ⟨rfl, rfl⟩) | (go_at_call 193; refine HD.out.mono ?_; rintro e w1 ⟨rfl, hu, hb1⟩))
    go_ret
    refine ⟨rfl, hu, dev_own H.out ?_ hu rfl rfl W.out⟩
    rw [hb1]
    simp only [cellsOf, Dev.stepped, HF.out]
    cases store <;> simp [inc]
  | some n =>
    cases n with
    | zero => simp [Dev.down, hf] at hd
    | succ n =>
      rw [hf] at c4 c5
      simp only [Option.isSome_some, Option.getD_some] at c4 c5
      have hm : ∃ m : Int, ((n + 1 : Nat) : Int) = m ∧ 0 < m := ⟨_, rfl, by omega⟩
      obtain ⟨m, hm, hpos⟩ := hm
      have hm9 : m ≤ 9223372036854775807 ∨ 9223372036854775807 < m := by omega
      rw [hm] at c5
      have hblk' : w.heap[b]? = some (.cells #[.int .i64 d.steps, .int .i64 d.stores, .slice g.A d.las.length g.c, .map (some g.M), .bool true, .int .i64 m] 146 (0, 0)) := by
        rw [hblk, ← hm]
        simp [cellsOf, hf]
      have hset : (w.setCell ⟨b, 5, none⟩ (.int .i64 (m - 1))).heap[b]? = some (.cells #[.int .i64 d.steps, .int .i64 d.stores, .slice g.A d.las.length g.c, .map (some g.M), .bool true, .int .i64 (m - 1)] 146 (0, 0)) := set_b hblk' 5 (.int .i64 (m - 1)) rfl
      have hu0 : Upd [b] w (w.setCell ⟨b, 5, none⟩ (.int .i64 (m - 1))) := (Upd.refl _ _).setCell (by simp) _
      have hdid := did_any (d.steps : Int) (d.stores : Int) (by omega) (by omega) (by omega) (by omega) _ _ _ _ hset store
      have hfin : d.fuse.isSome = true ∧ ((d.stepped store).fuse.getD 0 : Int) = m - 1 ∧ (d.stepped store).fuse.isSome = true := by
        refine ⟨by rw [hf]; rfl, ?_, by simp [Dev.stepped, hf]⟩
        have : (d.stepped store).fuse.getD 0 = n := by simp [Dev.stepped, hf]
        rw [this]
        omega
      have HD := Lib.hid hdid
      have HU := Lib.hid hu0
      have HN := Lib.hid hfin
      have hlm : m ≤ 9223372036854775807 := hfu _ hf |> fun h => by omega
      clear hf hdid hd hblk hblk' hset hu0 hm hm9 hfin
      go_enter Tryz.func184, Tryz.ntmps184
      go_wp2_with (first | (go_at_call 192; refine HC.out.mono ?_; rintro e w' ⟨rfl, rfl⟩) | (go_at_call 193; refine HD.out.mono ?_; rintro e w1 ⟨rfl, hu, hb1⟩))
      go_ret
      have hu2 := HU.out.trans hu (fun x hx => .inl hx)
      refine ⟨rfl, hu2, dev_own H.out ?_ hu2 rfl rfl W.out⟩
      rw [hb1]
      obtain ⟨q1, q2, q3⟩ := HN.out
      simp only [cellsOf, q2, q3]
      cases store <;> simp [Dev.stepped, inc]

end Go.Proofs.YtgnagbbdnlmgeaaGreat.Pm
end

/- A device's store. -/
section
set_option linter.unusedVariables false
set_option linter.unusedSimpArgs false
set_option maxHeartbeats 400000
namespace Go.Proofs.YtgnagbbdnlmgeaaGreat.Pm
open Go Go.RowKit
open Go.ChangeMaps (setBlock)
open Go.Proofs.YtgnagbbdnlmgeaaGreat.Ob Go.Proofs.YtgnagbbdnlmgeaaGreat.Mp Go.Proofs.YtgnagbbdnlmgeaaGreat.Dv

/-- One pending word has turned. -/
theorem dev_ent {w w' : World} {b : Nat} {d d' : Dev} {g : Lay} (h : DevIs w b d g) {pre post : List Ent} {x x' : Ent} (he : g.es = pre ++ x :: post) (hu : Upd [x.p, x.q] w w')
    (hx : EntAt w' x') (hkey : x'.key = x.key) (hborn : x'.born = x.born) (hp : x'.p = x.p) (hq : x'.q = x.q ∨ w.heap.size ≤ x'.q)
    (hc : cellsOf d' g = cellsOf d g) (hl : d'.las = d.las) (ho : d'.opn = (pre ++ x' :: post).map fun x => (x.key, x.pen)) (hw : d'.Wf) :
    DevIs w' b d' { g with es := pre ++ x' :: post } ∧ ∀ k ∈ ({ g with es := pre ++ x' :: post } : Lay).foot b, k ∈ g.foot b ∨ w.heap.size ≤ k := by
  have hnd := h.nd
  have hlt := h.lt
  have hxm : x ∈ g.es := by rw [he]; simp
  have hxp := hlt x.p (by simp [Lay.foot, (mem_ents hxm).1])
  obtain ⟨A, c, Ls, M, clock, es⟩ := g
  simp only at he
  subst he
  have hfoot : Lay.foot ⟨A, c, Ls, M, clock, pre ++ x :: post⟩ b = b :: M :: (Ls ++ (pre.flatMap (fun x => [x.p, x.q]) ++ (x.p :: x.q :: post.flatMap fun x => [x.p, x.q]))) := by
    simp [Lay.foot, Lay.ents]
  have hfoot' : Lay.foot ⟨A, c, Ls, M, clock, pre ++ x' :: post⟩ b = b :: M :: (Ls ++ (pre.flatMap (fun x => [x.p, x.q]) ++ (x.p :: x'.q :: post.flatMap fun x => [x.p, x.q]))) := by
    simp [Lay.foot, Lay.ents, hp]
  rw [hfoot] at hnd hlt
  generalize hG : pre.flatMap (fun x => [x.p, x.q]) = G at *
  generalize hH : post.flatMap (fun x => [x.p, x.q]) = H at *
  have hpre : ∀ y ∈ pre, y.p ∈ G ∧ y.q ∈ G := fun y hy => by rw [← hG]; simp only [List.mem_flatMap]; exact ⟨⟨y, hy, by simp⟩, ⟨y, hy, by simp⟩⟩
  have hpost : ∀ y ∈ post, y.p ∈ H ∧ y.q ∈ H := fun y hy => by rw [← hH]; simp only [List.mem_flatMap]; exact ⟨⟨y, hy, by simp⟩, ⟨y, hy, by simp⟩⟩
  simp only [List.nodup_cons, List.nodup_append, List.mem_cons, List.mem_append, not_or] at hnd
  obtain ⟨⟨b1, b2, b3, b4, b5, b6⟩, ⟨m1, m2, m3, m4, m5⟩, l1, ⟨g1, ⟨⟨x1, x2⟩, x3, h1⟩, g2⟩, l2⟩ := hnd
  have keep : ∀ k, k < w.heap.size → k ≠ x.p → k ≠ x.q → w'.heap[k]? = w.heap[k]? := fun k hk n1 n2 => hu.block k hk (by simp [n1, n2])
  have kb := hlt b (by simp)
  have kM := hlt M (by simp)
  refine ⟨⟨?_, ?_, ?_, ?_, ?_, ?_, ?_, ?_, hw⟩, ?_⟩
  · rw [keep b kb b4 b5, h.blk]
    exact congrArg (fun c => some (Obj.cells c _ _)) hc.symm
  · rw [hl]
    refine h.las.keep fun q hq => keep q (hlt q (by simp [hq])) ?_ ?_
    · exact fun e => l2 q hq x.p (by simp) e
    · exact fun e => l2 q hq x.q (by simp) e
  · rw [keep M kM m3 m4, h.map]
    simp [Ent.en, hkey, hborn, hp]
  · intro y hy
    simp only [List.mem_append, List.mem_cons] at hy
    rcases hy with hy | rfl | hy
    · have hin := hpre y hy
      refine (h.ents y (by simp [hy])).keep (keep _ (hlt _ (by simp [hin.1])) ?_ ?_) (keep _ (hlt _ (by simp [hin.2])) ?_ ?_)
      · exact fun e => g2 _ hin.1 x.p (by simp) e
      · exact fun e => g2 _ hin.1 x.q (by simp) e
      · exact fun e => g2 _ hin.2 x.p (by simp) e
      · exact fun e => g2 _ hin.2 x.q (by simp) e
    · exact hx
    · have hin := hpost y hy
      refine (h.ents y (by simp [hy])).keep (keep _ (hlt _ (by simp [hin.1])) ?_ ?_) (keep _ (hlt _ (by simp [hin.2])) ?_ ?_)
      · exact fun e => x2 (e ▸ hin.1)
      · exact fun e => x3 (e ▸ hin.1)
      · exact fun e => x2 (e ▸ hin.2)
      · exact fun e => x3 (e ▸ hin.2)
  · exact ho
  · rw [hfoot']
    simp only [List.nodup_cons, List.nodup_append, List.mem_cons, List.mem_append, not_or]
    rcases hq with hq | hq
    · rw [hq]
      exact ⟨⟨b1, b2, b3, b4, b5, b6⟩, ⟨m1, m2, m3, m4, m5⟩, l1, ⟨g1, ⟨⟨x1, x2⟩, x3, h1⟩, g2⟩, l2⟩
    · have far : ∀ k, k < w.heap.size → k ≠ x'.q := fun k hk e => by omega
      refine ⟨⟨b1, b2, b3, b4, far b kb, b6⟩, ⟨m1, m2, m3, far M kM, m5⟩, l1, ⟨g1, ⟨⟨far _ hxp, x2⟩, fun hc => far _ (hlt _ (by simp [hc])) rfl, h1⟩, ?_⟩, ?_⟩
      · intro a ha c hcm
        rcases hcm with rfl | rfl | hcm
        · exact g2 a ha _ (by simp)
        · exact far a (hlt a (by simp [ha]))
        · exact g2 a ha _ (by simp [hcm])
      · intro a ha c hcm
        rcases hcm with hcm | rfl | rfl | hcm
        · exact l2 a ha _ (by simp [hcm])
        · exact l2 a ha _ (by simp)
        · exact far a (hlt a (by simp [ha]))
        · exact l2 a ha _ (by simp [hcm])
  · have := h.bnd
    simpa [hborn] using this
  · intro y hy
    simp only [List.mem_append, List.mem_cons] at hy
    rcases hy with hy | rfl | hy
    · exact h.old y (by simp [hy])
    · rw [hborn]; exact h.old x (by simp)
    · exact h.old y (by simp [hy])
  · intro k hk
    rw [hfoot'] at hk
    rw [hfoot]
    simp only [List.mem_cons, List.mem_append] at hk ⊢
    rcases hk with hk | hk | hk | hk | hk | hk | hk
    · simp [hk]
    · simp [hk]
    · simp [hk]
    · simp [hk]
    · simp [hk]
    · rcases hq with hq | hq
      · simp [hk, hq]
      · exact .inr (by omega)
    · simp [hk]

/-- A word is pending that wasn't. -/
theorem dev_new {w w' : World} {b : Nat} {d d' : Dev} {g : Lay} (h : DevIs w b d g) {x : Ent} (hm : w'.heap[g.M]? = some (obj (kInt .i64) (g.es.map Ent.en ++ [x.en]) (g.clock + 1)))
    (hu : Upd [g.M] w w') (hx : EntAt w' x) (hborn : x.born = g.clock) (hp : w.heap.size ≤ x.p) (hq : w.heap.size ≤ x.q) (hpq : x.p ≠ x.q)
    (hc : cellsOf d' g = cellsOf d g) (hl : d'.las = d.las) (ho : d'.opn = d.opn ++ [(x.key, x.pen)]) (hw : d'.Wf) :
    DevIs w' b d' { g with es := g.es ++ [x], clock := g.clock + 1 } ∧ ∀ k ∈ ({ g with es := g.es ++ [x], clock := g.clock + 1 } : Lay).foot b, k ∈ g.foot b ∨ w.heap.size ≤ k := by
  have hnd := h.nd
  have hlt := h.lt
  have hfoot' : Lay.foot { g with es := g.es ++ [x], clock := g.clock + 1 } b = g.foot b ++ [x.p, x.q] := by simp [Lay.foot, Lay.ents]
  have hne : ∀ k ∈ g.foot b, k ≠ g.M → w'.heap[k]? = w.heap[k]? := fun k hk n => hu.block k (hlt k hk) (by simpa using n)
  have hM : ∀ k, k ∈ g.Ls ++ g.ents → k ≠ g.M := by
    intro k hk e
    subst e
    simp only [Lay.foot] at hnd
    exact (List.nodup_cons.1 (List.nodup_cons.1 hnd).2).1 hk
  have hbM : b ≠ g.M := by
    intro e
    simp only [Lay.foot] at hnd
    exact (List.nodup_cons.1 hnd).1 (by simp [← e])
  have hk : ∀ k, k ∈ g.Ls ++ g.ents → w'.heap[k]? = w.heap[k]? := fun k hk => hne k (by simp only [Lay.foot]; simp only [List.mem_cons]; exact .inr (.inr hk)) (hM k hk)
  refine ⟨⟨?_, ?_, ?_, ?_, ?_, ?_, ?_, ?_, hw⟩, ?_⟩
  · rw [hne b (by simp [Lay.foot]) hbM, h.blk]
    exact congrArg (fun c => some (Obj.cells c _ _)) hc.symm
  · rw [hl]
    exact h.las.keep fun q hq => hk q (by simp [hq])
  · simpa using hm
  · intro y hy
    simp only [List.mem_append, List.mem_singleton] at hy
    rcases hy with hy | rfl
    · exact (h.ents y hy).keep (hk _ (by simp [(mem_ents hy).1])) (hk _ (by simp [(mem_ents hy).2]))
    · exact hx
  · rw [ho, h.opn]
    simp
  · rw [hfoot', List.nodup_append]
    refine ⟨hnd, by simp [hpq], fun a ha c hc => ?_⟩
    have := hlt a ha
    simp at hc
    omega
  · simp only [List.map_append, List.map_cons, List.map_nil, List.nodup_append]
    refine ⟨h.bnd, by simp, fun a ha c hc => ?_⟩
    simp only [List.mem_map] at ha
    obtain ⟨y, hy, rfl⟩ := ha
    simp at hc
    have := h.old y hy
    omega
  · intro y hy
    simp only [List.mem_append, List.mem_singleton] at hy
    rcases hy with hy | rfl
    · have := h.old y hy
      simp only
      omega
    · simp only
      omega
  · intro k hk
    rw [hfoot'] at hk
    simp only [List.mem_append, List.mem_cons, List.not_mem_nil, or_false] at hk
    rcases hk with hk | rfl | rfl
    · exact .inl hk
    · exact .inr hp
    · exact .inr hq

end Go.Proofs.YtgnagbbdnlmgeaaGreat.Pm
end

/- A device's store: what it comes to. -/
section
set_option linter.unusedVariables false
set_option linter.unusedSimpArgs false
set_option maxHeartbeats 400000
namespace Go.Proofs.YtgnagbbdnlmgeaaGreat.Pm
open Go Go.RowKit
open Go.ChangeMaps (setBlock)
open Go.Proofs.YtgnagbbdnlmgeaaGreat.Ob Go.Proofs.YtgnagbbdnlmgeaaGreat.Mp Go.Proofs.YtgnagbbdnlmgeaaGreat.Dv

theorem stored_wf {d : Dev} (h : d.Wf) (k v : Int) (hlim : d.steps < 1099511627776) : (d.stored k v).Wf := by
  unfold Dev.stored
  split
  · rename_i hok
    have hs := stepped_wf h true hlim
    simp only [Dev.storeOk, Bool.and_eq_true] at hok
    obtain ⟨n, rfl, hn⟩ := inn_true hok.1
    split
    · rename_i hf
      have hkeys : (putPen n v d.opn).map (·.1) = d.opn.map (·.1) := by
        unfold putPen
        rw [List.map_map]
        apply List.map_congr_left
        intro y _
        simp only [Function.comp]
        split <;> rfl
      have hmem : ∀ x ∈ putPen n v d.opn, ∃ y ∈ d.opn, x.1 = y.1 ∧ x.2.fl = y.2.fl ∧ (x.2.l = y.2.l ∨ x.2.l = y.2.l ++ [v]) := by
        intro x hx
        simp only [putPen, List.mem_map] at hx
        obtain ⟨y, hy, rfl⟩ := hx
        refine ⟨y, hy, ?_⟩
        split <;> simp
      refine ⟨h.len, by rw [hkeys]; exact h.keys, fun x hx => ?_, fun x hx => ?_, fun x hx => ?_, fun x hx => ?_, fun x hx => ?_, hs.st, hs.lim, hs.fuse⟩
      all_goals
        obtain ⟨y, hy, e1, e2, e3⟩ := hmem x hx
      · rw [e1]; exact h.lo y hy
      · rw [e1]; exact h.hi y hy
      · rcases e3 with e3 | e3
        · rw [e3]; exact h.ne y hy
        · rw [e3]; simp
      · have := h.fl y hy
        rcases e3 with e3 | e3
        · rw [e3, e2]; exact this
        · rw [e3, e2]; simp; omega
      · have := h.few y hy
        show x.2.l.length ≤ d.stores + 1
        rcases e3 with e3 | e3
        · rw [e3]; omega
        · rw [e3]; simp; omega
    · rename_i hf
      have hno : ∀ x ∈ d.opn, x.1 ≠ (n : Int) := by
        simp only [Dev.find, Option.isSome_map, List.find?_isSome, decide_eq_true_eq, not_exists, not_and] at hf
        exact hf
      refine ⟨h.len, ?_, fun x hx => ?_, fun x hx => ?_, fun x hx => ?_, fun x hx => ?_, fun x hx => ?_, hs.st, hs.lim, hs.fuse⟩
      · simp only [List.map_append, List.map_cons, List.map_nil, List.nodup_append]
        refine ⟨h.keys, by simp, fun a ha c hc => ?_⟩
        simp only [List.mem_map] at ha
        obtain ⟨y, hy, rfl⟩ := ha
        simp at hc
        rw [hc]
        exact hno y hy
      all_goals
        simp only [List.mem_append, List.mem_singleton] at hx
        rcases hx with hx | rfl
      · exact h.lo x hx
      · simp
      · exact h.hi x hx
      · show ((n : Nat) : Int) < d.las.length
        omega
      · exact h.ne x hx
      · simp
      · exact h.fl x hx
      · simp
      · have := h.few x hx
        show x.2.l.length ≤ d.stores + 1
        omega
      · show 1 ≤ d.stores + 1
        omega
  · exact h

theorem put_split {d : Dev} {g : Lay} (ho : d.opn = g.es.map fun x => (x.key, x.pen)) (hk : (d.opn.map (·.1)).Nodup) {pre post : List Ent} {x : Ent} (he : g.es = pre ++ x :: post) (v : Int) (x' : Ent) (h1 : x'.key = x.key) (h2 : x'.pen = ⟨x.pen.l ++ [v], x.pen.fl⟩) :
    putPen x.key v d.opn = (pre ++ x' :: post).map fun x => (x.key, x.pen) := by
  rw [ho, he] at hk ⊢
  simp only [List.map_append, List.map_cons, List.map_map, List.nodup_append, List.nodup_cons, List.mem_map, List.mem_cons, Function.comp] at hk
  obtain ⟨_, ⟨h3, _⟩, h4⟩ := hk
  unfold putPen
  simp only [List.map_append, List.map_cons, if_true]
  rw [h1, h2]
  congr 1
  · rw [List.map_map]
    apply List.map_congr_left
    intro y hy
    simp only [Function.comp]
    rw [if_neg]
    exact fun e => h4 y.key ⟨y, hy, rfl⟩ x.key (.inl rfl) e
  · congr 1
    rw [List.map_map]
    apply List.map_congr_left
    intro y hy
    simp only [Function.comp]
    rw [if_neg]
    exact fun e => h3 ⟨y, hy, e⟩

theorem info_u64 : (Tryz.prog.info? 94).map (fun i => (i.zero, i.size, i.bytes)) = some (some (.int .u64 0), 1, 8) := by kernel_rfl

theorem store_no {w : World} {b : Nat} {d : Dev} {g : Lay} (h : DevIs w b d g) (k v : Int) (hn : d.storeOk k = false) :
    Calls Tryz.prog 152 #[.pointer (some ⟨b, 0, none⟩), .int .i64 k, .int .u64 v] w fun e w' => e = .returned (.bool false) ∧ w = w' := by
  have hc := in_any h k
  cases hi : d.inn k with
  | false =>
    rw [hi] at hc
    have HC := Lib.hid hc
    clear hc h hn hi
    go_enter Tryz.func152, Tryz.ntmps152
    go_wp2_with (go_at_call 173; refine HC.out.mono ?_; rintro e w' ⟨rfl, rfl⟩)
    go_ret
    exact ⟨rfl, rfl⟩
  | true =>
    have hd : d.down = true := by simpa [Dev.storeOk, hi] using hn
    have hs := step_down h hd true
    rw [hi] at hc
    have HC := Lib.hid hc
    have HS := Lib.hid hs
    clear hc h hn hi hd hs
    go_enter Tryz.func152, Tryz.ntmps152
    go_wp2_with (first | (go_at_call 173; refine HC.out.mono ?_; rintro e w' ⟨rfl, rfl⟩) | (go_at_call 184; refine HS.out.mono ?_; rintro e w' ⟨rfl, rfl⟩))
    go_ret
    exact ⟨rfl, rfl⟩

theorem ent_facts {w : World} {x : Ent} (h : EntAt w x) : w.cell? ⟨x.p, 0, none⟩ = some (.slice (some ⟨x.q, x.off, none⟩) x.pen.l.length x.cap) ∧ w.cell? ⟨x.p, 1, none⟩ = some (.int .i64 x.pen.fl) ∧
    w.frozen? ⟨x.p, 0, none⟩ = false ∧ w.frozen? ⟨x.p, 1, none⟩ = false ∧ (∀ (j : Nat) u, (u64s x.pen.l)[j]? = some u → w.cell? ⟨x.q, x.off + j, none⟩ = some u) ∧
    (∀ j, x.off + j < x.off + x.cap → (w.cell? ⟨x.q, x.off + j, none⟩).isSome = true ∧ w.frozen? ⟨x.q, x.off + j, none⟩ = false) ∧ x.pen.l.length ≤ x.cap := by
  obtain ⟨h1, cs, h2, h3, h4, h5⟩ := h
  refine ⟨by rw [cell_of h1]; rfl, by rw [cell_of h1]; rfl, free_of h1 0, free_of h1 1, fun j u hj => ?_, fun j hj => ⟨?_, free_of h2 _⟩, h4⟩
  · rw [cell_of h2]
    simp only [u64s, List.getElem?_map, Option.map_eq_some_iff] at hj
    obtain ⟨v, hv, rfl⟩ := hj
    exact h5 j v hv
  · rw [cell_of h2, Array.getElem?_eq_getElem (by omega)]
    rfl

theorem pen_len {d : Dev} {g : Lay} {w : World} {b : Nat} (h : DevIs w b d g) {x : Ent} (hx : x ∈ g.es) : x.pen.l.length ≤ 1099511627776 :=
  Nat.le_trans (h.wf.few (x.key, x.pen) (by rw [h.opn]; exact List.mem_map.2 ⟨x, hx, rfl⟩)) (Nat.le_trans h.wf.st h.wf.lim)

theorem stored_old_fin {w w1 W3 : World} {b : Nat} {d : Dev} {g : Lay} {v : Int} {pre post : List Ent} {x : Ent} (hd0 : DevIs w b d g) (he : g.es = pre ++ x :: post) (hp : ∀ y ∈ pre, y.key ≠ x.key) (hok : d.storeOk x.key = true) (hlim : d.steps < 1099511627776)
    (hu1 : Upd [b] w w1) (hd1 : DevIs w1 b (d.stepped true) g) (q' off' cap' : Nat) (hq : q' = x.q ∨ w1.heap.size ≤ q') (hu3 : Upd [x.p, x.q] w1 W3)
    (hent : EntAt W3 { x with q := q', off := off', cap := cap', pen := ⟨x.pen.l ++ [v], x.pen.fl⟩ }) : DevTo w W3 b g (d.stored x.key v) := by
  have hw := stored_wf hd0.wf x.key v hlim
  have hs : d.stored x.key v = { d.stepped true with opn := putPen x.key v d.opn } := by
    unfold Dev.stored
    rw [if_pos hok, find_of_some hd0.opn he hp]
    rfl
  have hxm : x ∈ g.es := by rw [he]; simp
  obtain ⟨h1, h2⟩ := dev_ent (d' := d.stored x.key v) hd1 he hu3 hent rfl rfl rfl hq (by rw [hs]; rfl) (by rw [hs]) (by rw [hs]; exact put_split hd0.opn hd0.wf.keys he v _ rfl rfl) hw
  have hsz := hu1.size
  refine ⟨_, h1, fun k hk => ?_, ?_⟩
  · rcases h2 k hk with r | r
    · exact .inl r
    · exact .inr (by omega)
  · refine (hu1.mono fun k hk => ?_).trans hu3 fun k hk => ?_
    · simp at hk; subst hk; exact .inl (by simp [Lay.foot])
    · left
      simp only [List.mem_cons, List.not_mem_nil, or_false] at hk
      rcases hk with rfl | rfl
      · simp [Lay.foot, (mem_ents hxm).1]
      · simp [Lay.foot, (mem_ents hxm).2]

theorem ne_pq {w : World} {b : Nat} {d : Dev} {g : Lay} (h : DevIs w b d g) {x : Ent} (hx : x ∈ g.es) : x.p ≠ x.q := by
  obtain ⟨h1, cs, h2, _⟩ := h.ents x hx
  intro e
  rw [← e, h1] at h2
  simp at h2

set_option maxRecDepth 100000 in
theorem store_old {w : World} {b : Nat} {d : Dev} {g : Lay} (h : DevIs w b d g) (v : Int) {pre post : List Ent} {x : Ent} (he : g.es = pre ++ x :: post) (hp : ∀ y ∈ pre, y.key ≠ x.key)
    (hok : d.storeOk x.key = true) (hlim : d.steps < 1099511627776) :
    Calls Tryz.prog 152 #[.pointer (some ⟨b, 0, none⟩), .int .i64 x.key, .int .u64 v] w fun e w' => e = .returned (.bool true) ∧ DevTo w w' b g (d.stored x.key v) := by
  have hc := in_any h x.key
  have hok' := hok
  simp only [Dev.storeOk, Bool.and_eq_true, Bool.not_eq_true'] at hok'
  rw [hok'.1] at hc
  have hs := step_go h hok'.2 hlim true
  have hxm : x ∈ g.es := by rw [he]; simp
  have hlen := pen_len h hxm
  have H := Lib.hid h
  have HC := Lib.hid hc
  have HS := Lib.hid hs
  have HO := Lib.hid hok
  have HE := Lib.hid he
  have HP := Lib.hid hp
  have HX := Lib.hid hxm
  have hl := hlim
  have HL := Lib.hid hl
  obtain ⟨i0, hinf, hz0, hz1, hz2⟩ := info_parts info_u64
  have HI := Lib.hid (And.intro hinf (And.intro hz0 (And.intro hz1 hz2)))
  clear hc h hok hok' hs he hp hl hinf hz0 hz1 hz2
  go_enter Tryz.func152, Tryz.ntmps152
  go_wp2_with (first | (go_at_call 173; refine HC.out.mono ?_; rintro e w' ⟨rfl, rfl⟩) | (go_at_call 184; refine HS.out.mono ?_; rintro e w1 ⟨rfl, hu1, hd1⟩; (obtain ⟨c0, c1, c2, c3, c4, c5⟩ := dev_cells hd1); clear c0 c1 c2 c4 c5; (have hlk := look_some hd1 HE.out HP.out); (obtain ⟨p0, p1, f0, f1, po, ps, pc⟩ := ent_facts (hd1.ents x HX.out)); (have HPO := Lib.hid po); (have HPS := Lib.hid ps); (have hxlt := lt_of (hd1.ents x HX.out).1); (have hqlt : x.q < w1.heap.size := hd1.lt x.q (by simp [Lay.foot, (mem_ents HX.out).2])); (have HD1 := Lib.hid hd1); (have HU1 := Lib.hid hu1); clear hd1 hu1 po ps p1 f1) |
    (at_builtin; refine wpList_append_arg _ rfl _ _ 22 rfl 94 i0 (.int .u64 0) 1 8 Tryz.underlying22 HI.out.1 HI.out.2.1 HI.out.2.2.1 HI.out.2.2.2 rfl (by decide) x.q x.off x.pen.l.length x.cap (u64s x.pen.l) rfl (by simp [u64s]) ?c1 ⟨w1.heap.size, 0, none⟩ 1 1 [.int .u64 v] rfl rfl ?c2 ?c3 ?c4 (by unfold maxLen; omega) (by omega) ?c5 ?c6))
  case c1 => exact fun j u hj => by rw [World.cell?_alloc_lt _ _ _ hqlt]; exact HPO.out j u hj
  case c2 =>
    intro j u hj
    match j with
    | 0 => simp at hj; subst hj; simp [Addr.add]
    | j + 1 => simp at hj
  case c3 => simp [Value.oneCell']
  case c4 =>
    intro hle j hj
    have := HPS.out (x.pen.l.length + j) (by simp at hj; omega)
    rw [World.cell?_alloc_lt _ _ _ (by exact hqlt), World.frozen?_alloc_old _ _ _ (by simp; omega)]
    simpa [Nat.add_assoc] using this
  case c5 =>
    intro hle
    have hW : (w1.alloc (.cells #[.int .u64 v] 94)).setCells x.q (x.off + x.pen.l.length) [.int .u64 v] = (w1.alloc (.cells #[.int .u64 v] 94)).setCell ⟨x.q, x.off + x.pen.l.length, none⟩ (.int .u64 v) := by simp [World.setCells]
    rw [hW]
    obtain ⟨h1, cs, h2, h3, h4, h5⟩ := HD1.out.ents x HX.out
    have hpq := ne_pq HD1.out HX.out
    have k1 := set_other (a := ⟨x.q, x.off + x.pen.l.length, none⟩) (alloc_old h1 (.cells #[.int .u64 v] 94)) hpq (.int .u64 v)
    have k2 := set_same (alloc_old h2 (.cells #[.int .u64 v] 94)) (x.off + x.pen.l.length) (.int .u64 v)
    have k3 : Upd [x.p, x.q] w1 ((w1.alloc (.cells #[.int .u64 v] 94)).setCell ⟨x.q, x.off + x.pen.l.length, none⟩ (.int .u64 v)) := ((Upd.refl _ _).alloc _).setCell (by simp) _
    clear h1 h2 hW p0 f0 hlk
    generalize (w1.alloc (.cells #[.int .u64 v] 94)).setCell ⟨x.q, x.off + x.pen.l.length, none⟩ (.int .u64 v) = W2 at *
    have p0 := cell_of k1 0
    have f0 := free_of k1 0
    simp only [List.getElem?_toArray, List.getElem?_cons_zero] at p0
    have K1 := Lib.hid k1
    have K2 := Lib.hid k2
    have K3 := Lib.hid k3
    have H5 := Lib.hid h5
    clear k1 k2 k3 h5 hpq
    go_wp2
    go_ret
    refine ⟨rfl, stored_old_fin H.out HE.out HP.out HO.out hlim HU1.out HD1.out x.q x.off x.cap (.inl rfl) (K3.out.setCell (by simp) _) ⟨?_, _, set_other K2.out (fun e => ne_pq HD1.out HX.out e.symm) _, by simpa using h3, by simp; omega, ?_⟩⟩
    · simp only [List.length_append, List.length_singleton]
      exact set_b K1.out 0 _ rfl
    · intro j u hj
      simp only at hj
      rw [Array.getElem?_setIfInBounds]
      by_cases e : j < x.pen.l.length
      · rw [if_neg (show ¬ (x.off + x.pen.l.length = x.off + j) from by omega)]
        rw [List.getElem?_append_left e] at hj
        exact H5.out j u hj
      · rw [List.getElem?_append_right (by omega)] at hj
        have : j = x.pen.l.length := by
          have := (List.getElem?_eq_some_iff.1 hj).1
          simp at this
          omega
        subst this
        simp at hj
        subst hj
        rw [if_pos rfl, if_pos (by omega)]
  case c6 =>
    intro hlt v' w2 hown hg
    obtain ⟨A, c, qs, rfl, hsl, hqs⟩ := Sl.of_own hown
    obtain ⟨hle, ⟨hnil, -⟩ | ⟨q, off, cs, rfl, rfl, hb, hoc, hat⟩⟩ := hsl
    · simp at hnil
    obtain ⟨h1, -⟩ := HD1.out.ents x HX.out
    have k1 := (Upd.of_grown (F := []) hg).blk (alloc_old h1 (.cells #[.int .u64 v] 94)) (by simp)
    have k3 : Upd [x.p, x.q] w1 w2 := ((Upd.refl _ _).alloc _).trans (Upd.of_grown (F := []) hg) (by simp)
    have hq0 := hqs q (by simp)
    have p0' := cell_of k1 0
    have f0' := free_of k1 0
    simp only [List.getElem?_toArray, List.getElem?_cons_zero] at p0'
    have hqp : q ≠ x.p := by omega
    have K1 := Lib.hid k1
    have K2 := Lib.hid hb
    have K3 := Lib.hid k3
    have H5 := Lib.hid hat
    have Hown := Lib.hid hown
    clear k1 hb k3 hat hown hg h1 hqs p0 f0 hlk
    go_wp2
    go_ret
    refine ⟨rfl, stored_old_fin H.out HE.out HP.out HO.out hlim HU1.out HD1.out q off c (.inr (by omega)) (K3.out.setCell (by simp) _) ⟨?_, cs, set_other K2.out hqp _, hoc, by simpa [u64s] using hle, ?_⟩⟩
    · simp only [List.length_append, List.length_singleton]
      exact set_b K1.out 0 _ rfl
    · intro j u hj
      apply H5.out j (.int .u64 u)
      simp only at hj
      simp only [u64s, ← List.map_singleton (f := Value.int .u64), ← List.map_append, List.getElem?_map, hj, Option.map_some]

end Go.Proofs.YtgnagbbdnlmgeaaGreat.Pm
end

/- A device's store of a word that wasn't pending; a store, whatever it is. -/
section
set_option linter.unusedVariables false
set_option linter.unusedSimpArgs false
set_option maxHeartbeats 400000
namespace Go.Proofs.YtgnagbbdnlmgeaaGreat.Pm
open Go Go.RowKit
open Go.ChangeMaps (setBlock)
open Go.Proofs.YtgnagbbdnlmgeaaGreat.Ob Go.Proofs.YtgnagbbdnlmgeaaGreat.Mp Go.Proofs.YtgnagbbdnlmgeaaGreat.Dv Go.Proofs.YtgnagbbdnlmgeaaGreat.Wl

theorem one_cell (w : World) (v : Value) {T : TypeId} : ∀ (j : Nat) u, [v][j]? = some u → (w.alloc (.cells #[v] T)).cell? ((⟨w.heap.size, 0, none⟩ : Addr).add j) = some u := by
  intro j u hj
  match j with
  | 0 => simp at hj; subst hj; simp [Addr.add]
  | j + 1 => simp at hj

theorem stored_new_fin {w w1 W3 : World} {b : Nat} {d : Dev} {g : Lay} {k v : Int} (hd0 : DevIs w b d g) (hn : ∀ y ∈ g.es, y.key ≠ k) (hok : d.storeOk k = true) (hlim : d.steps < 1099511627776)
    (hu1 : Upd [b] w w1) (hd1 : DevIs w1 b (d.stepped true) g) (p q off cap : Nat) (hp : w1.heap.size ≤ p) (hq : w1.heap.size ≤ q) (hpq : p ≠ q) (hu3 : Upd [g.M] w1 W3)
    (hm : W3.heap[g.M]? = some (obj (kInt .i64) (g.es.map Ent.en ++ [(k, .pointer (some ⟨p, 0, none⟩), g.clock)]) (g.clock + 1)))
    (hent : EntAt W3 ⟨k, g.clock, p, q, off, cap, ⟨[v], 0⟩⟩) : DevTo w W3 b g (d.stored k v) := by
  have hw := stored_wf hd0.wf k v hlim
  have hs : d.stored k v = { d.stepped true with opn := d.opn ++ [(k, ⟨[v], 0⟩)] } := by
    unfold Dev.stored
    rw [if_pos hok, find_of_none hd0.opn hn]
    rfl
  obtain ⟨h1, h2⟩ := dev_new (d' := d.stored k v) hd1 (x := ⟨k, g.clock, p, q, off, cap, ⟨[v], 0⟩⟩) hm hu3 hent rfl hp hq hpq (by rw [hs]; rfl) (by rw [hs]) (by rw [hs]; rfl) hw
  have hsz := hu1.size
  refine ⟨_, h1, fun k hk => ?_, ?_⟩
  · rcases h2 k hk with r | r
    · exact .inl r
    · exact .inr (by omega)
  · refine (hu1.mono fun k hk => ?_).trans hu3 fun k hk => ?_
    · simp at hk; subst hk; exact .inl (by simp [Lay.foot])
    · left
      simp only [List.mem_singleton] at hk
      subst hk
      simp [Lay.foot]

set_option maxRecDepth 100000 in
theorem store_new {w : World} {b : Nat} {d : Dev} {g : Lay} (h : DevIs w b d g) (k v : Int) (hn : ∀ y ∈ g.es, y.key ≠ k)
    (hok : d.storeOk k = true) (hlim : d.steps < 1099511627776) :
    Calls Tryz.prog 152 #[.pointer (some ⟨b, 0, none⟩), .int .i64 k, .int .u64 v] w fun e w' => e = .returned (.bool true) ∧ DevTo w w' b g (d.stored k v) := by
  have hc := in_any h k
  have hok' := hok
  simp only [Dev.storeOk, Bool.and_eq_true, Bool.not_eq_true'] at hok'
  rw [hok'.1] at hc
  have hs := step_go h hok'.2 hlim true
  have H := Lib.hid h
  have HC := Lib.hid hc
  have HS := Lib.hid hs
  have HO := Lib.hid hok
  have HN := Lib.hid hn
  have hl := hlim
  have HL := Lib.hid hl
  obtain ⟨i0, hinf, hz0, hz1, hz2⟩ := info_parts info_u64
  have HI := Lib.hid (And.intro hinf (And.intro hz0 (And.intro hz1 hz2)))
  clear hc h hok hok' hs hn hl hinf hz0 hz1 hz2
  go_enter Tryz.func152, Tryz.ntmps152
  go_wp2_with (first | (go_at_call 173; refine HC.out.mono ?_; rintro e w' ⟨rfl, rfl⟩) | (go_at_call 184; refine HS.out.mono ?_; rintro e w1 ⟨rfl, hu1, hd1⟩; (obtain ⟨c0, c1, c2, c3, c4, c5⟩ := dev_cells hd1); clear c0 c1 c2 c4 c5; (have hlk := look_none hd1 HN.out); (have hmlt := lt_of hd1.map); (have hblt := lt_of hd1.blk); (have HD1 := Lib.hid hd1); (have HU1 := Lib.hid hu1); clear hd1 hu1) |
    (at_mapUpdate; refine wpl_put_new (kInt .i64) (g.es.map Ent.en) rfl _ _ _ _ rfl Tryz.underlying144 Tryz.underlying3 rfl k rfl _ rfl (alloc_old HD1.out.map _) (by simp only [List.mem_map]; rintro _ ⟨x, hx, rfl⟩; exact HN.out x hx) ?_; intro W2 hW2; (have k1 := hW2.blk (alloc_new w1 (.cells #[.slice none 0 0, .int .i64 0] 149)) (by omega)); (have k2 := hW2.here); (have k3 : Upd [g.M] w1 W2 := ((Upd.refl _ _).alloc _).trans (hW2.upd [g.M] (by simp)) (by simp)); (have plt := lt_of k1); (have mlt := lt_of k2); (have p0 := cell_of k1 0); (have f0 := free_of k1 0); simp only [List.getElem?_toArray, List.getElem?_cons_zero] at p0; (have K1 := Lib.hid k1); (have K2 := Lib.hid k2); (have K3 := Lib.hid k3); clear k1 k2 k3 hW2) |
    (at_builtin; refine wpl_append_grow rfl _ _ 22 rfl 94 (.int .u64 0) 8 Tryz.underlying22 info_u64 (by decide) none 0 0 [] rfl (by simp) rfl (by simp) ⟨_, 0, none⟩ 1 1 [.int .u64 v] rfl rfl (one_cell _ _) (by simp [Value.oneCell']) (by omega) (by unfold maxLen; omega) (by omega) (by omega) ?_; intro q c w2 hnew; (have k1 := (hnew.upd []).blk (alloc_old K1.out (.cells #[.int .u64 v] 94)) (by simp)); (have p1 := cell_of k1 0); (have f1 := free_of k1 0); simp only [List.getElem?_toArray, List.getElem?_cons_zero] at p1; (have L1 := Lib.hid k1); (have HW := Lib.hid hnew); clear k1 hnew p0 f0))
  go_ret
  obtain ⟨⟨cs, hb, hoc, hat⟩, hle, hq0, hup⟩ := HW.out
  have hsz := K3.out.size
  have k2 := (hup []).blk (alloc_old K2.out (.cells #[.int .u64 v] 94)) (by simp)
  have k3 : Upd [g.M] w1 w2 := (K3.out.alloc _).trans (hup []) (by simp)
  simp only [World.size_alloc] at hq0
  refine ⟨rfl, stored_new_fin H.out HN.out HO.out hlim HU1.out HD1.out w1.heap.size q 0 c (Nat.le_refl _) (by omega) (by omega) (k3.setCell (by simp) _) (set_other k2 (by simp; omega) _) ⟨?_, cs, set_other hb (by simp; omega) _, by simpa using hoc, by simpa using hle, ?_⟩⟩
  · exact set_b L1.out 0 _ rfl
  · intro j u hj
    apply hat j (.int .u64 u)
    match j with
    | 0 => simp at hj; subst hj; rfl
    | j + 1 => simp at hj

theorem store_any {w : World} {b : Nat} {d : Dev} {g : Lay} (h : DevIs w b d g) (k v : Int) (hlim : d.steps < 1099511627776) :
    Calls Tryz.prog 152 #[.pointer (some ⟨b, 0, none⟩), .int .i64 k, .int .u64 v] w fun e w' => e = .returned (.bool (d.storeOk k)) ∧ DevTo w w' b g (d.stored k v) := by
  cases hok : d.storeOk k with
  | false =>
    refine (store_no h k v hok).mono ?_
    rintro e w' ⟨rfl, rfl⟩
    refine ⟨rfl, g, ?_, fun k hk => .inl hk, Upd.refl _ _⟩
    unfold Dev.stored
    rw [if_neg (by simp [hok])]
    exact h
  | true =>
    rcases find_split g.es k with hn | ⟨pre, x, post, he, rfl, hp⟩
    · exact store_new h k v hn hok hlim
    · exact store_old h v he hp hok hlim

end Go.Proofs.YtgnagbbdnlmgeaaGreat.Pm
end
