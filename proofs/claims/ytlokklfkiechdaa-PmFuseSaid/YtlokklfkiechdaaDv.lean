/- A persistent-memory device as plain data, and how it lies in memory. -/
import Derived.Test.YtlokklfkiechdaaMp
import Derived.Test.YtlokklfkiechdaaOb
set_option linter.unusedVariables false
set_option linter.unusedSimpArgs false
set_option linter.unusedSectionVars false
namespace Go.Proofs.Ytlokklfkiechdaa.Dv
open Go Go.RowKit
open Go.ChangeMaps (setBlock)
open Go.Proofs.Ytlokklfkiechdaa.Ob Go.Proofs.Ytlokklfkiechdaa.Mp

/-- A word's stores that don't last yet, and how many of them were there at the last flush. -/
structure Pen where
  l : List Int
  fl : Nat
deriving DecidableEq

/-- A device: counts, lasting words, what is pending (by word), a fuse. -/
structure Dev where
  steps : Nat
  stores : Nat
  las : List Int
  opn : List (Int × Pen)
  fuse : Option Nat

def u64s (l : List Int) : List Value := l.map (Value.int .u64)
theorem u64s_length (l : List Int) : (u64s l).length = l.length := by simp [u64s]

structure Dev.Wf (d : Dev) : Prop where
  len : d.las.length ≤ 4194304
  keys : (d.opn.map (·.1)).Nodup
  lo : ∀ x ∈ d.opn, 0 ≤ x.1
  hi : ∀ x ∈ d.opn, x.1 < d.las.length
  ne : ∀ x ∈ d.opn, x.2.l ≠ []
  fl : ∀ x ∈ d.opn, x.2.fl ≤ x.2.l.length
  few : ∀ x ∈ d.opn, x.2.l.length ≤ d.stores
  st : d.stores ≤ d.steps
  lim : d.steps ≤ 1099511627776
  fuse : ∀ n, d.fuse = some n → n ≤ 9223372036854775807

/-- One pending word, in memory: its key, its entry's stamp, its block, its row's block, the slice's place and room. -/
structure Ent where
  key : Int
  born : Nat
  p : Nat
  q : Nat
  off : Nat
  cap : Nat
  pen : Pen

def EntAt (w : World) (x : Ent) : Prop :=
  w.heap[x.p]? = some (.cells #[.slice (some ⟨x.q, x.off, none⟩) x.pen.l.length x.cap, .int .i64 x.pen.fl] 78 (0, 0)) ∧
  ∃ cs, w.heap[x.q]? = some (.cells cs 26 (0, 0)) ∧ x.off + x.cap ≤ cs.size ∧ x.pen.l.length ≤ x.cap ∧ ∀ (j : Nat) v, x.pen.l[j]? = some v → cs[x.off + j]? = some (.int .u64 v)

def Ent.en (x : Ent) : En Int := (x.key, .pointer (some ⟨x.p, 0, none⟩), x.born)

/-- Where a device lies. -/
structure Lay where
  A : Option Addr
  c : Nat
  Ls : List Nat
  M : Nat
  clock : Nat
  es : List Ent

def Lay.ents (g : Lay) : List Nat := g.es.flatMap fun x => [x.p, x.q]
def Lay.foot (g : Lay) (b : Nat) : List Nat := b :: g.M :: (g.Ls ++ g.ents)

def cellsOf (d : Dev) (g : Lay) : Array Value :=
  #[.int .i64 d.steps, .int .i64 d.stores, .slice g.A d.las.length g.c, .map (some g.M), .bool d.fuse.isSome, .int .i64 (d.fuse.getD 0)]

structure DevIs (w : World) (b : Nat) (d : Dev) (g : Lay) : Prop where
  blk : w.heap[b]? = some (.cells (cellsOf d g) 75 (0, 0))
  las : Sl w 26 g.A g.c (u64s d.las) g.Ls
  map : w.heap[g.M]? = some (obj (kInt .i64) (g.es.map Ent.en) g.clock)
  ents : ∀ x ∈ g.es, EntAt w x
  opn : d.opn = g.es.map fun x => (x.key, x.pen)
  nd : (g.foot b).Nodup
  bnd : (g.es.map (·.born)).Nodup
  old : ∀ x ∈ g.es, x.born < g.clock
  wf : d.Wf

/-- A device at block b, in the blocks F. -/
def DevAt (w : World) (b : Nat) (d : Dev) (F : List Nat) : Prop := ∃ g, DevIs w b d g ∧ F = g.foot b

theorem EntAt.keep {w w' : World} {x : Ent} (h : EntAt w x) (hp : w'.heap[x.p]? = w.heap[x.p]?) (hq : w'.heap[x.q]? = w.heap[x.q]?) : EntAt w' x := by
  obtain ⟨h1, cs, h2, r⟩ := h
  exact ⟨hp.trans h1, cs, hq.trans h2, r⟩

theorem mem_ents {g : Lay} {x : Ent} (h : x ∈ g.es) : x.p ∈ g.ents ∧ x.q ∈ g.ents := by
  unfold Lay.ents
  simp only [List.mem_flatMap]
  exact ⟨⟨x, h, by simp⟩, ⟨x, h, by simp⟩⟩

theorem DevIs.lt {w : World} {b : Nat} {d : Dev} {g : Lay} (h : DevIs w b d g) : ∀ k ∈ g.foot b, k < w.heap.size := by
  intro k hk
  simp only [Lay.foot, List.mem_cons, List.mem_append] at hk
  rcases hk with rfl | rfl | hk | hk
  · exact lt_of h.blk
  · exact lt_of h.map
  · obtain ⟨_, ⟨_, hq⟩ | ⟨q, off, cs, _, hq, hb, _⟩⟩ := h.las
    · rw [hq] at hk; simp at hk
    · rw [hq] at hk; simp at hk; subst hk; exact lt_of hb
  · simp only [Lay.ents, List.mem_flatMap] at hk
    obtain ⟨x, hx, hk⟩ := hk
    obtain ⟨h1, cs, h2, _⟩ := h.ents x hx
    simp at hk
    rcases hk with rfl | rfl
    · exact lt_of h1
    · exact lt_of h2

theorem DevIs.keep {w w' : World} {b : Nat} {d : Dev} {g : Lay} (h : DevIs w b d g) (hk : ∀ k ∈ g.foot b, w'.heap[k]? = w.heap[k]?) : DevIs w' b d g :=
  ⟨(hk b (by simp [Lay.foot])).trans h.blk, h.las.keep (fun q hq => hk q (by simp [Lay.foot, hq])), (hk g.M (by simp [Lay.foot])).trans h.map,
   fun x hx => (h.ents x hx).keep (hk _ (by simp [Lay.foot, (mem_ents hx).1])) (hk _ (by simp [Lay.foot, (mem_ents hx).2])), h.opn, h.nd, h.bnd, h.old, h.wf⟩

theorem DevIs.upd {w w' : World} {b : Nat} {d : Dev} {g : Lay} {F : List Nat} (h : DevIs w b d g) (hu : Upd F w w') (hF : ∀ k ∈ g.foot b, k ∉ F) : DevIs w' b d g :=
  h.keep (fun k hk => hu.block k (h.lt k hk) (hF k hk))
theorem DevIs.below {w w' : World} {b : Nat} {d : Dev} {g : Lay} (h : DevIs w b d g) (hu : Below w.heap.size w w') : DevIs w' b d g :=
  h.keep (fun k hk => hu.block k (h.lt k hk))
theorem DevIs.drewN {w : World} {b : Nat} {d : Dev} {g : Lay} (h : DevIs w b d g) (n : Nat) : DevIs (w.drewN n) b d g := h.keep (fun _ _ => rfl)

/-- What a call that turns a device comes to. -/
def DevTo (w w' : World) (b : Nat) (g : Lay) (d' : Dev) : Prop :=
  ∃ g', DevIs w' b d' g' ∧ (∀ k ∈ g'.foot b, k ∈ g.foot b ∨ w.heap.size ≤ k) ∧ Upd (g.foot b) w w'

/-! ### the device's answers, as plain functions -/
def Dev.find (d : Dev) (k : Int) : Option Pen := (d.opn.find? fun x => decide (x.1 = k)).map (·.2)
def Dev.inn (d : Dev) (k : Int) : Bool := decide (0 ≤ k) && decide (k < d.las.length)
def Dev.lasting (d : Dev) (k : Int) : Int := if d.inn k then d.las.getD k.toNat 0 else 0
def Dev.load (d : Dev) (k : Int) : Int := match d.find k with
  | some p => p.l.getD (p.l.length - 1) 0
  | none => d.lasting k
def Dev.down (d : Dev) : Bool := decide (d.fuse = some 0)
/-- a step that may be done -/
def Dev.stepped (d : Dev) (store : Bool) : Dev := { d with steps := d.steps + 1, stores := d.stores + (if store then 1 else 0), fuse := d.fuse.map (· - 1) }
def putPen (k x : Int) (l : List (Int × Pen)) : List (Int × Pen) := l.map fun y => if y.1 = k then (y.1, ⟨y.2.l ++ [x], y.2.fl⟩) else y
def Dev.storeOk (d : Dev) (k : Int) : Bool := d.inn k && !d.down
def Dev.stored (d : Dev) (k x : Int) : Dev :=
  if d.storeOk k then { d.stepped true with opn := if (d.find k).isSome then putPen k x d.opn else d.opn ++ [(k, ⟨[x], 0⟩)] } else d
def Dev.flushOk (d : Dev) (line : Int) : Bool := decide (0 ≤ line) && decide (8 * line < d.las.length) && !d.down
def flushPen (line : Int) (y : Int × Pen) : Int × Pen := if y.1 / 8 = line then (y.1, ⟨y.2.l, y.2.l.length⟩) else y
def Dev.flushed (d : Dev) (line : Int) : Dev := if d.flushOk line then { d.stepped false with opn := d.opn.map (flushPen line) } else d
def fencePen (y : Int × Pen) : Option (Int × Pen) :=
  if y.2.fl = 0 then some y else if y.2.l.length ≤ y.2.fl then none else some (y.1, ⟨y.2.l.drop y.2.fl, 0⟩)
/-- word i behind a fence -/
def fenceWord (l : List (Int × Pen)) (i : Nat) (v : Int) : Int := match l.find? (fun x => decide (x.1 = (i : Int))) with
  | some y => if y.2.fl = 0 then v else y.2.l.getD (y.2.fl - 1) 0
  | none => v
def Dev.fenced (d : Dev) : Dev := if d.down then d else { d.stepped false with opn := d.opn.filterMap fencePen, las := d.las.mapIdx (fenceWord d.opn) }
def Dev.may (d : Dev) (k : Int) : List Int := if d.inn k then d.las.getD k.toNat 0 :: ((d.find k).map (·.l)).getD [] else []

end Go.Proofs.Ytlokklfkiechdaa.Dv
