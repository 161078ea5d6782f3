/- The document's device without words and at a fuse of nought: it does nothing. -/
import Derived.Test.YtlokklfkiechdaaLa
import Derived.Laws.Rows
import Derived.IntWalk
set_option linter.unusedVariables false
set_option linter.unusedSimpArgs false
set_option maxHeartbeats 1000000
namespace Go.Proofs.Ytlokklfkiechdaa.La
open Go Go.RowKit
open Go.ChangeMaps (setBlock)
open Go.Proofs.Ytlokklfkiechdaa.Ob Go.Proofs.Ytlokklfkiechdaa.Mp Go.Proofs.Ytlokklfkiechdaa.Dv Go.Proofs.Ytlokklfkiechdaa.Wl Go.Proofs.Ytlokklfkiechdaa.Cp Go.Proofs.Ytlokklfkiechdaa.Pm

theorem res_ct {P : Program} {fn : Func} {p u : Tmp} {ty : TypeId} (h : fn.results = #[.cell p ty, .tmp u]) (tmps : Array Value) (w : World) (g : Nat) (t : TypeId) (cs : Array Value) (fr : Nat × Nat) (d : TypeDesc)
    (hp : tmps.getD p undef = .pointer (some ⟨g, 0, none⟩)) (hg : w.heap[g]? = some (.cells cs t fr))
    (hu : P.underlying ty = some d) (hd : (match d with | .struct _ | .array _ _ => true | _ => false) = true) (hi : (P.info? ty).map (·.size) = some cs.size) :
    (results fn tmps).run P w = .ok (.tuple #[.agg cs, tmps.getD u undef]) w := by
  have hp' : tmps[p]?.getD undef = .pointer (some ⟨g, 0, none⟩) := by simpa using hp
  simp [results, h, hp', asAddr, run_loadVar_row w g t ty cs fr d hg hu hd hi]
def zd : Array Value := #[.slice none 0 0, .int .i64 0, .int .i64 0, .int .i64 0]
theorem bcell {W w1 : World} (hb : Below W.heap.size W w1) : (∀ b o, b < W.heap.size → w1.cell? ⟨b, o, none⟩ = W.cell? ⟨b, o, none⟩) ∧ (∀ b o, b < W.heap.size → w1.frozen? ⟨b, o, none⟩ = W.frozen? ⟨b, o, none⟩) :=
  ⟨fun b o h => hb.cell (p := ⟨b, o, none⟩) h, fun b o h => hb.frozen (p := ⟨b, o, none⟩) h⟩
theorem bl_alloc {w w1 : World} (h : Below w.heap.size w w1) (o : Obj) : Below w.heap.size w (w1.alloc o) := h.alloc h.size o
theorem bl_set {w w1 : World} (h : Below w.heap.size w w1) {b o : Nat} (hb : w.heap.size ≤ b) (v : Value) : Below w.heap.size w (w1.setCell ⟨b, o, none⟩ v) := h.setCell hb v
theorem bl_drewN {w w1 : World} (h : Below w.heap.size w w1) (n : Nat) : Below w.heap.size w (w1.drewN n) := ⟨h.os, h.tape, h.output, h.size, h.block⟩
theorem bl_drew {w w1 : World} (h : Below w.heap.size w w1) : Below w.heap.size w w1.drew := ⟨h.os, h.tape, h.output, h.size, h.block⟩
theorem bl_then {w w1 w2 : World} (h : Below w.heap.size w w1) (k : Below w1.heap.size w1 w2) : Below w.heap.size w w2 := h.trans (k.mono h.size)

set_option maxRecDepth 100000 in
theorem ref_step (w : World) :
    Calls Try.prog 69 #[.agg #[.slice none 0 0, .int .i64 0, .int .i64 0, .int .i64 0]] w fun e w' => e = .returned (.tuple #[.agg #[.slice none 0 0, .int .i64 0, .int .i64 0, .int .i64 0], .bool false]) ∧ Below w.heap.size w w' := by
  have hu := Try.underlying60
  go_enter Try.func69, Try.ntmps69
  go_wp2
  exact bodyPost_ret (v := .tuple #[.agg #[.slice none 0 0, .int .i64 0, .int .i64 0, .int .i64 0], .bool false]) (by simp [results, Try.results69, go_sem]) rfl ⟨rfl, by repeat (first | exact Below.refl _ _ | refine bl_alloc ?_ _)⟩

set_option maxRecDepth 100000 in
theorem ref_store (w : World) (k x : Int) :
    Calls Try.prog 50 #[.agg #[.slice none 0 0, .int .i64 0, .int .i64 0, .int .i64 0], .int .i64 k, .int .u64 x] w fun e w' => e = .returned (.tuple #[.agg #[.slice none 0 0, .int .i64 0, .int .i64 0, .int .i64 0], .bool false]) ∧ Below w.heap.size w w' := by
  have hu := Try.underlying60
  by_cases h : k < 0
  all_goals
    go_enter Try.func50, Try.ntmps50
    go_wp2
    exact bodyPost_ret (v := .tuple #[.agg #[.slice none 0 0, .int .i64 0, .int .i64 0, .int .i64 0], .bool false]) (by simp [results, Try.results50, go_sem]) rfl ⟨rfl, by repeat (first | exact Below.refl _ _ | refine bl_alloc ?_ _)⟩

set_option maxRecDepth 100000 in
theorem ref_flush (w : World) (k : Int) :
    Calls Try.prog 51 #[.agg #[.slice none 0 0, .int .i64 0, .int .i64 0, .int .i64 0], .int .i64 k] w fun e w' => e = .returned (.tuple #[.agg #[.slice none 0 0, .int .i64 0, .int .i64 0, .int .i64 0], .bool false]) ∧ Below w.heap.size w w' := by
  have hu := Try.underlying60
  rcases (by omega : k < 0 ∨ 0 < k ∨ k = 0) with h | h | h
  case' inr.inr => subst h
  all_goals
    go_enter Try.func51, Try.ntmps51
    go_wp2
    exact bodyPost_ret (v := .tuple #[.agg #[.slice none 0 0, .int .i64 0, .int .i64 0, .int .i64 0], .bool false]) (by simp [results, Try.results51, go_sem]) rfl ⟨rfl, by repeat (first | exact Below.refl _ _ | refine bl_alloc ?_ _)⟩

set_option maxRecDepth 100000 in
theorem ref_fence (w : World) :
    Calls Try.prog 52 #[.agg #[.slice none 0 0, .int .i64 0, .int .i64 0, .int .i64 0]] w fun e w' => e = .returned (.tuple #[.agg #[.slice none 0 0, .int .i64 0, .int .i64 0, .int .i64 0], .bool false]) ∧ Below w.heap.size w w' := by
  have hu := Try.underlying60
  go_enter Try.func52, Try.ntmps52
  go_wp2_with (go_at_call 69; refine (ref_step _).mono ?_; rintro e w1 ⟨rfl, hb⟩; (obtain ⟨hc, hf⟩ := bcell hb); (have hz := hb.size); simp only [World.size_alloc] at hz; (have hz1 : w.heap.size < w1.heap.size := by omega); (have hz2 : w.heap.size + 1 < w1.heap.size := by omega); clear hz; (have HB := Lib.hid hb); clear hb)
  exact bodyPost_ret (v := .tuple #[.agg #[.slice none 0 0, .int .i64 0, .int .i64 0, .int .i64 0], .bool false]) (by simp [results, Try.results52, go_sem, hc, hz1, hz2]) rfl ⟨rfl, by repeat (first | refine bl_alloc ?_ _ | refine bl_set ?_ (by omega) _ | exact bl_then (bl_alloc (bl_alloc (Below.refl _ _) _) _) HB.out)⟩

theorem ucell {W w3 : World} {F : List Nat} {n : Nat} (hu : Upd F W w3) (hF : ∀ k ∈ F, k < n) : (∀ b o, b < W.heap.size → n ≤ b → w3.cell? ⟨b, o, none⟩ = W.cell? ⟨b, o, none⟩) ∧ (∀ b o, b < W.heap.size → n ≤ b → w3.frozen? ⟨b, o, none⟩ = W.frozen? ⟨b, o, none⟩) :=
  ⟨fun b o h k => cell_block (hu.block b h (fun e => by have := hF b e; omega)) o, fun b o h k => by simp only [World.frozen?]; rw [hu.block b h (fun e => by have := hF b e; omega)]⟩

theorem four {W : World} {k : Nat} (h : W.heap[k]? = some (.cells zd 60 (0, 0))) :
    W.cell? ⟨k, 0, none⟩ = some (.slice none 0 0) ∧ W.cell? ⟨k, 1, none⟩ = some (.int .i64 0) ∧ W.cell? ⟨k, 2, none⟩ = some (.int .i64 0) ∧ W.cell? ⟨k, 3, none⟩ = some (.int .i64 0) ∧
    W.frozen? ⟨k, 0, none⟩ = false ∧ W.frozen? ⟨k, 1, none⟩ = false ∧ W.frozen? ⟨k, 2, none⟩ = false ∧ W.frozen? ⟨k, 3, none⟩ = false :=
  ⟨cell_of h 0, cell_of h 1, cell_of h 2, cell_of h 3, free_of h 0, free_of h 1, free_of h 2, free_of h 3⟩

theorem play_blk {w3 : World} {n : Nat} (h : w3.heap[n]? = some (.cells zd 60 (0, 0))) :
    ((((w3.setCell ⟨n, 0, none⟩ (.slice none 0 0)).setCell ⟨n, 1, none⟩ (.int .i64 0)).setCell ⟨n, 2, none⟩ (.int .i64 0)).setCell ⟨n, 3, none⟩ (.int .i64 0)).heap[n]? = some (.cells zd 60 (0, 0)) :=
  set_b (set_b (set_b (set_b h 0 _ rfl) 1 _ rfl) 2 _ rfl) 3 _ rfl

theorem play_end {w W w3 : World} {b n : Nat} {d d' : Dev} {g g' : Lay} (h : DevIs w b d g) (hW : Below w.heap.size w W) (hn : w.heap.size ≤ n) (hn2 : n < W.heap.size) (r : DevIs w3 b d' g' ∧ (∀ k ∈ g'.foot b, k ∈ g.foot b ∨ W.heap.size ≤ k) ∧ Upd (g.foot b) W w3) :
    DevTo w ((((w3.setCell ⟨n, 0, none⟩ (.slice none 0 0)).setCell ⟨n, 1, none⟩ (.int .i64 0)).setCell ⟨n, 2, none⟩ (.int .i64 0)).setCell ⟨n, 3, none⟩ (.int .i64 0)) b g d' := by
  obtain ⟨r1, r2, r3⟩ := r
  have hs := hW.size
  have hnf : ∀ k ∈ g'.foot b, k ≠ n := by
    intro k hk e
    subst e
    rcases r2 _ hk with q | q
    · have := h.lt _ q; omega
    · omega
  have hu : Upd [n] w3 ((((w3.setCell ⟨n, 0, none⟩ (.slice none 0 0)).setCell ⟨n, 1, none⟩ (.int .i64 0)).setCell ⟨n, 2, none⟩ (.int .i64 0)).setCell ⟨n, 3, none⟩ (.int .i64 0)) :=
    ((((Upd.refl _ _).setCell (by simp) _).setCell (by simp) _).setCell (by simp) _).setCell (by simp) _
  refine ⟨g', r1.upd hu (fun k hk => by simpa using hnf k hk), fun k hk => ?_, ?_⟩
  · rcases r2 k hk with q | q
    · exact .inl q
    · exact .inr (by omega)
  · exact ((Upd.of_below (F := g.foot b) hW).trans r3 (fun x hx => .inl hx)).trans hu (fun x hx => .inr (by simp at hx; omega))

theorem tdiv8 {W : Int} (h0 : -9223372036854775808 ≤ W) (h1 : W ≤ 9223372036854775807) : IntKind.i64.wrap (W.tdiv 8) = W.tdiv 8 := by
  have h : -9223372036854775808 ≤ W.tdiv 8 ∧ W.tdiv 8 ≤ 9223372036854775807 := by
    rcases (by omega : 0 ≤ W ∨ W < 0) with c | c
    · rw [Int.tdiv_eq_ediv_of_nonneg c]; omega
    · obtain ⟨m, rfl⟩ : ∃ m, W = -m := ⟨-W, by omega⟩
      rw [Int.neg_tdiv, Int.tdiv_eq_ediv_of_nonneg (by omega)]; omega
  exact IntWalk.i64_in _ h

/-- an act of storing, flushing or fencing, done -/
def act (d : Dev) (x : Act) : Dev :=
  if x.k % 8 < 3 then d.stored x.W x.X else if x.k % 8 = 3 then d.flushed (x.W.tdiv 8) else if x.k % 8 = 4 then d.fenced else d.flushed x.W

set_option maxRecDepth 100000 in
theorem play_store {w : World} {b : Nat} {d : Dev} {g : Lay} (h : DevIs w b d g) (x : Act) (hx : x.Wf) (hk : x.k % 8 < 3) (hs : d.steps < 1099511627776) :
    Calls Try.prog 25 #[.pointer (some ⟨b, 0, none⟩), .agg #[.slice none 0 0, .int .i64 0, .int .i64 0, .int .i64 0], .agg #[.int .u8 x.k, .int .i64 x.W, .int .u64 x.X, .slice x.ca x.cl x.cc]] w
      fun e w' => (∃ v, e = .returned v) ∧ DevTo w w' b g (d.stored x.W x.X) := by
  have hu := Try.underlying60
  have hu2 := Try.underlying57
  obtain ⟨k0, k1, w0, w1, x0, x1⟩ := hx
  have H := Lib.hid h
  clear h
  go_enter Try.func25, Try.ntmps25
  go_wp2_with (go_at_call 50; refine (ref_store _ _ _).mono ?_; rintro e w1 ⟨rfl, hb⟩; (obtain ⟨hc, hf⟩ := bcell hb); (have hz := hb.size); simp only [World.size_alloc] at hz; (have hz1 : w.heap.size < w1.heap.size := by omega); (have hz2 : w.heap.size + 1 < w1.heap.size := by omega); (have hz3 : w.heap.size + 2 < w1.heap.size := by omega); clear hz; (have HB := Lib.hid hb); clear hb)
  have hz0 : w.heap.size ≤ w1.heap.size := by omega
  have HW : Hid (Below w.heap.size w (w1.alloc (Obj.cells #[Value.slice none 0 0, Value.int IntKind.i64 0, Value.int IntKind.i64 0, Value.int IntKind.i64 0] 60))) := bl_alloc (bl_then (bl_alloc (bl_alloc (bl_alloc (Below.refl _ _) _) _) _) HB.out) _
  have HD : Hid (DevIs (w1.alloc (Obj.cells #[Value.slice none 0 0, Value.int IntKind.i64 0, Value.int IntKind.i64 0, Value.int IntKind.i64 0] 60)) b d g) := DevIs.below H.out HW.out
  have HL := Lib.hid H.out.lt
  have B6 : Hid ((w1.alloc (Obj.cells #[Value.slice none 0 0, Value.int IntKind.i64 0, Value.int IntKind.i64 0, Value.int IntKind.i64 0] 60)).heap[w.heap.size + 1 + 1]? = some (.cells zd 60 (0, 0))) := by
    refine alloc_old ((HB.out.block _ (by simp)).trans ?_) _
    have := alloc_new ((w.alloc (Obj.cells #[Value.slice none 0 0, Value.int IntKind.i64 0, Value.int IntKind.i64 0, Value.int IntKind.i64 0] 60)).alloc (Obj.cells #[.int .u8 x.k, .int .i64 x.W, .int .u64 x.X, .slice x.ca x.cl x.cc] 57)) (Obj.cells zd 60)
    simp only [World.size_alloc] at this
    exact this
  go_region_with (go_at_call 14; refine (store_any (d := d) (g := g) ?hh x.W x.X hs).mono ?_; (case hh => exact HD.out.keep (fun _ _ => rfl)); rintro e w3 ⟨rfl, hd⟩; (obtain ⟨g', r1, r2, r3⟩ := hd); (have b6 := (r3.block (w.heap.size + 1 + 1) (by simp; omega) (fun e => by have := HL.out _ e; omega)).trans B6.out); (obtain ⟨z0, z1, z2, z3, y0, y1, y2, y3⟩ := four b6); (obtain ⟨hc3, hf3⟩ := ucell r3 HL.out); (have R := Lib.hid (And.intro r1 (And.intro r2 r3))); (have R6 := Lib.hid b6); (have hz9 : w1.heap.size + 1 ≤ w3.heap.size := by (have h9 := r3.size; simp at h9; omega)); clear r1 r2 r3 b6)
  all_goals
    go_wp2
    refine bodyPost_ret (res_ct rfl _ _ (w.heap.size + 1 + 1) 60 zd (0, 0) _ rfl ?_ Try.underlying60 rfl (by kernel_rfl)) rfl ⟨⟨_, rfl⟩, ?_⟩
    · exact play_blk R6.out
    · exact play_end H.out (bl_drew HW.out) (by omega) (by simp; omega) R.out

set_option maxRecDepth 100000 in
theorem play_flush8 {w : World} {b : Nat} {d : Dev} {g : Lay} (h : DevIs w b d g) (x : Act) (hx : x.Wf) (hk : x.k % 8 = 3) (hs : d.steps < 1099511627776) :
    Calls Try.prog 25 #[.pointer (some ⟨b, 0, none⟩), .agg #[.slice none 0 0, .int .i64 0, .int .i64 0, .int .i64 0], .agg #[.int .u8 x.k, .int .i64 x.W, .int .u64 x.X, .slice x.ca x.cl x.cc]] w
      fun e w' => (∃ v, e = .returned v) ∧ DevTo w w' b g (d.flushed (x.W.tdiv 8)) := by
  have hu := Try.underlying60
  have hu2 := Try.underlying57
  obtain ⟨k0, k1, w0, w1, x0, x1⟩ := hx
  have q8 := tdiv8 w0 w1
  have Q8 := Lib.hid q8
  clear q8
  have k2 : (x.k % 8 == 3) = true := by rw [hk]; rfl
  have k3 : decide (x.k % 8 < 3) = false := by rw [hk]; rfl
  clear hk
  have H := Lib.hid h
  clear h
  go_enter Try.func25, Try.ntmps25
  go_wp2_with (go_at_call 51; refine (ref_flush _ _).mono ?_; rintro e w1 ⟨rfl, hb⟩; (obtain ⟨hc, hf⟩ := bcell hb); (have hz := hb.size); simp only [World.size_alloc] at hz; (have hz1 : w.heap.size < w1.heap.size := by omega); (have hz2 : w.heap.size + 1 < w1.heap.size := by omega); (have hz3 : w.heap.size + 2 < w1.heap.size := by omega); clear hz; (have HB := Lib.hid hb); clear hb)
  have hz0 : w.heap.size ≤ w1.heap.size := by omega
  have HW : Hid (Below w.heap.size w (w1.alloc (Obj.cells #[Value.slice none 0 0, Value.int IntKind.i64 0, Value.int IntKind.i64 0, Value.int IntKind.i64 0] 60))) := bl_alloc (bl_then (bl_alloc (bl_alloc (bl_alloc (Below.refl _ _) _) _) _) HB.out) _
  have HD : Hid (DevIs (w1.alloc (Obj.cells #[Value.slice none 0 0, Value.int IntKind.i64 0, Value.int IntKind.i64 0, Value.int IntKind.i64 0] 60)) b d g) := DevIs.below H.out HW.out
  have HL := Lib.hid H.out.lt
  have B6 : Hid ((w1.alloc (Obj.cells #[Value.slice none 0 0, Value.int IntKind.i64 0, Value.int IntKind.i64 0, Value.int IntKind.i64 0] 60)).heap[w.heap.size + 1 + 1]? = some (.cells zd 60 (0, 0))) := by
    refine alloc_old ((HB.out.block _ (by simp)).trans ?_) _
    have := alloc_new ((w.alloc (Obj.cells #[Value.slice none 0 0, Value.int IntKind.i64 0, Value.int IntKind.i64 0, Value.int IntKind.i64 0] 60)).alloc (Obj.cells #[.int .u8 x.k, .int .i64 x.W, .int .u64 x.X, .slice x.ca x.cl x.cc] 57)) (Obj.cells zd 60)
    simp only [World.size_alloc] at this
    exact this
  have q8 := Q8.out
  go_region_with (go_at_call 15; refine (flush_any (d := d) (g := g) ?hh (x.W.tdiv 8) hs).mono ?_; (case hh => exact HD.out.keep (fun _ _ => rfl)); rintro e w3 ⟨rfl, hd⟩; (obtain ⟨g', r1, r2, r3⟩ := hd); (have b6 := (r3.block (w.heap.size + 1 + 1) (by simp; omega) (fun e => by have := HL.out _ e; omega)).trans B6.out); (obtain ⟨z0, z1, z2, z3, y0, y1, y2, y3⟩ := four b6); (obtain ⟨hc3, hf3⟩ := ucell r3 HL.out); (have R := Lib.hid (And.intro r1 (And.intro r2 r3))); (have R6 := Lib.hid b6); (have hz9 : w1.heap.size + 1 ≤ w3.heap.size := by (have h9 := r3.size; simp at h9; omega)); clear r1 r2 r3 b6)
  all_goals
    go_wp2
    refine bodyPost_ret (res_ct rfl _ _ (w.heap.size + 1 + 1) 60 zd (0, 0) _ rfl ?_ Try.underlying60 rfl (by kernel_rfl)) rfl ⟨⟨_, rfl⟩, ?_⟩
    · exact play_blk R6.out
    · exact play_end H.out (bl_drew HW.out) (by omega) (by simp; omega) R.out

set_option maxRecDepth 100000 in
theorem play_fence {w : World} {b : Nat} {d : Dev} {g : Lay} (h : DevIs w b d g) (x : Act) (hx : x.Wf) (hk : x.k % 8 = 4) (hs : d.steps < 1099511627776) :
    Calls Try.prog 25 #[.pointer (some ⟨b, 0, none⟩), .agg #[.slice none 0 0, .int .i64 0, .int .i64 0, .int .i64 0], .agg #[.int .u8 x.k, .int .i64 x.W, .int .u64 x.X, .slice x.ca x.cl x.cc]] w
      fun e w' => (∃ v, e = .returned v) ∧ DevTo w w' b g (d.fenced) := by
  have hu := Try.underlying60
  have hu2 := Try.underlying57
  obtain ⟨k0, k1, w0, w1, x0, x1⟩ := hx
  have k2 : (x.k % 8 == 4) = true := by rw [hk]; rfl
  have k3 : decide (x.k % 8 < 3) = false := by rw [hk]; rfl
  have k4 : (x.k % 8 == 3) = false := by rw [hk]; rfl
  clear hk
  have H := Lib.hid h
  clear h
  go_enter Try.func25, Try.ntmps25
  go_wp2_with (go_at_call 52; refine (ref_fence _).mono ?_; rintro e w1 ⟨rfl, hb⟩; (obtain ⟨hc, hf⟩ := bcell hb); (have hz := hb.size); simp only [World.size_alloc] at hz; (have hz1 : w.heap.size < w1.heap.size := by omega); (have hz2 : w.heap.size + 1 < w1.heap.size := by omega); (have hz3 : w.heap.size + 2 < w1.heap.size := by omega); clear hz; (have HB := Lib.hid hb); clear hb)
  have hz0 : w.heap.size ≤ w1.heap.size := by omega
  have HW : Hid (Below w.heap.size w (w1.alloc (Obj.cells #[Value.slice none 0 0, Value.int IntKind.i64 0, Value.int IntKind.i64 0, Value.int IntKind.i64 0] 60))) := bl_alloc (bl_then (bl_alloc (bl_alloc (bl_alloc (Below.refl _ _) _) _) _) HB.out) _
  have HD : Hid (DevIs (w1.alloc (Obj.cells #[Value.slice none 0 0, Value.int IntKind.i64 0, Value.int IntKind.i64 0, Value.int IntKind.i64 0] 60)) b d g) := DevIs.below H.out HW.out
  have HL := Lib.hid H.out.lt
  have B6 : Hid ((w1.alloc (Obj.cells #[Value.slice none 0 0, Value.int IntKind.i64 0, Value.int IntKind.i64 0, Value.int IntKind.i64 0] 60)).heap[w.heap.size + 1 + 1]? = some (.cells zd 60 (0, 0))) := by
    refine alloc_old ((HB.out.block _ (by simp)).trans ?_) _
    have := alloc_new ((w.alloc (Obj.cells #[Value.slice none 0 0, Value.int IntKind.i64 0, Value.int IntKind.i64 0, Value.int IntKind.i64 0] 60)).alloc (Obj.cells #[.int .u8 x.k, .int .i64 x.W, .int .u64 x.X, .slice x.ca x.cl x.cc] 57)) (Obj.cells zd 60)
    simp only [World.size_alloc] at this
    exact this
  go_region_with (go_at_call 34; refine (fence_any (d := d) (g := g) ?hh hs).mono ?_; (case hh => exact HD.out.keep (fun _ _ => rfl)); rintro e w3 ⟨rfl, hd⟩; (obtain ⟨g', r1, r2, r3⟩ := hd); (have b6 := (r3.block (w.heap.size + 1 + 1) (by simp; omega) (fun e => by have := HL.out _ e; omega)).trans B6.out); (obtain ⟨z0, z1, z2, z3, y0, y1, y2, y3⟩ := four b6); (obtain ⟨hc3, hf3⟩ := ucell r3 HL.out); (have R := Lib.hid (And.intro r1 (And.intro r2 r3))); (have R6 := Lib.hid b6); (have hz9 : w1.heap.size + 1 ≤ w3.heap.size := by (have h9 := r3.size; simp at h9; omega)); clear r1 r2 r3 b6)
  all_goals
    go_wp2
    refine bodyPost_ret (res_ct rfl _ _ (w.heap.size + 1 + 1) 60 zd (0, 0) _ rfl ?_ Try.underlying60 rfl (by kernel_rfl)) rfl ⟨⟨_, rfl⟩, ?_⟩
    · exact play_blk R6.out
    · exact play_end H.out (bl_drew HW.out) (by omega) (by simp; omega) R.out

set_option maxRecDepth 100000 in
theorem play_flush {w : World} {b : Nat} {d : Dev} {g : Lay} (h : DevIs w b d g) (x : Act) (hx : x.Wf) (hk : x.k % 8 = 5) (hs : d.steps < 1099511627776) :
    Calls Try.prog 25 #[.pointer (some ⟨b, 0, none⟩), .agg #[.slice none 0 0, .int .i64 0, .int .i64 0, .int .i64 0], .agg #[.int .u8 x.k, .int .i64 x.W, .int .u64 x.X, .slice x.ca x.cl x.cc]] w
      fun e w' => (∃ v, e = .returned v) ∧ DevTo w w' b g (d.flushed x.W) := by
  have hu := Try.underlying60
  have hu2 := Try.underlying57
  obtain ⟨k0, k1, w0, w1, x0, x1⟩ := hx
  have k2 : (x.k % 8 == 5) = true := by rw [hk]; rfl
  have k3 : decide (x.k % 8 < 3) = false := by rw [hk]; rfl
  have k4 : (x.k % 8 == 3) = false := by rw [hk]; rfl
  have k5 : (x.k % 8 == 4) = false := by rw [hk]; rfl
  clear hk
  have H := Lib.hid h
  clear h
  go_enter Try.func25, Try.ntmps25
  go_wp2_with (go_at_call 51; refine (ref_flush _ _).mono ?_; rintro e w1 ⟨rfl, hb⟩; (obtain ⟨hc, hf⟩ := bcell hb); (have hz := hb.size); simp only [World.size_alloc] at hz; (have hz1 : w.heap.size < w1.heap.size := by omega); (have hz2 : w.heap.size + 1 < w1.heap.size := by omega); (have hz3 : w.heap.size + 2 < w1.heap.size := by omega); clear hz; (have HB := Lib.hid hb); clear hb)
  have hz0 : w.heap.size ≤ w1.heap.size := by omega
  have HW : Hid (Below w.heap.size w (w1.alloc (Obj.cells #[Value.slice none 0 0, Value.int IntKind.i64 0, Value.int IntKind.i64 0, Value.int IntKind.i64 0] 60))) := bl_alloc (bl_then (bl_alloc (bl_alloc (bl_alloc (Below.refl _ _) _) _) _) HB.out) _
  have HD : Hid (DevIs (w1.alloc (Obj.cells #[Value.slice none 0 0, Value.int IntKind.i64 0, Value.int IntKind.i64 0, Value.int IntKind.i64 0] 60)) b d g) := DevIs.below H.out HW.out
  have HL := Lib.hid H.out.lt
  have B6 : Hid ((w1.alloc (Obj.cells #[Value.slice none 0 0, Value.int IntKind.i64 0, Value.int IntKind.i64 0, Value.int IntKind.i64 0] 60)).heap[w.heap.size + 1 + 1]? = some (.cells zd 60 (0, 0))) := by
    refine alloc_old ((HB.out.block _ (by simp)).trans ?_) _
    have := alloc_new ((w.alloc (Obj.cells #[Value.slice none 0 0, Value.int IntKind.i64 0, Value.int IntKind.i64 0, Value.int IntKind.i64 0] 60)).alloc (Obj.cells #[.int .u8 x.k, .int .i64 x.W, .int .u64 x.X, .slice x.ca x.cl x.cc] 57)) (Obj.cells zd 60)
    simp only [World.size_alloc] at this
    exact this
  go_region_with (go_at_call 15; refine (flush_any (d := d) (g := g) ?hh x.W hs).mono ?_; (case hh => exact HD.out.keep (fun _ _ => rfl)); rintro e w3 ⟨rfl, hd⟩; (obtain ⟨g', r1, r2, r3⟩ := hd); (have b6 := (r3.block (w.heap.size + 1 + 1) (by simp; omega) (fun e => by have := HL.out _ e; omega)).trans B6.out); (obtain ⟨z0, z1, z2, z3, y0, y1, y2, y3⟩ := four b6); (obtain ⟨hc3, hf3⟩ := ucell r3 HL.out); (have R := Lib.hid (And.intro r1 (And.intro r2 r3))); (have R6 := Lib.hid b6); (have hz9 : w1.heap.size + 1 ≤ w3.heap.size := by (have h9 := r3.size; simp at h9; omega)); clear r1 r2 r3 b6)
  all_goals
    go_wp2
    refine bodyPost_ret (res_ct rfl _ _ (w.heap.size + 1 + 1) 60 zd (0, 0) _ rfl ?_ Try.underlying60 rfl (by kernel_rfl)) rfl ⟨⟨_, rfl⟩, ?_⟩
    · exact play_blk R6.out
    · exact play_end H.out (bl_drew HW.out) (by omega) (by simp; omega) R.out

theorem play_any {w : World} {b : Nat} {d : Dev} {g : Lay} (h : DevIs w b d g) (x : Act) (hx : x.Wf) (hk : x.k % 8 < 6) (hs : d.steps < 1099511627776) :
    Calls Try.prog 25 #[.pointer (some ⟨b, 0, none⟩), .agg #[.slice none 0 0, .int .i64 0, .int .i64 0, .int .i64 0], .agg #[.int .u8 x.k, .int .i64 x.W, .int .u64 x.X, .slice x.ca x.cl x.cc]] w
      fun e w' => (∃ v, e = .returned v) ∧ DevTo w w' b g (act d x) := by
  have k0 := hx.k0
  rcases (by omega : x.k % 8 < 3 ∨ x.k % 8 = 3 ∨ x.k % 8 = 4 ∨ x.k % 8 = 5) with c | c | c | c
  · rw [show act d x = d.stored x.W x.X from by simp [act, c]]
    exact play_store h x hx c hs
  · rw [show act d x = d.flushed (x.W.tdiv 8) from by simp [act, c]]
    exact play_flush8 h x hx c hs
  · rw [show act d x = d.fenced from by simp [act, c]]
    exact play_fence h x hx c hs
  · rw [show act d x = d.flushed x.W from by simp [act, c]]
    exact play_flush h x hx c hs

end Go.Proofs.Ytlokklfkiechdaa.La
