/- A device's copy: the call. -/
import Derived.Test.YtlokklfkiechdaaPmV
import Derived.Deep.RegionHeld3
import Derived.Deep.RegionWith
set_option linter.unusedVariables false
set_option linter.unusedSimpArgs false
set_option maxHeartbeats 10000000
namespace Go.Proofs.Ytlokklfkiechdaa.Pm
open Go Go.RowKit
open Go.ChangeMaps (setBlock)
open Go.Proofs.Ytlokklfkiechdaa.Ob Go.Proofs.Ytlokklfkiechdaa.Mp Go.Proofs.Ytlokklfkiechdaa.Dv Go.Proofs.Ytlokklfkiechdaa.Wl

theorem own_base {w : World} {B B' T n : Nat} {v : Value} {xs : List Value} (h : w.ownsRow B' T 1 v n xs) (hB : B ≤ B') : w.ownsRow B T 1 v n xs := by
  obtain ⟨h1, h2 | ⟨g, cap, cur, hv, hg, r⟩⟩ := h
  · exact ⟨h1, .inl h2⟩
  · exact ⟨h1, .inr ⟨g, cap, cur, hv, by omega, r⟩⟩

set_option maxRecDepth 100000 in
theorem copy_any {w : World} {b : Nat} {d : Dev} {g : Lay} (h : DevIs w b d g) (hA : g.A = none → g.c = 0) :
    Calls Try.prog 32 #[.pointer (some ⟨b, 0, none⟩)] w fun e w' => ∃ b' g' d', e = .returned (.pointer (some ⟨b', 0, none⟩)) ∧ DevIs w' b' d' g' ∧ (∀ k ∈ g'.foot b', w.heap.size ≤ k) ∧ Below w.heap.size w w' ∧ Like d d' := by
  obtain ⟨c0, c1, c2, c3, c4, c5⟩ := dev_cells h
  have hblt := lt_of h.blk
  have hcl : Hid (∀ W, DevIs W b d g → Calls Try.prog 56 #[.slice g.A d.las.length g.c] W fun e w' => ∃ v, e = .returned v ∧ w'.ownsRow W.heap.size 26 1 v d.las.length (u64s d.las) ∧ Below W.heap.size W w') := by
    intro W h
    refine clone_any (sl_rd h.las) g.c h.wf.len (fun e => ?_)
    refine ⟨?_, hA e⟩
    obtain ⟨_, ⟨h1, _⟩ | ⟨q, off, cs, h1, _⟩⟩ := h.las
    · simpa [u64s] using h1
    · rw [e] at h1; cases h1
  have H := Lib.hid h
  have hmm := @run_makeMap Try.prog
  have hcs : Cs w w b d g := ⟨h, Below.refl _ _⟩
  clear h hA
  go_enter Try.func32, Try.ntmps32
  go_wp2_with fail
  go_region_held3 (fun w' => w'.cell? ⟨b, 0, none⟩ = some (.int .i64 d.steps) ∧ w'.cell? ⟨b, 1, none⟩ = some (.int .i64 d.stores) ∧ w'.cell? ⟨b, 2, none⟩ = some (.slice g.A d.las.length g.c) ∧ w'.cell? ⟨b, 4, none⟩ = some (.bool d.fuse.isSome) ∧ w'.cell? ⟨b, 5, none⟩ = some (.int .i64 (d.fuse.getD 0)) ∧ Cs w w' b d g)
    (first | exact (Cs.drew hcs).all | exact (Cs.drew (cs_of ‹_›)).all | exact (Cs.alloc (cs_of ‹_›) _).all | exact (Cs.bel (cs_of ‹_›) ‹_›).all | (trace_state; fail))
    (first | (go_at_call 56; refine (hcl.out _ (Cs.dev (cs_of (w := w) ‹_›))).mono ?_; rintro e w1 ⟨v, rfl, ho, hb⟩; (obtain ⟨A1, k1, q1, rfl, -, -⟩ := Sl.of_own ho)))
  have hz := hb.size
  simp only [World.size_drew] at hz ho hb
  have hp : CoPre w ((w1.alloc (.map #[] 0)).alloc (.cells #[.int .i64 d.steps, .int .i64 d.stores, .slice A1 d.las.length k1, .map (some w1.heap.size), .bool d.fuse.isSome, .int .i64 (d.fuse.getD 0)] 75)) b d g w1.heap.size (w1.heap.size + 1) A1 k1 :=
    ⟨cs_of ‹_›, hz, by omega, alloc_old (alloc_new _ _) _, by have := alloc_new (w1.alloc (.map #[] 0)) (.cells #[.int .i64 d.steps, .int .i64 d.stores, .slice A1 d.las.length k1, .map (some w1.heap.size), .bool d.fuse.isSome, .int .i64 (d.fuse.getD 0)] 75); rw [World.size_alloc] at this; exact this, own_kp ho (fun k _ hk => (Below.heap_alloc _ _ _ (by simp; omega)).trans (Below.heap_alloc _ _ _ hk))⟩
  have HP := Lib.hid hp
  clear hp hz ho hb
  generalize (w1.alloc (.map #[] 0)).alloc (.cells #[.int .i64 d.steps, .int .i64 d.stores, .slice A1 d.las.length k1, .map (some w1.heap.size), .bool d.fuse.isSome, .int .i64 (d.fuse.getD 0)] 75) = W at *
  generalize w1.heap.size + 1 = bN at *
  generalize w1.heap.size = M at *
  rotate_left
  have hz := hb.size
  simp only [World.size_drew, World.size_alloc] at hz
  have hb2 : Below (w.alloc (.map #[] 0)).heap.size (w.alloc (.map #[] 0)) w1 := ⟨hb.os, hb.tape, hb.output, hb.size, hb.block⟩
  have ho2 : w1.ownsRow (w.heap.size + 1) 26 1 (.slice A1 d.las.length k1) d.las.length (u64s d.las) := by simpa using ho
  have hp : CoPre w (w1.alloc (.cells #[.int .i64 d.steps, .int .i64 d.stores, .slice A1 d.las.length k1, .map (some w.heap.size), .bool d.fuse.isSome, .int .i64 (d.fuse.getD 0)] 75)) b d g w.heap.size w1.heap.size A1 k1 :=
    ⟨cs_of ‹_›, Nat.le_refl _, by omega, alloc_old ((hb2.block _ (by simp)).trans (alloc_new _ _)) _, alloc_new _ _, own_base (own_kp ho2 (fun k _ hk => Below.heap_alloc _ _ _ hk)) (by omega)⟩
  have HP := Lib.hid hp
  clear hp hz ho hb hb2 ho2
  generalize w1.alloc (.cells #[.int .i64 d.steps, .int .i64 d.stores, .slice A1 d.las.length k1, .map (some w.heap.size), .bool d.fuse.isSome, .int .i64 (d.fuse.getD 0)] 75) = W at *
  generalize w1.heap.size = bN at *
  obtain ⟨M, hM⟩ : ∃ M, M = w.heap.size := ⟨_, rfl⟩
  all_goals
    have hdm := (HP.out.cs.dev).map
    have HDM := Lib.hid hdm
    have hc3 : W.cell? ⟨b, 3, none⟩ = some (.map (some g.M)) := (dev_cells HP.out.cs.dev).2.2.2.1
    clear hdm c0 c1 c2 c3 c4 c5 hcs
    go_wp2_with (first | (at_range; refine wpl_range (kInt .i64) (g.es.map Ent.en) rfl _ _ rfl Try.underlying71 rfl HDM.out ?_))
    go_frame
    go_loopw [32] (fun c wr => ∃ seen g' l', Hid (CoRel w b d g bN W.heap.size wr seen g' l')) (fun _ wr => wr.rangeLeft g.M W.heap.size)
    case atStart => exact ⟨#[], _, [], HP.out.start.choose_spec⟩
    case round =>
      obtain ⟨seen, g', l', HR⟩ := hrel
      go_wp2_with (first | (at_next; refine wpl_next (kInt .i64) (g.es.map Ent.en) W.heap.size seen rfl _ rfl rfl HR.out.it HR.out.src.map (by simp only [List.mem_map]; rintro _ ⟨x, hx, rfl⟩; exact HR.out.src.old x hx) (by rw [List.map_map]; exact HR.out.src.bnd) ?_ ?_))
      · intro hall
        have HA := Lib.hid hall
        clear hall
        go_wp2_with fail
        go_ret
        have hall' : ∀ x ∈ g.es, x.born ∈ seen := HA.out
        exact ⟨bN, g', _, rfl, HR.out.cpy, HR.out.new, HR.out.below, co_end HR.out hall'⟩
      · intro y hy hns W2 hW hen
        obtain ⟨pre, post, he⟩ := List.append_of_mem hy
        have hyo : (y.key, y.pen) ∈ d.opn := by rw [HR.out.src.opn]; exact List.mem_map.2 ⟨y, hy, rfl⟩
        have hk0 := HR.out.src.wf.lo _ hyo
        have hk1 := HR.out.src.wf.hi _ hyo
        have hlas := HR.out.src.wf.len
        have hne : y.pen.l ≠ [] := HR.out.src.wf.ne _ hyo
        simp only at hk0 hk1
        obtain ⟨n, hn⟩ : ∃ n : Nat, y.key = n := ⟨y.key.toNat, by omega⟩
        have hnl : n < d.las.length := by omega
        have hWd : DevIs W2 b d g := HR.out.src.keep (fun k hk => hW.far k (fun e => by have := H.out.lt k hk; have := HP.out.cs.below.size; omega))
        have hWc : DevIs W2 bN { d with opn := l' } g' := HR.out.cpy.keep (fun k hk => hW.far k (fun e => HR.out.far (e ▸ hk)))
        obtain ⟨p0, p1, q0, q1', po, ps, pc⟩ := ent_facts (hWd.ents y hy)
        have hpl := pen_len hWd hy
        have hcM : W2.cell? ⟨bN, 3, none⟩ = some (.map (some g'.M)) := (dev_cells hWc).2.2.2.1
        have hcl2 : Hid (∀ W' : World, (∀ k : Nat, W'.heap[k]? = W2.heap[k]?) → Calls Try.prog 56 #[.slice (some ⟨y.q, y.off, none⟩) y.pen.l.length y.cap] W' fun e w' => ∃ v, e = .returned v ∧ w'.ownsRow W'.heap.size 26 1 v y.pen.l.length (u64s y.pen.l) ∧ Below W'.heap.size W' w') := by
          intro W' hk
          refine clone_big (fun i x hx => ?_) y.cap hpl (by simp)
          have h1 := po i (.int .u64 x) (by rw [u64s, List.getElem?_map, hx]; rfl)
          refine ⟨_, rfl, ?_, ?_⟩
          · exact lt_of ((hk y.q).trans (hWd.ents y hy).2.choose_spec.1)
          · rw [Addr.add_lit, cell_blk (hk y.q)]; exact h1
        have hen' : (Instr.entry (.pointer (some ⟨W.heap.size, 0, none⟩))).run Try.prog W2 = .ok (.tuple #[.int .i64 n, .pointer (some ⟨y.p, 0, none⟩)]) W2 := by rw [← hn]; exact hen
        have HT := Lib.hid (fun (A1 : Option Addr) (k1 : Nat) (W4 W5 : World) => co_turn (W1 := W4) (W3 := W5) (A1 := A1) (k1 := k1) HR.out H.out HP.out.cs.below.size hW he hns)
        have HN := Lib.hid hn
        have HMM := Lib.hid hWc.map
        have HYP : Hid (y.p < W2.heap.size ∧ bN < W2.heap.size ∧ g'.M < W2.heap.size) := ⟨lt_of (hWd.ents y hy).1, hWc.lt bN (by simp [Lay.foot]), hWc.lt g'.M (by simp [Lay.foot])⟩
        have HKN : Hid (∀ x ∈ g'.es, x.key ≠ (n : Int)) := by
          intro x hx e
          have h1 : (x.key, x.pen) ∈ l' := by have := HR.out.cpy.opn; simp only at this; rw [this]; exact List.mem_map.2 ⟨x, hx, rfl⟩
          have h2 := HR.out.sub _ h1
          have h3 := pair_inj HR.out.src.wf.keys h2 hyo (by simp only; rw [e, hn])
          rw [h3] at h1
          exact hns ((HR.out.opn y hy).2 h1)
        clear hy hns hW hen he hyo hk0 hk1 hlas hne hn hWd hWc q0 q1' po ps pc
        go_wp2_with fail
        go_region_with (go_at_call 56; refine (hcl2.out _ ?hk).mono ?_; (case hk => exact fun _ => rfl); rintro e w5 ⟨v, rfl, ho, hb⟩; (obtain ⟨A5, k5, q5, rfl, -, -⟩ := Sl.of_own ho); (have hx0 := hb.block y.p HYP.out.1); (have hx1 := hb.block bN HYP.out.2.1); (have hx2 := hb.block g'.M HYP.out.2.2); (have z0 := (cell_blk hx0 0).trans p0); (have z1 := (cell_blk hx0 1).trans p1); (have z3 := (cell_blk hx1 3).trans hcM); (have hput : (Instr.mapUpdate 71 (.map (some g'.M)) (.int .i64 n) (.pointer (some ⟨w5.heap.size, 0, none⟩))).run Try.prog (w5.alloc (.cells #[.slice A5 y.pen.l.length k5, .int .i64 y.pen.fl] 78)) = .ok () _ := run_update_new (K := kInt .i64) (k := (n : Int)) Try.underlying71 Try.underlying3 (alloc_old (hx2.trans HMM.out) _) (by simp only [List.mem_map]; rintro _ ⟨x, hx, rfl⟩; exact HKN.out x hx)); (have l0 : y.p < w5.heap.size := Nat.lt_of_lt_of_le HYP.out.1 hb.size); (have l1 : bN < w5.heap.size := Nat.lt_of_lt_of_le HYP.out.2.1 hb.size); (have HO5 := Lib.hid ho); (have HB5 := Lib.hid hb); (have HM5 := Lib.hid (hx2.trans HMM.out)); clear ho hb hx0 hx1 hx2)
        all_goals
          have hz : (W2.drew).heap.size = W2.heap.size := rfl
          have HX := Lib.hid (HT.out A5 k5 w5 _ HO5.out ⟨HB5.out.os, HB5.out.tape, HB5.out.output, HB5.out.size, HB5.out.block⟩ (by rw [HN.out]; exact only_set (alloc_old HM5.out _) _))
          clear hput z0 z1 z3 p0 p1 hen' hz
          go_wp2
          go_roundw
          case rel => exact ⟨_, _, _, HX.out.1.choose_spec⟩
          case measure => exact HX.out.2

end Go.Proofs.Ytlokklfkiechdaa.Pm
