/- Parts of the proof, one behind the other: PmK, PmL, PmR, Bn, PmS, PmT, Eq, Bo. -/
import Derived.Test.YtgnagbbdnlmgeaaGreatC04
import Derived.Carry
import Derived.Test.YtgnagbbdnlmgeaaGreatC02
import Derived.RegionTactic
import Derived.ChangeAlike
import Derived.Deep.RegionHeld3

/- What a word may hold; a new device. -/
section
set_option linter.unusedVariables false
set_option linter.unusedSimpArgs false
set_option maxHeartbeats 400000
namespace Go.Proofs.YtgnagbbdnlmgeaaGreat.Pm
open Go Go.RowKit
open Go.ChangeMaps (setBlock)
open Go.Proofs.YtgnagbbdnlmgeaaGreat.Ob Go.Proofs.YtgnagbbdnlmgeaaGreat.Mp Go.Proofs.YtgnagbbdnlmgeaaGreat.Dv Go.Proofs.YtgnagbbdnlmgeaaGreat.Wl

theorem owns_base {w : World} {base base' : Nat} {e : TypeId} {size n : Nat} {v : Value} {xs : List Value} (h : w.ownsRow base e size v n xs) (hb : base' ≤ base) : w.ownsRow base' e size v n xs := by
  obtain ⟨h1, h2 | ⟨g, cap, cur, hv, hg, r⟩⟩ := h
  · exact ⟨h1, .inl h2⟩
  · exact ⟨h1, .inr ⟨g, cap, cur, hv, by omega, r⟩⟩

theorem owns_one (w : World) (T : TypeId) (v : Value) : (w.alloc (.cells #[v] T)).ownsRow w.heap.size T 1 (.slice (some ⟨w.heap.size, 0, none⟩) 1 1) 1 [v] :=
  ⟨rfl, .inr ⟨w.heap.size, 1, #[v], rfl, Nat.le_refl _, alloc_new _ _, Nat.le_refl _, by unfold maxLen; omega, rfl, rfl⟩⟩

theorem may_any {w : World} {b : Nat} {d : Dev} {g : Lay} (h : DevIs w b d g) (k : Int) :
    Calls Tryz.prog 164 #[.pointer (some ⟨b, 0, none⟩), .int .i64 k] w fun e w' => ∃ v, e = .returned v ∧ w'.ownsRow w.heap.size 94 1 v (d.may k).length (u64s (d.may k)) ∧ Below w.heap.size w w' := by
  obtain ⟨c0, c1, c2, c3, c4, c5⟩ := dev_cells h
  clear c0 c1 c4 c5
  have hc := in_any h k
  have hblt := lt_of h.blk
  cases hi : d.inn k with
  | false =>
    have e : d.may k = [] := by simp [Dev.may, hi]
    rw [e]
    rw [hi] at hc
    have HC := Lib.hid hc
    clear hc h hi e c2 c3
    go_enter Tryz.func164, Tryz.ntmps164
    go_wp2_with (go_at_call 173; refine HC.out.mono ?_; rintro e w' ⟨rfl, rfl⟩)
    go_ret
    exact ⟨_, rfl, ⟨rfl, .inl ⟨rfl, rfl⟩⟩, Below.refl _ _⟩
  | true =>
    obtain ⟨n, rfl, hn⟩ := inn_true hi
    have hv : (u64s d.las)[n]? = some (.int .u64 (d.las.getD n 0)) := by simp [u64s, hn]
    obtain ⟨q, off, cs, hA, -, hb, -, hcell, -⟩ := h.las.at_ hv
    have hlen := h.wf.len
    rw [hA] at c2
    rw [hi] at hc
    have HC := Lib.hid hc
    rcases find_split g.es (n : Int) with hno | ⟨pre, x, post, he, hxk, hp⟩
    · have e : d.may n = [d.las.getD n 0] := by simp [Dev.may, hi, find_of_none h.opn hno]
      rw [e]
      have hl := look_none h hno
      have hl' := look_none (h.keep (w' := w.alloc (.cells #[.int .u64 (d.las.getD n 0)] 94)) (fun k hk => Below.heap_alloc _ _ _ (h.lt k hk))) hno
      clear hc h hi e hA hv hb hno
      generalize d.las.getD n 0 = v at *
      go_enter Tryz.func164, Tryz.ntmps164
      go_wp2_with (go_at_call 173; refine HC.out.mono ?_; rintro e w' ⟨rfl, rfl⟩)
      go_ret
      exact ⟨_, rfl, owns_one _ _ _, (Below.refl _ _).alloc (Nat.le_refl _) _⟩
    · have hlk := find_of_some h.opn he (by rw [hxk]; exact hp)
      rw [hxk] at hlk
      have e : d.may n = d.las.getD n 0 :: x.pen.l := by simp [Dev.may, hi, hlk]
      have hxm : x ∈ g.es := by rw [he]; simp
      have hne : x.pen.l ≠ [] := h.wf.ne (x.key, x.pen) (by rw [h.opn]; exact List.mem_map.2 ⟨x, hxm, rfl⟩)
      have hpos : 0 < x.pen.l.length := List.length_pos_iff.2 hne
      have hpl := pen_len h hxm
      rw [e]
      have h' := h.keep (w' := w.alloc (.cells #[.int .u64 (d.las.getD n 0)] 94)) (fun k hk => Below.heap_alloc _ _ _ (h.lt k hk))
      have hl' := look_some h' he (by rw [hxk]; exact hp)
      rw [hxk] at hl'
      obtain ⟨p0, p1, f0, f1, po, ps, pc⟩ := ent_facts (h'.ents x hxm)
      have PO := Lib.hid po
      clear hc h h' hi e hA hv hb hp he hlk p1 f0 f1 ps po hne
      generalize d.las.getD n 0 = v at *
      go_enter Tryz.func164, Tryz.ntmps164
      go_wp2_with (first | (go_at_call 173; refine HC.out.mono ?_; rintro e w' ⟨rfl, rfl⟩) |
        (at_builtin; (obtain ⟨i0, i1, i2, i3, i4⟩ := info_parts info_u64); refine wpList_append_grows _ rfl _ _ 22 rfl 94 i0 (.int .u64 0) 1 8 Tryz.underlying22 i1 i2 i3 i4 rfl (by decide) (some ⟨w.heap.size, 0, none⟩) 1 1 [.int .u64 v] rfl (by simp) rfl (by intro b hb; simp only [Option.some.injEq] at hb; subst hb; exact one_cell _ _) ⟨x.q, x.off, none⟩ x.pen.l.length x.cap (u64s x.pen.l) rfl (by simp [u64s]) (by intro j u hj; rw [Addr.add_lit]; exact PO.out j u hj) (by intro u hu; simp only [u64s, List.mem_map] at hu; obtain ⟨z, _, rfl⟩ := hu; rfl) (by omega) (by unfold maxLen; omega) (by omega) ?_; intro v' w2 hown hg; (have HO := Lib.hid hown); (have HG := Lib.hid hg); clear hown hg))
      go_ret
      refine ⟨_, rfl, ?_, ((Below.refl _ _).alloc (Nat.le_refl _) _).trans ((Below.refl _ _).grown HG.out (by simp) (by simp))⟩
      have := owns_base HO.out (base' := w.heap.size) (by simp)
      rw [show x.pen.l.length + 1 = 1 + x.pen.l.length from by omega]
      exact this

/-- a new device's data -/
def newDev (n : Int) : Dev := ⟨0, 0, List.replicate (min (max 0 n) 4194304).toNat 0, [], none⟩

theorem newDev_wf (n : Int) : (newDev n).Wf := by
  refine ⟨?_, by simp [newDev], by simp [newDev], by simp [newDev], by simp [newDev], by simp [newDev], by simp [newDev], by simp [newDev], by simp [newDev], by simp [newDev]⟩
  simp only [newDev, List.length_replicate]
  omega

theorem new_dev {w W : World} {n : Int} {m : Nat} (hm : (min (max 0 n) 4194304).toNat = m) {o1 o2 o3 : Obj} (h1 : o1 = .cells ((Array.replicate m (.int .u64 0))) 94 (0, 0)) (h2 : o2 = .map #[] 0)
    (h3 : o3 = .cells #[.int .i64 0, .int .i64 0, .slice (some ⟨w.heap.size, 0, none⟩) m m, .map (some (w.heap.size + 1)), .bool false, .int .i64 0] 146 (0, 0)) (hW : W = ((w.alloc o1).alloc o2).alloc o3) :
    ∃ g, DevIs W (w.heap.size + 2) (newDev n) g ∧ (∀ k ∈ g.foot (w.heap.size + 2), w.heap.size ≤ k) ∧ Below w.heap.size w W := by
  subst h1 h2 h3 hW
  have hlen : (newDev n).las.length = m := by simp [newDev, hm]
  have hlas : u64s (newDev n).las = List.replicate m (.int .u64 0) := by simp [newDev, u64s, hm]
  have b1 : (w.alloc (.cells ((Array.replicate m (.int .u64 0))) 94 (0, 0))).heap[w.heap.size]? = some (.cells ((Array.replicate m (.int .u64 0))) 94 (0, 0)) := alloc_new _ _
  have b2 := alloc_new (w.alloc (.cells ((Array.replicate m (.int .u64 0))) 94 (0, 0))) (.map #[] 0)
  have b3 := alloc_new ((w.alloc (.cells ((Array.replicate m (.int .u64 0))) 94 (0, 0))).alloc (.map #[] 0)) (.cells #[.int .i64 0, .int .i64 0, .slice (some ⟨w.heap.size, 0, none⟩) m m, .map (some (w.heap.size + 1)), .bool false, .int .i64 0] 146 (0, 0))
  simp only [World.size_alloc] at b2 b3
  refine ⟨⟨some ⟨w.heap.size, 0, none⟩, m, [w.heap.size], w.heap.size + 1, 0, []⟩, ⟨?_, ?_, ?_, by simp, rfl, ?_, by simp, by simp, newDev_wf n⟩, ?_, ?_⟩
  · rw [b3]
    simp [cellsOf, hlen]
    simp [newDev]
  · rw [hlas]
    refine ⟨by simp, .inr ⟨w.heap.size, 0, _, rfl, rfl, alloc_old (alloc_old b1 _) _, by simp, fun j v hj => ?_⟩⟩
    rw [List.getElem?_replicate] at hj
    split at hj
    · cases hj
      rename_i hjm
      simp [hjm]
    · cases hj
  · exact alloc_old b2 _
  · simp [Lay.foot, Lay.ents]
  · intro k hk
    simp [Lay.foot, Lay.ents] at hk
    omega
  · exact (((Below.refl _ _).alloc (Nat.le_refl _) _).alloc (by simp) _).alloc (by simp; omega) _

/-- A device at a block of its own, from B on. -/
def DevNew (w w' : World) (v : Value) (d : Dev) : Prop := ∃ b g, v = .pointer (some ⟨b, 0, none⟩) ∧ DevIs w' b d g ∧ (∀ k ∈ g.foot b, w.heap.size ≤ k) ∧ Below w.heap.size w w'

set_option maxRecDepth 100000 in
theorem new_at (n c : Int) (m : Nat) (w : World) (hc : c = min (max 0 n) 4194304) (hm : c = m) :
    Calls Tryz.prog 163 #[.int .i64 n] w fun e w' => ∃ v, e = .returned v ∧ DevNew w w' v (newDev n) := by
  have hm9 : m ≤ 4194304 := by omega
  have HM : Hid ((min (max 0 n) 4194304).toNat = m) := by show (min (max 0 n) 4194304).toNat = m; omega
  have hh : (n ≤ 0 ∧ m = 0) ∨ (0 < n ∧ n < 4194304 ∧ m = n.toNat) ∨ (4194304 ≤ n ∧ m = 4194304) := by omega
  clear hc hm
  have hmm := @run_makeMap Tryz.prog
  rcases hh with ⟨h1, h2⟩ | ⟨h1, h3, h2⟩ | ⟨h1, h2⟩
  all_goals
    have HE := Lib.hid h2
    clear h2
    go_enter Tryz.func163, Tryz.ntmps163
    go_wp2_with (at_make; refine wpl_make rfl _ 22 94 rfl (.int .u64 0) 8 Tryz.underlying22 info_u64 rfl m .i64 _ rfl (by have := HE.out; omega) (by omega) (by omega) ?_)
    all_goals
      go_ret
      obtain ⟨g, d1, d2, d3⟩ := new_dev HM.out rfl rfl rfl rfl
      exact ⟨_, rfl, _, g, rfl, d1, d2, d3⟩

theorem new_any (n : Int) (w : World) :
    Calls Tryz.prog 163 #[.int .i64 n] w fun e w' => ∃ v, e = .returned v ∧ DevNew w w' v (newDev n) :=
  new_at n _ (min (max 0 n) 4194304).toNat w rfl (by omega)

end Go.Proofs.YtgnagbbdnlmgeaaGreat.Pm
end

/- The first chapter's example lives. -/
section
set_option linter.unusedVariables false
set_option linter.unusedSimpArgs false
set_option maxHeartbeats 400000
namespace Go.Proofs.YtgnagbbdnlmgeaaGreat.Pm
open Go Go.RowKit
open Go.ChangeMaps (setBlock)
open Go.Proofs.YtgnagbbdnlmgeaaGreat.Ob Go.Proofs.YtgnagbbdnlmgeaaGreat.Mp Go.Proofs.YtgnagbbdnlmgeaaGreat.Dv Go.Proofs.YtgnagbbdnlmgeaaGreat.Wl

/-- A device that a call has made for itself, from block B on, in a world that is as w was below B. -/
structure Mine (w W : World) (b : Nat) (d : Dev) (g : Lay) : Prop where
  dev : DevIs W b d g
  own : ∀ k ∈ g.foot b, w.heap.size ≤ k
  below : Below w.heap.size w W

theorem Mine.to {w W W' : World} {b : Nat} {d d' : Dev} {g : Lay} (h : Mine w W b d g) (k : DevTo W W' b g d') : ∃ g', Mine w W' b d' g' := by
  obtain ⟨g', h1, h2, h3⟩ := k
  have hs := h.below.size
  refine ⟨g', h1, fun x hx => ?_, h.below.trans (h3.belowB hs h.own)⟩
  rcases h2 x hx with r | r
  · exact h.own x r
  · omega
theorem Mine.below_ {w W W' : World} {b : Nat} {d : Dev} {g : Lay} (h : Mine w W b d g) (k : Below W.heap.size W W') : Mine w W' b d g :=
  ⟨h.dev.below k, h.own, h.below.trans (k.mono h.below.size)⟩
theorem Mine.drewN {w W : World} {b : Nat} {d : Dev} {g : Lay} (h : Mine w W b d g) (n : Nat) : Mine w (W.drewN n) b d g :=
  ⟨h.dev.drewN n, h.own, ⟨h.below.os, h.below.tape, h.below.output, h.below.size, h.below.block⟩⟩

def ld0 : Dev := newDev 8
def ld1 : Dev := ld0.stored 0 5
def ld2 : Dev := ld1.stored 0 6
def ld3 : Dev := ld2.flushed 0
def ld4 : Dev := ld3.fenced

theorem ev0 : ld0.storeOk 0 = true := by decide
theorem ev1 : ld1.storeOk 0 = true := by decide
theorem ev2 : ld2.may 0 = [0, 5, 6] := by decide
theorem ev3 : ld2.load 0 = 6 := by decide
theorem ev4 : ld2.flushOk 0 = true := by decide
theorem ev5 : ld3.down = false := by decide
theorem ev6 : ld4.may 0 = [6] := by decide
theorem st0 : ld0.steps < 1099511627776 ∧ ld1.steps < 1099511627776 ∧ ld2.steps < 1099511627776 ∧ ld3.steps < 1099511627776 := by decide

set_option maxRecDepth 100000 in
theorem lives_any (w : World) : Calls Tryz.prog 126 #[] w fun e w' => e = .returned (.bool true) ∧ Below w.heap.size w w' := by
  go_enter Tryz.func126, Tryz.ntmps126
  go_wp2_with fail
  refine (new_any 8 _).mono ?_
  rintro e w1 ⟨_, rfl, b, g0, rfl, h1, h2, h3⟩
  have M0 := Lib.hid (Mine.mk h1 h2 h3)
  clear h1 h2 h3
  go_wp2_with fail
  have hs := store_any M0.out.dev 0 5 st0.1
  rw [show (newDev 8).storeOk 0 = true from ev0] at hs
  refine hs.mono ?_
  rintro e w2 ⟨rfl, hd⟩
  obtain ⟨g1, m1⟩ := M0.out.to hd
  have M1 := Lib.hid m1
  clear hs hd m1
  go_wp2_with fail
  have hs := store_any M1.out.dev 0 6 st0.2.1
  rw [show ((newDev 8).stored 0 5).storeOk 0 = true from ev1] at hs
  refine hs.mono ?_
  rintro e w3 ⟨rfl, hd⟩
  obtain ⟨g2, m2⟩ := M1.out.to hd
  have M2 : Hid (Mine w w3 b ld2 g2) := Lib.hid m2
  clear hs hd m2
  go_wp2_with fail
  refine (may_any M2.out.dev 0).mono ?_
  rintro e w4 ⟨v, rfl, ho, hb⟩
  obtain ⟨A, c, qs, rfl, hsl, -⟩ := Sl.of_own ho
  have M3 := Lib.hid (M2.out.below_ hb)
  have el : (ld2.may 0).length = 3 := by rw [ev2]; rfl
  rw [el]
  clear ho hb hsl el
  go_wp2_with fail
  have hl := load_any M3.out.dev 0
  rw [ev3] at hl
  refine hl.mono ?_
  rintro e w5 ⟨rfl, n5, rfl⟩
  have M5 := Lib.hid (M3.out.drewN n5)
  clear hl
  go_wp2_with fail
  have hs := flush_any M5.out.dev 0 st0.2.2.1
  rw [ev4] at hs
  refine hs.mono ?_
  rintro e w6 ⟨rfl, hd⟩
  obtain ⟨g6, m6⟩ := M5.out.to hd
  have M6 : Hid (Mine w w6 b ld3 g6) := Lib.hid m6
  clear hs hd m6
  go_wp2_with fail
  have hs := fence_any M6.out.dev st0.2.2.2
  rw [ev5] at hs
  refine hs.mono ?_
  rintro e w7 ⟨rfl, hd⟩
  obtain ⟨g7, m7⟩ := M6.out.to hd
  have M7 : Hid (Mine w w7 b ld4 g7) := Lib.hid m7
  clear hs hd m7
  go_wp2_with fail
  refine (may_any M7.out.dev 0).mono ?_
  rintro e w8 ⟨v, rfl, ho, hb⟩
  obtain ⟨A, c, qs, rfl, hsl, -⟩ := Sl.of_own ho
  have M8 := Lib.hid (M7.out.below_ hb)
  have el : (ld4.may 0).length = 1 := by rw [ev6]; rfl
  rw [el]
  clear ho hb hsl el
  go_wp2_with fail
  refine (may_any M8.out.dev 0).mono ?_
  rintro e w9 ⟨v, rfl, ho, hb⟩
  obtain ⟨A, c, qs, rfl, hsl, -⟩ := Sl.of_own ho
  have M9 := Lib.hid (M8.out.below_ hb)
  have el : (ld4.may 0).length = 1 := by rw [ev6]; rfl
  rw [el]
  rw [ev6] at hsl
  obtain ⟨q, off, cs, rfl, _, _, _, hcell, _⟩ := hsl.at_ (i := 0) (v := .int .u64 6) rfl
  have hcell' : w9.cell? ⟨q, off, none⟩ = some (.int .u64 6) := hcell
  clear ho hb hsl el hcell
  go_wp2_with fail
  go_ret
  exact ⟨rfl, M9.out.below⟩

end Go.Proofs.YtgnagbbdnlmgeaaGreat.Pm
end

/- slices.Clone at words. -/
section
set_option linter.unusedVariables false
set_option linter.unusedSimpArgs false
set_option maxHeartbeats 1000000
namespace Go.Proofs.YtgnagbbdnlmgeaaGreat.Pm
open Go Go.RowKit
open Go.ChangeMaps (setBlock)
open Go.Proofs.YtgnagbbdnlmgeaaGreat.Ob Go.Proofs.YtgnagbbdnlmgeaaGreat.Mp Go.Proofs.YtgnagbbdnlmgeaaGreat.Dv Go.Proofs.YtgnagbbdnlmgeaaGreat.Wl

/-- the slice (A, n) reads as these words -/
def Rd (w : World) (A : Option Addr) (l : List Int) : Prop := ∀ (i : Nat) x, l[i]? = some x → ∃ a, A = some a ∧ a.block < w.heap.size ∧ w.cell? (a.add i) = some (.int .u64 x)

theorem sl_rd {w : World} {A : Option Addr} {c : Nat} {l : List Int} {qs : List Nat} (h : Sl w 94 A c (u64s l) qs) : Rd w A l := by
  intro i x hi
  obtain ⟨q, off, cs, rfl, -, hb, -, hc, -⟩ := h.at_ (i := i) (v := .int .u64 x) (by rw [u64s, List.getElem?_map, hi]; rfl)
  exact ⟨_, rfl, lt_of hb, by rw [Addr.add_lit]; exact hc⟩

theorem bl_al {w w1 : World} (h : Below w.heap.size w w1) (o : Obj) : Below w.heap.size w (w1.alloc o) := h.alloc h.size o
theorem own_kp {W W' : World} {B T n : Nat} {v : Value} {xs : List Value} (h : W.ownsRow B T 1 v n xs) (hk : ∀ k, B ≤ k → k < W.heap.size → W'.heap[k]? = W.heap[k]?) : W'.ownsRow B T 1 v n xs := by
  obtain ⟨h1, h2 | ⟨g, cap, cur, hv, hg, hb, r⟩⟩ := h
  · exact ⟨h1, .inl h2⟩
  · exact ⟨h1, .inr ⟨g, cap, cur, hv, hg, (hk g hg (lt_of hb)).trans hb, r⟩⟩
theorem add_block (a : Addr) (j : Nat) : (a.add j).block = a.block := by
  unfold Addr.add
  split <;> rfl
theorem own_lo {W : World} {B T n : Nat} {v : Value} {xs : List Value} (h : W.ownsRow B T 1 v n xs) : ∀ k, v.ownBlock = some k → B ≤ k := by
  obtain ⟨_, ⟨rfl, _⟩ | ⟨g, cap, cur, rfl, hg, _⟩⟩ := h
  · intro k hk; simp [Value.ownBlock] at hk
  · intro k hk; simp [Value.ownBlock] at hk; omega
theorem owns_nil (w : World) (B : Nat) (T : TypeId) (g : Nat) (hg : B ≤ g) (hb : w.heap[g]? = some (.cells #[] T (0, 0))) : w.ownsRow B T 1 (.slice (some ⟨g, 0, none⟩) 0 0) 0 [] := by
  exact ⟨rfl, .inr ⟨g, 0, #[], rfl, hg, hb, Nat.le_refl _, by unfold maxLen; omega, by simp, by simp⟩⟩

set_option maxRecDepth 100000 in
theorem clone_big {w : World} {A : Option Addr} {l : List Int} (h : Rd w A l) (c : Nat) (hl : l.length ≤ 1099511627776) (hA : A = none → l = [] ∧ c = 0) :
    Calls Tryz.prog 75 #[.slice A l.length c] w fun e w' => ∃ v, e = .returned v ∧ w'.ownsRow w.heap.size 94 1 v l.length (u64s l) ∧ Below w.heap.size w w' := by
  obtain ⟨i0, hinf, hz0, hz1, hz2⟩ := info_parts info_u64
  cases A with
  | none =>
    obtain ⟨rfl, rfl⟩ := hA rfl
    have he : ∀ w : World, (binOp .eql 22 (.slice none 0 0) (.slice none 0 0)).run Tryz.prog w = .ok (.bool true) w := fun _ => rfl
    go_enter Tryz.func75, Tryz.ntmps75
    go_wp2
    go_ret
    exact ⟨_, rfl, ⟨rfl, .inl ⟨rfl, rfl⟩⟩, Below.refl _ _⟩
  | some a =>
    have H := Lib.hid h
    clear h hA
    obtain ⟨n, hn⟩ : ∃ n, n = l.length := ⟨_, rfl⟩
    rw [← hn]
    rw [← hn] at hl
    have HN := Lib.hid hn
    clear hn
    have he : ∀ w : World, (binOp .eql 22 (.slice (some a) n c) (.slice none 0 0)).run Tryz.prog w = .ok (.bool false) w := fun _ => rfl
    go_enter Tryz.func75, Tryz.ntmps75
    have hcell : ∀ (j : Nat) u, (u64s l)[j]? = some u → (w.alloc (.cells #[] 94)).cell? (a.add j) = some u := by
      intro j u hj
      rw [u64s, List.getElem?_map, Option.map_eq_some_iff] at hj
      obtain ⟨x, hx, rfl⟩ := hj
      obtain ⟨a', e, h1, h2⟩ := H.out j x hx
      cases e
      rw [World.cell?_of_block (w := w) (a := a.add j) (Below.heap_alloc _ _ _ (by rw [add_block]; exact h1))]
      exact h2
    have HC := Lib.hid hcell
    have HO : Hid ((w.alloc (.cells #[] 94)).ownsRow w.heap.size 94 1 (.slice (some ⟨w.heap.size, 0, none⟩) 0 0) 0 []) := owns_nil _ _ _ _ (Nat.le_refl _) (alloc_new _ _)
    clear hcell
    go_wp2_with (at_builtin; refine wpList_append_own _ rfl (.tmp 5) (.tmp 6) 22 rfl w.heap.size 94 i0 (.int .u64 0) 1 8 Tryz.underlying22 hinf hz0 hz1 hz2 rfl (by decide) _ 0 [] rfl HO.out a n c (u64s l) rfl (by rw [u64s_length, ← HN.out]; omega) HC.out (by intro u hu; simp only [u64s, List.mem_map] at hu; obtain ⟨z, _, rfl⟩ := hu; rfl) (by unfold maxLen; omega) (by omega) (by simp) ?_; intro v' w2 hown hg _; (have HV := Lib.hid hown); (have HG := Lib.hid hg); clear hown hg)
    go_ret
    have hv := HV.out
    rw [Nat.zero_add, List.nil_append] at hv
    exact ⟨_, rfl, hv, ((Below.refl _ _).alloc (Nat.le_refl _) _).grown HG.out (by simp) (fun k hk => own_lo HO.out k hk)⟩

theorem clone_any {w : World} {A : Option Addr} {l : List Int} (h : Rd w A l) (c : Nat) (hl : l.length ≤ 4194304) (hA : A = none → l = [] ∧ c = 0) :
    Calls Tryz.prog 75 #[.slice A l.length c] w fun e w' => ∃ v, e = .returned v ∧ w'.ownsRow w.heap.size 94 1 v l.length (u64s l) ∧ Below w.heap.size w w' :=
  clone_big h c (by omega) hA
theorem cell_blk {w w' : World} {q : Nat} (h : w'.heap[q]? = w.heap[q]?) (o : Nat) : w'.cell? ⟨q, o, none⟩ = w.cell? ⟨q, o, none⟩ := by simp [World.cell?, h]

end Go.Proofs.YtgnagbbdnlmgeaaGreat.Pm
end

/- package bitmap: New, Put, Words, Next. -/
section
set_option linter.unusedVariables false
set_option linter.unusedSimpArgs false
set_option maxHeartbeats 2000000
set_option maxRecDepth 100000
namespace Go.Proofs.YtgnagbbdnlmgeaaGreat.Bm
open Go Go.RowKit
open Go.Proofs.YtgnagbbdnlmgeaaGreat.Ob Go.Proofs.YtgnagbbdnlmgeaaGreat.Ba Go.Proofs.YtgnagbbdnlmgeaaGreat.Oc Go.Proofs.YtgnagbbdnlmgeaaGreat.Pk

theorem words_ (n : Nat) (hn : n ≤ 65534) (w : World) : Calls Tryz.prog 142 #[.int .i64 n] w fun e w' => e = .returned (.int .i64 ((n + 63) / 64 : Nat)) ∧ w' = w := by
  go_enter Tryz.func142, Tryz.ntmps142
  go_wp2_with fail
  go_ret
  refine ⟨?_, rfl⟩
  go_num

theorem new_ (n : Nat) (hn : n ≤ 65534) (w : World) : Calls Tryz.prog 109 #[.int .i64 n] w fun e w' => ∃ b, e = .returned (.pointer (some ⟨b, 0, none⟩)) ∧ Bm w' w.heap.size b n (List.replicate ((n + 63) / 64) 0) (some ⟨w.heap.size, 0, none⟩) ((n + 63) / 64) ∧ Below w.heap.size w w' := by
  have hu := Tryz.underlying182
  have hm : (n + 63) / 64 ≤ 1024 := by omega
  have hz : ivs .u64 (ints (List.replicate ((n + 63) / 64) 0)) = List.replicate ((n + 63) / 64) (.int .u64 0) := by simp [ivs, ints]
  have HFIN : Hid (Bm ((w.alloc (.cells (Array.replicate ((n + 63) / 64) (.int .u64 0)) 94)).alloc (.cells #[.int .i64 n, .slice (some ⟨w.heap.size, 0, none⟩) ((n + 63) / 64) ((n + 63) / 64)] 182)) w.heap.size (w.heap.size + 1) n (List.replicate ((n + 63) / 64) 0) (some ⟨w.heap.size, 0, none⟩) ((n + 63) / 64)) := by
    have h1 := alloc_new w (.cells (Array.replicate ((n + 63) / 64) (.int .u64 0)) 94)
    have h2 := alloc_new (w.alloc (.cells (Array.replicate ((n + 63) / 64) (.int .u64 0)) 94)) (.cells #[.int .i64 n, .slice (some ⟨w.heap.size, 0, none⟩) ((n + 63) / 64) ((n + 63) / 64)] 182)
    rw [World.size_alloc] at h2
    have h3 := alloc_old h1 (.cells #[.int .i64 n, .slice (some ⟨w.heap.size, 0, none⟩) ((n + 63) / 64) ((n + 63) / 64)] 182)
    refine ⟨by rw [List.length_replicate]; exact h2, ?_, by omega, ?_, by simp, ?_, hn⟩
    · rw [List.length_replicate]
      refine own_new (k := .u64) (l := ints (List.replicate ((n + 63) / 64) 0)) ?_ (Nat.le_refl _) (by rw [ints_length, List.length_replicate]) (by unfold maxLen; omega)
      rw [hz, List.toArray_replicate]
      exact h3
    · intro a ha
      cases ha
      simp
    · intro x hx
      rw [(List.mem_replicate.1 hx).2]
      decide
  clear hz
  rcases Nat.eq_zero_or_pos n with rfl | h0
  · have HW := Lib.hid (words_ 0 hn w)
    go_enter Tryz.func109, Tryz.ntmps109
    go_wp2_with fail
    refine HW.out.mono ?_
    rintro e w1 ⟨rfl, rfl⟩
    go_wp2_with (at_make; refine Go.Proofs.YtgnagbbdnlmgeaaGreat.Wl.wpl_make rfl _ 22 94 rfl (.int .u64 0) 8 Tryz.underlying22 info_u64 rfl 0 .i64 _ rfl rfl (by omega) (by omega) ?_)
    go_ret
    exact ⟨_, rfl, HFIN.out, bl_alloc (bl_alloc (Below.refl _ _) _) _⟩
  have HW := Lib.hid (words_ n hn w)
  by_cases h9 : n < 65534
  · generalize (n + 63) / 64 = m at *
    go_enter Tryz.func109, Tryz.ntmps109
    go_wp2_with fail
    refine HW.out.mono ?_
    rintro e w1 ⟨rfl, rfl⟩
    go_wp2_with (at_make; refine Go.Proofs.YtgnagbbdnlmgeaaGreat.Wl.wpl_make rfl _ 22 94 rfl (.int .u64 0) 8 Tryz.underlying22 info_u64 rfl m .i64 _ rfl rfl (by omega) (by omega) ?_)
    go_ret
    exact ⟨_, rfl, HFIN.out, bl_alloc (bl_alloc (Below.refl _ _) _) _⟩
  · obtain rfl : n = 65534 := by omega
    go_enter Tryz.func109, Tryz.ntmps109
    go_wp2_with fail
    refine HW.out.mono ?_
    rintro e w1 ⟨rfl, rfl⟩
    go_wp2_with (at_make; refine Go.Proofs.YtgnagbbdnlmgeaaGreat.Wl.wpl_make rfl _ 22 94 rfl (.int .u64 0) 8 Tryz.underlying22 info_u64 rfl 1024 .i64 _ rfl rfl (by omega) (by omega) ?_)
    go_ret
    exact ⟨_, rfl, HFIN.out, bl_alloc (bl_alloc (Below.refl _ _) _) _⟩

theorem put_ {W : World} {B b n : Nat} {l : List Nat} {A : Option Addr} {c : Nat} (h : Bm W B b n l A c) {D : Option Addr} {xs : List Int} (hxs : Rk .i64 W D xs) (hD : ∀ a a', D = some a → A = some a' → a'.block ≠ a.block) (cd : Nat) (hn : xs.length ≤ 1000000000) :
    Calls Tryz.prog 61 #[.pointer (some ⟨b, 0, none⟩), .slice D xs.length cd] W fun e w' => e = .returned (.int .i64 (turnL n false l xs).2) ∧ Bm w' B b n (turnL n false l xs).1 A c ∧ Only A W w' := by
  have HT := Lib.hid (turn_ h false hxs hD cd hn)
  generalize turnL n false l xs = r at *
  clear h hxs hD
  go_enter Tryz.func61, Tryz.ntmps61
  go_wp2_with fail
  refine HT.out.mono ?_
  rintro e w1 ⟨rfl, h1, h2⟩
  have H := Lib.hid (And.intro h1 h2)
  clear h1 h2
  go_wp2_with fail
  go_ret
  exact ⟨rfl, H.out.1, H.out.2⟩

theorem words_of {W : World} {B b n : Nat} {l : List Nat} {A : Option Addr} {c : Nat} (h : Bm W B b n l A c) :
    Calls Tryz.prog 98 #[.pointer (some ⟨b, 0, none⟩)] W fun e w' => ∃ v, e = .returned v ∧ w'.ownsRow W.heap.size 94 1 v l.length (ivs .u64 (ints l)) ∧ Below W.heap.size W w' := by
  have hu := Tryz.underlying182
  have k0 := cell_of h.box 0
  have k1 := cell_of h.box 1
  have hrk := own_rk (k := .u64) h.row
  have hcl := Pm.clone_big (show Pm.Rd W A (ints l) from hrk.1) c (by rw [ints_length]; have := h.len; have := h.le; omega) (by
    intro hA
    obtain ⟨h1, ⟨h2, h3⟩ | ⟨g, cap, cur, hv, hg, hb, hn, hm, hs, ht⟩⟩ := h.row
    · simp only [Value.slice.injEq] at h2
      refine ⟨?_, h2.2.2⟩
      have := h2.2.1
      rw [← ints_length] at this
      exact List.length_eq_zero_iff.1 this
    · rw [hA] at hv; cases hv)
  rw [ints_length] at hcl
  have HCL := Lib.hid hcl
  clear hcl hrk
  go_enter Tryz.func98, Tryz.ntmps98
  go_wp2_with fail
  refine HCL.out.mono ?_
  rintro e w1 ⟨v, rfl, h1, h2⟩
  have H := Lib.hid (And.intro h1 h2)
  clear h1 h2
  go_wp2_with fail
  go_ret
  exact ⟨_, rfl, H.out.1, H.out.2⟩

/-- the least one from i on -/
def NextIs (n : Nat) (l : List Nat) (i : Int) (used : Bool) (r : Int) : Prop :=
  (r = -1 ∧ ∀ j : Nat, i ≤ j → j < n → bget l j ≠ used) ∨ (∃ j : Nat, r = j ∧ i ≤ j ∧ j < n ∧ bget l j = used ∧ ∀ k : Nat, i ≤ k → k < j → bget l k ≠ used)

theorem next_ {W : World} {B b n : Nat} {l : List Nat} {A : Option Addr} {c : Nat} (h : Bm W B b n l A c) (i : Int) (used : Bool) : Calls Tryz.prog 116 #[.pointer (some ⟨b, 0, none⟩), .int .i64 i, .bool used] W fun e w' => ∃ r, e = .returned (.int .i64 r) ∧ NextIs n l i used r ∧ w' = W := by
  have hu := Tryz.underlying182
  have k0 := cell_of h.box 0
  have hn := h.le
  have H := Lib.hid h
  clear h
  go_enter Tryz.func116, Tryz.ntmps116
  go_wp2_with fail
  all_goals
    go_loop [7] (fun c7 => ∃ s : Int, c7 = .int .i64 s ∧ 0 ≤ s ∧ Hid (i ≤ s ∧ ∀ k : Nat, i ≤ k → (k : Int) < s → bget l k ≠ used)) (fun c7 => n - (intOf c7).toNat)
    case atStart =>
      first
        | exact ⟨i, rfl, by omega, Int.le_refl _, fun k h1 h2 => by omega⟩
        | exact ⟨0, rfl, Int.le_refl _, by omega, fun k h1 h2 => by omega⟩
    case round =>
      obtain ⟨s, rfl, hs, HR⟩ := hrel
      by_cases hlt : s < n
      · have HH := Lib.hid (has_ H.out s)
        have hbg : bhas n l s = bget l s.toNat := by unfold bhas; rw [decide_eq_true hs, decide_eq_true hlt]; rfl
        rw [hbg] at HH
        by_cases h3 : bget l s.toNat = used
        · have HF : Hid (NextIs n l i used s) := .inr ⟨s.toNat, by omega, by have := HR.out.1; omega, by omega, h3, fun k h1 h2 => HR.out.2 k h1 (by omega)⟩
          rw [h3] at HH
          clear h3 hbg
          go_wp2_with fail
          refine HH.out.mono ?_
          rintro e w5 ⟨rfl, rfl⟩
          go_wp2_with fail
          go_ret
          exact ⟨_, rfl, HF.out, rfl⟩
        · have HF : Hid (i ≤ s + 1 ∧ ∀ k : Nat, i ≤ k → (k : Int) < s + 1 → bget l k ≠ used) := by
            refine ⟨by have := HR.out.1; omega, fun k h1 h2 => ?_⟩
            by_cases hk : (k : Int) < s
            · exact HR.out.2 k h1 hk
            · have : k = s.toNat := by omega
              rw [this]; exact h3
          have e3 : (bget l s.toNat == used) = false := beq_eq_false_iff_ne.2 h3
          generalize bget l s.toNat = r at *
          clear h3 hbg
          go_wp2_with fail
          refine HH.out.mono ?_
          rintro e w5 ⟨rfl, rfl⟩
          go_wp2_with fail
          go_round
          case rel => exact ⟨s + 1, by go_num, by omega, HF⟩
          case measure => simp [intOf]; omega
      · have HF : Hid (NextIs n l i used (-1)) := .inl ⟨rfl, fun j h1 h2 => HR.out.2 j h1 (by omega)⟩
        go_wp2_with fail
        go_ret
        exact ⟨_, rfl, HF.out, rfl⟩

end Go.Proofs.YtgnagbbdnlmgeaaGreat.Bm
end

/- A device's words, as they are seen: plain, and what a round of the loop keeps. -/
section
set_option linter.unusedVariables false
set_option linter.unusedSimpArgs false
set_option maxHeartbeats 1000000
namespace Go.Proofs.YtgnagbbdnlmgeaaGreat.Pm
open Go Go.RowKit
open Go.ChangeMaps (setBlock)
open Go.Proofs.YtgnagbbdnlmgeaaGreat.Ob Go.Proofs.YtgnagbbdnlmgeaaGreat.Mp Go.Proofs.YtgnagbbdnlmgeaaGreat.Dv Go.Proofs.YtgnagbbdnlmgeaaGreat.Wl

def lastOf (p : Pen) : Int := p.l.getD (p.l.length - 1) 0
/-- what is seen of a device -/
def wordsOf (d : Dev) : List Int := d.las.mapIdx fun i x => match d.find (i : Int) with | some p => lastOf p | none => x
theorem wordsOf_length (d : Dev) : (wordsOf d).length = d.las.length := by simp [wordsOf]
theorem wordsOf_get (d : Dev) (i : Nat) (h : i < d.las.length) : (wordsOf d)[i]? = some (d.load (i : Int)) := by
  unfold wordsOf
  rw [List.getElem?_mapIdx, List.getElem?_eq_getElem h]
  simp only [Option.map_some, Option.some.injEq, Dev.load]
  cases d.find (i : Int) with
  | some p => rfl
  | none =>
    have : d.inn (i : Int) = true := by simp [Dev.inn, h]
    simp [Dev.lasting, this, h]
theorem wordsOf_eq (d : Dev) : wordsOf d = (List.range d.las.length).map fun i : Nat => d.load (i : Int) := by
  apply List.ext_getElem?
  intro i
  by_cases h : i < d.las.length
  · rw [wordsOf_get d i h, List.getElem?_map, List.getElem?_range h]; rfl
  · rw [List.getElem?_eq_none (by rw [wordsOf_length]; omega), List.getElem?_eq_none (by simp; omega)]

/-- .. when some entries have come -/
def wo (es : List Ent) (seen : Array Nat) (las : List Int) : List Int := las.mapIdx fun i x => match es.find? (fun y => decide (y.key = (i : Int))) with | some y => if y.born ∈ seen then lastOf y.pen else x | none => x

theorem wo_length (es : List Ent) (seen : Array Nat) (las : List Int) : (wo es seen las).length = las.length := by simp [wo]
theorem find_ents {d : Dev} {g : Lay} (ho : d.opn = g.es.map fun x => (x.key, x.pen)) (k : Int) : d.find k = (g.es.find? fun y => decide (y.key = k)).map (·.pen) := by
  unfold Dev.find
  rw [ho, List.find?_map, Option.map_map]
  rfl
theorem wo_start (es : List Ent) (las : List Int) : wo es #[] las = las := by
  unfold wo
  apply List.ext_getElem?
  intro i
  rw [List.getElem?_mapIdx]
  cases las[i]? with
  | none => rfl
  | some x =>
    simp only [Option.map_some, Option.some.injEq]
    cases es.find? (fun y => decide (y.key = (i : Int))) <;> simp
theorem wo_end {d : Dev} {g : Lay} {seen : Array Nat} (ho : d.opn = g.es.map fun x => (x.key, x.pen)) (h : ∀ y ∈ g.es, y.born ∈ seen) : wo g.es seen d.las = wordsOf d := by
  unfold wo wordsOf
  apply List.ext_getElem?
  intro i
  rw [List.getElem?_mapIdx, List.getElem?_mapIdx]
  cases d.las[i]? with
  | none => rfl
  | some x =>
    simp only [Option.map_some, Option.some.injEq]
    rw [find_ents ho]
    cases hf : g.es.find? (fun y => decide (y.key = (i : Int))) with
    | none => rfl
    | some y => simp [h y (List.mem_of_find?_eq_some hf)]
theorem inj_born {es : List Ent} (hb : (es.map (·.born)).Nodup) {x y : Ent} (hx : x ∈ es) (hy : y ∈ es) (e : x.born = y.born) : x = y := by
  induction es with
  | nil => simp at hx
  | cons z es ih =>
    simp only [List.map_cons, List.nodup_cons, List.mem_map, not_exists, not_and] at hb
    rcases List.mem_cons.1 hx with h1 | h1 <;> rcases List.mem_cons.1 hy with h2 | h2
    · rw [h1, h2]
    · subst h1; exact absurd e.symm (hb.1 y h2)
    · subst h2; exact absurd e (hb.1 x h1)
    · exact ih hb.2 h1 h2
theorem wo_step {es pre post : List Ent} {y : Ent} {seen : Array Nat} {las : List Int} {n : Nat} (he : es = pre ++ y :: post) (hk : (es.map (·.key)).Nodup) (hb : (es.map (·.born)).Nodup) (hn : y.key = (n : Int)) (hl : n < las.length) :
    wo es (seen.push y.born) las = (wo es seen las).set n (lastOf y.pen) := by
  apply List.ext_getElem?
  intro i
  rw [List.getElem?_set, wo_length]
  unfold wo
  rw [List.getElem?_mapIdx, List.getElem?_mapIdx]
  have hfy : es.find? (fun z => decide (z.key = (n : Int))) = some y := by
    rw [he, List.find?_append]
    have : pre.find? (fun z => decide (z.key = (n : Int))) = none := by
      rw [List.find?_eq_none]
      intro z hz
      rw [he, List.map_append, List.map_cons] at hk
      have := (List.nodup_append.1 hk).2.2 z.key (List.mem_map.2 ⟨z, hz, rfl⟩) y.key (by simp)
      simp only [decide_eq_true_eq]
      rw [← hn]
      exact this
    rw [this]
    simp [hn]
  by_cases hi : n = i
  · subst hi
    rw [if_pos rfl, if_pos hl, List.getElem?_eq_getElem hl]
    simp [hfy]
  · rw [if_neg hi]
    cases las[i]? with
    | none => rfl
    | some x =>
      simp only [Option.map_some, Option.some.injEq]
      cases hf : es.find? (fun z => decide (z.key = (i : Int))) with
      | none => rfl
      | some z =>
        have hzk : z.key = (i : Int) := by simpa using List.find?_some hf
        have hzm := List.mem_of_find?_eq_some hf
        have hne : z.born ≠ y.born := by
          intro e
          have hym : y ∈ es := by rw [he]; simp
          have := inj_born hb hzm hym e
          subst this
          rw [hzk] at hn
          omega
        simp [hne]

/-- a cell of one's own row -/
theorem own_set {W : World} {B T n q c : Nat} {xs : List Value} (h : W.ownsRow B T 1 (.slice (some ⟨q, 0, none⟩) n c) n xs) {i : Nat} (hi : i < n) (u : Value) : (W.setCell ⟨q, i, none⟩ u).ownsRow B T 1 (.slice (some ⟨q, 0, none⟩) n c) n (xs.set i u) := by
  obtain ⟨h1, ⟨h2, _⟩ | ⟨g, cap, cur, hv, hg, hb, hn, hm, hs, ht⟩⟩ := h
  · cases h2
  · simp only [Value.slice.injEq, Option.some.injEq, Addr.mk.injEq, and_true, true_and] at hv
    obtain ⟨rfl, rfl⟩ := hv
    refine ⟨by rw [List.length_set]; exact h1, .inr ⟨q, c, cur.setIfInBounds i u, rfl, hg, set_same hb i u, hn, hm, by simpa using hs, ?_⟩⟩
    rw [← ht]
    simp [List.take_set]

end Go.Proofs.YtgnagbbdnlmgeaaGreat.Pm
end

/- A device's words, as they are seen: the call. -/
section
set_option linter.unusedVariables false
set_option linter.unusedSimpArgs false
set_option maxHeartbeats 1000000
namespace Go.Proofs.YtgnagbbdnlmgeaaGreat.Pm
open Go Go.RowKit
open Go.ChangeMaps (setBlock)
open Go.Proofs.YtgnagbbdnlmgeaaGreat.Ob Go.Proofs.YtgnagbbdnlmgeaaGreat.Mp Go.Proofs.YtgnagbbdnlmgeaaGreat.Dv Go.Proofs.YtgnagbbdnlmgeaaGreat.Wl

/-- where the loop stands -/
structure WoRel (w : World) (b : Nat) (d : Dev) (g : Lay) (v : Value) (r : Nat) (wr : World) (seen : Array Nat) : Prop where
  dev : DevIs wr b d g
  below : Below w.heap.size w wr
  it : wr.heap[r]? = some (.mapIter (some g.M) g.clock seen g.clock)
  own : wr.ownsRow w.heap.size 94 1 v d.las.length (u64s (wo g.es seen d.las))

theorem wo_turn {w wr W : World} {b : Nat} {d : Dev} {g : Lay} {r q c n : Nat} {seen : Array Nat} {pre post : List Ent} {y : Ent} (h : WoRel w b d g (.slice (some ⟨q, 0, none⟩) d.las.length c) r wr seen) (h0 : DevIs w b d g) (hr : w.heap.size ≤ r)
    (hW : Only r (.mapIter (some g.M) g.clock (seen.push y.born) g.clock) wr W) (he : g.es = pre ++ y :: post) (hns : y.born ∉ seen) (hn : y.key = (n : Int)) :
    WoRel w b d g (.slice (some ⟨q, 0, none⟩) d.las.length c) r (W.setCell ⟨q, n, none⟩ (.int .u64 (lastOf y.pen))) (seen.push y.born) ∧ (W.setCell ⟨q, n, none⟩ (.int .u64 (lastOf y.pen))).rangeLeft g.M r < wr.rangeLeft g.M r := by
  have hsz := h.below.size
  have hq : w.heap.size ≤ q := own_lo h.own q rfl
  have hrq : r ≠ q := by
    intro e
    subst e
    obtain ⟨_, ⟨h2, _⟩ | ⟨g', cap, cur, hv, hg, hb, _⟩⟩ := h.own
    · cases h2
    · simp only [Value.slice.injEq, Option.some.injEq, Addr.mk.injEq, and_true, true_and] at hv
      obtain ⟨rfl, rfl⟩ := hv
      rw [h.it] at hb
      cases hb
  have hfoot : ∀ k ∈ g.foot b, k < w.heap.size := h0.lt
  have hdW : DevIs W b d g := h.dev.keep (fun k hk => hW.far k (fun e => by have := hfoot k hk; omega))
  have hd2 : DevIs (W.setCell ⟨q, n, none⟩ (.int .u64 (lastOf y.pen))) b d g := hdW.keep (fun k hk => Below.heap_setCell _ _ _ _ (fun e => by have := hfoot k hk; simp at e; omega))
  have hk := h.dev.wf.keys
  rw [h.dev.opn, List.map_map] at hk
  have hym : (y.key, y.pen) ∈ d.opn := by rw [h.dev.opn, he]; simp
  have hnl : n < d.las.length := by have := h.dev.wf.hi _ hym; simp only at this; omega
  have hbW : Below w.heap.size w W := h.below.trans ((hW.upd [r] (by simp)).belowB hsz (by simp; omega))
  have hown : W.ownsRow w.heap.size 94 1 (.slice (some ⟨q, 0, none⟩) d.las.length c) d.las.length (u64s (wo g.es seen d.las)) := by
    obtain ⟨h1, ⟨h2, _⟩ | ⟨g', cap, cur, hv, hg, hb, rest⟩⟩ := h.own
    · cases h2
    · simp only [Value.slice.injEq, Option.some.injEq, Addr.mk.injEq, and_true, true_and] at hv
      obtain ⟨rfl, rfl⟩ := hv
      exact ⟨h1, .inr ⟨_, _, cur, rfl, hg, (hW.far _ (fun e => hrq e.symm)).trans hb, rest⟩⟩
  have hit := set_other hW.here (a := ⟨q, n, none⟩) hrq (.int .u64 (lastOf y.pen))
  refine ⟨⟨hd2, hbW.setCell hq _, hit, ?_⟩, ?_⟩
  · rw [wo_step he hk h.dev.bnd hn hnl, u64s, List.map_set]
    exact own_set hown hnl _
  · rw [left_eq h.it h.dev.map, left_eq hit hd2.map, he]
    exact left_lt (pre := pre.map Ent.en) (post := post.map Ent.en) (x := y.en) (by simp) hns [y.en] (by simp) (by simp)

theorem wo_cell {w wr W : World} {b : Nat} {d : Dev} {g : Lay} {r c n : Nat} {A : Option Addr} {seen : Array Nat} {ob : Obj} (h : WoRel w b d g (.slice A d.las.length c) r wr seen) (hW : Only r ob wr W) (hr : w.heap.size ≤ r) (hn : n < d.las.length) :
    ∃ q, A = some ⟨q, 0, none⟩ ∧ ∃ u, W.cell? ⟨q, n, none⟩ = some u ∧ W.frozen? ⟨q, n, none⟩ = false := by
  obtain ⟨h1, ⟨h2, h3⟩ | ⟨g', cap, cur, hv, hg, hb, hc, _, hs, ht⟩⟩ := h.own
  · omega
  · simp only [Value.slice.injEq, true_and] at hv
    obtain ⟨rfl, rfl⟩ := hv
    have hne : g' ≠ r := by
      intro e
      subst e
      have := h.it
      rw [hb] at this
      cases this
    have hb' := hW.blk hb hne
    exact ⟨g', rfl, cur[n]'(by omega), by rw [cell_of hb']; exact Array.getElem?_eq_getElem _, free_of hb' n⟩

theorem WoRel.drew {w wr : World} {b : Nat} {d : Dev} {g : Lay} {v : Value} {r : Nat} {seen : Array Nat} (h : WoRel w b d g v r wr seen) : WoRel w b d g v r wr.drew seen :=
  ⟨h.dev.keep (fun _ _ => rfl), ⟨h.below.os, h.below.tape, h.below.output, h.below.size, h.below.block⟩, h.it, h.own⟩

set_option maxRecDepth 100000 in
theorem words_any {w : World} {b : Nat} {d : Dev} {g : Lay} (h : DevIs w b d g) (hA : g.A = none → g.c = 0) :
    Calls Tryz.prog 18 #[.pointer (some ⟨b, 0, none⟩)] w fun e w' => ∃ v, e = .returned v ∧ w'.ownsRow w.heap.size 94 1 v d.las.length (u64s (wordsOf d)) ∧ Below w.heap.size w w' := by
  obtain ⟨c0, c1, c2, c3, c4, c5⟩ := dev_cells h
  have hblt := lt_of h.blk
  have hcl := clone_any (sl_rd h.las) g.c h.wf.len (fun e => by
    refine ⟨?_, hA e⟩
    obtain ⟨_, ⟨h1, _⟩ | ⟨q, off, cs, h1, _⟩⟩ := h.las
    · simpa [u64s] using h1
    · rw [e] at h1; cases h1)
  have H := Lib.hid h
  have HCL := Lib.hid hcl
  have hlen := h.wf.len
  clear h hcl c0 c1 c4 c5 hA
  go_enter Tryz.func18, Tryz.ntmps18
  go_wp2_with (first | (go_at_call 75; refine HCL.out.mono ?_; rintro e w1 ⟨v, rfl, ho, hb⟩; (obtain ⟨A1, c1, q1, rfl, -, -⟩ := Sl.of_own ho); (have HO := Lib.hid ho); (have HB := Lib.hid hb); (obtain ⟨d0, d1, d2, d3, d4, d5⟩ := dev_cells (H.out.below hb)); clear ho hb d0 d1 d2 d4 d5) |
    (at_range; refine wpl_range (kInt .i64) (g.es.map Ent.en) rfl _ _ rfl Tryz.underlying144 rfl (H.out.below HB.out).map ?_))
  go_frame
  go_loopw [17] (fun c wr => ∃ seen, Hid (WoRel w b d g (.slice A1 d.las.length c1) w1.heap.size wr seen)) (fun _ wr => wr.rangeLeft g.M w1.heap.size)
  case atStart =>
    refine ⟨#[], (H.out.below HB.out).keep (fun k hk => Below.heap_alloc _ _ _ ((H.out.below HB.out).lt k hk)), bl_al HB.out _, alloc_new _ _, ?_⟩
    rw [wo_start]
    exact own_kp HO.out (fun k _ hk => Below.heap_alloc _ _ _ hk)
  case round =>
    obtain ⟨seen, HR⟩ := hrel
    go_wp2_with (first | (at_next; refine wpl_next (kInt .i64) (g.es.map Ent.en) w1.heap.size seen rfl _ rfl rfl HR.out.it HR.out.dev.map (by simp only [List.mem_map]; rintro _ ⟨x, hx, rfl⟩; exact HR.out.dev.old x hx) (by rw [List.map_map]; exact HR.out.dev.bnd) ?_ ?_))
    · intro hall
      have HA := Lib.hid hall
      clear hall
      go_wp2_with fail
      go_ret
      have hall' : ∀ x ∈ g.es, x.born ∈ seen := HA.out
      have := HR.out.own
      rw [wo_end HR.out.dev.opn hall'] at this
      exact ⟨_, rfl, this, HR.out.below⟩
    · intro y hy hns W hW hen
      obtain ⟨pre, post, he⟩ := List.append_of_mem hy
      have hyo : (y.key, y.pen) ∈ d.opn := by rw [HR.out.dev.opn]; exact List.mem_map.2 ⟨y, hy, rfl⟩
      have hk0 := HR.out.dev.wf.lo _ hyo
      have hk1 := HR.out.dev.wf.hi _ hyo
      have hne : y.pen.l ≠ [] := HR.out.dev.wf.ne _ hyo
      simp only at hk0 hk1
      obtain ⟨n, hn⟩ : ∃ n : Nat, y.key = n := ⟨y.key.toNat, by omega⟩
      have hnl : n < d.las.length := by omega
      have hWd : DevIs W b d g := HR.out.dev.keep (fun k hk => hW.far k (fun e => by have := H.out.lt k hk; have := HB.out.size; omega))
      obtain ⟨p0, p1, q0, q1', po, ps, pc⟩ := ent_facts (hWd.ents y hy)
      have hpl := pen_len hWd hy
      have hpos : 0 < y.pen.l.length := List.length_pos_iff.2 hne
      have hv := po (y.pen.l.length - 1) (.int .u64 (lastOf y.pen)) (by rw [u64s, List.getElem?_map, List.getElem?_eq_getElem (by omega)]; simp [lastOf, List.getD_eq_getElem?_getD, List.getElem?_eq_getElem (show y.pen.l.length - 1 < y.pen.l.length by omega)])
      obtain ⟨q, rfl, u, hc, hf⟩ := wo_cell HR.out hW HB.out.size hnl
      have hen' : (Instr.entry (.pointer (some ⟨w1.heap.size, 0, none⟩))).run Tryz.prog W = .ok (.tuple #[.int .i64 n, .pointer (some ⟨y.p, 0, none⟩)]) W := by rw [← hn]; exact hen
      have HT := Lib.hid (wo_turn HR.out H.out HB.out.size hW he hns hn)
      clear hy hns hW hen he hyo hk0 hk1 hne hn hWd p1 q0 q1' po ps pc
      generalize lastOf y.pen = z at *
      generalize y.pen.l.length = m at *
      go_wp2_with fail
      go_region
      go_wp2
      go_roundw
      case rel => exact ⟨_, HT.out.1.drew⟩
      case measure => exact HT.out.2

end Go.Proofs.YtgnagbbdnlmgeaaGreat.Pm
end

/- Words compared. -/
section
set_option linter.unusedVariables false
set_option linter.unusedSimpArgs false
set_option maxHeartbeats 1000000
namespace Go.Proofs.YtgnagbbdnlmgeaaGreat.Pm
open Go Go.RowKit
open Go.ChangeMaps (setBlock)
open Go.Proofs.YtgnagbbdnlmgeaaGreat.Ob Go.Proofs.YtgnagbbdnlmgeaaGreat.Mp Go.Proofs.YtgnagbbdnlmgeaaGreat.Dv Go.Proofs.YtgnagbbdnlmgeaaGreat.Wl

theorem Rd.drewN {w : World} {A : Option Addr} {l : List Int} (h : Rd w A l) (n : Nat) : Rd (w.drewN n) A l := h
theorem bl_dn {w w1 : World} (h : Below w.heap.size w w1) (n : Nat) : Below w.heap.size w (w1.drewN n) := ⟨h.os, h.tape, h.output, h.size, h.block⟩
theorem drewN_two (w : World) (a b : Nat) : (w.drewN a).drewN b = w.drewN (a + b) := by simp [World.drewN, Nat.add_assoc]

theorem eq_step {l m : List Int} {i : Nat} {x y : Int} (hx : l[i]? = some x) (hy : m[i]? = some y) (h : l.take i = m.take i) (e : x = y) : l.take (i + 1) = m.take (i + 1) := by
  obtain ⟨h1, h2⟩ := List.getElem?_eq_some_iff.1 hx
  obtain ⟨h3, h4⟩ := List.getElem?_eq_some_iff.1 hy
  rw [List.take_succ_eq_append_getElem h1, List.take_succ_eq_append_getElem h3, h2, h4, h, e]

set_option maxRecDepth 100000 in
theorem equal_any {w : World} {A B : Option Addr} {l m : List Int} (h : Rd w A l) (k : Rd w B m) (c1 c2 : Nat) (hl : l.length ≤ 9223372036854775807) (hm : m.length ≤ 9223372036854775807) :
    Calls Tryz.prog 134 #[.slice A l.length c1, .slice B m.length c2] w fun e w' => e = .returned (.bool (decide (l = m))) ∧ ∃ n, w' = w.drewN n := by
  have H := Lib.hid h
  have K := Lib.hid k
  clear h k
  by_cases he : l.length = m.length
  · obtain ⟨n, hn⟩ : ∃ n, n = l.length := ⟨_, rfl⟩
    rw [← he, ← hn]
    rw [← hn] at hl
    have HN : Hid (n = l.length ∧ n = m.length) := ⟨hn, by rw [hn, he]⟩
    clear hn he hm
    go_enter Tryz.func134, Tryz.ntmps134
    go_wp2_with fail
    go_loopw [13] (fun c13 wr => ∃ i : Nat, i ≤ n ∧ c13 = .int .i64 i ∧ ∃ q, Hid (wr = w.drewN q ∧ l.take i = m.take i)) (fun c13 _ => n - (intOf c13).toNat)
    case atStart => exact ⟨0, Nat.zero_le _, rfl, 0, rfl, rfl⟩
    case round =>
      obtain ⟨i, hi, rfl, q, HR⟩ := hrel
      by_cases hlt : i < n
      · obtain ⟨x, hx⟩ : ∃ x, l[i]? = some x := ⟨_, List.getElem?_eq_getElem (by rw [← HN.out.1]; exact hlt)⟩
        obtain ⟨y, hy⟩ : ∃ y, m[i]? = some y := ⟨_, List.getElem?_eq_getElem (by rw [← HN.out.2]; exact hlt)⟩
        have hl2 : Rd wr A l := by rw [HR.out.1]; exact H.out.drewN q
        have hm2 : Rd wr B m := by rw [HR.out.1]; exact K.out.drewN q
        obtain ⟨a, rfl, -, ha⟩ := hl2 i x hx
        obtain ⟨b, rfl, -, hb⟩ := hm2 i y hy
        have HX := Lib.hid (And.intro hx hy)
        clear hx hy hl2 hm2
        by_cases hxy : x = y
        · have e1 : (x != y) = false := by simp [hxy]
          have EX := Lib.hid hxy
          clear hxy
          go_wp2
          go_quiet (fail)
          go_wp2
          go_roundw
          case rel => exact ⟨i + 1, by omega, by go_num, q + nq, by show _ ∧ _; rw [HR.out.1]; exact ⟨drewN_two _ _ _, eq_step HX.out.1 HX.out.2 HR.out.2 EX.out⟩⟩
          case measure => simp [intOf]; omega
        · have e1 : (x != y) = true := bne_iff_ne.2 hxy
          have EX := Lib.hid hxy
          clear hxy
          go_wp2
          go_quiet (fail)
          go_wp2
          go_ret
          have hd : decide (l = m) = false := by
            apply decide_eq_false
            rintro rfl
            have := HX.out.1.symm.trans HX.out.2
            simp at this
            exact EX.out this
          rw [hd]
          exact ⟨rfl, _, by rw [HR.out.1]; exact drewN_two _ _ _⟩
      · obtain rfl : i = n := by omega
        go_wp2
        go_ret
        have hd : decide (l = m) = true := by
          apply decide_eq_true
          have h1 := HR.out.2
          rw [List.take_of_length_le (by rw [← HN.out.1]; omega), List.take_of_length_le (by rw [← HN.out.2]; omega)] at h1
          exact h1
        rw [hd]
        exact ⟨rfl, q, HR.out.1⟩
  · have hd : decide (l = m) = false := by
      apply decide_eq_false
      intro e
      exact he (by rw [e])
    rw [hd]
    have e1 : ((l.length : Int) != (m.length : Int)) = true := by rw [bne_iff_ne]; omega
    clear hd he
    generalize l.length = x at *
    generalize m.length = y at *
    go_enter Tryz.func134, Tryz.ntmps134
    go_wp2
    go_ret
    exact ⟨rfl, 0, rfl⟩

end Go.Proofs.YtgnagbbdnlmgeaaGreat.Pm
end

/- package bitmap: Len, Of (one word), Same. -/
section
set_option linter.unusedVariables false
set_option linter.unusedSimpArgs false
set_option maxHeartbeats 2000000
set_option maxRecDepth 100000
namespace Go.Proofs.YtgnagbbdnlmgeaaGreat.Bm
open Go Go.RowKit
open Go.Proofs.YtgnagbbdnlmgeaaGreat.Ob Go.Proofs.YtgnagbbdnlmgeaaGreat.Ba Go.Proofs.YtgnagbbdnlmgeaaGreat.Oc Go.Proofs.YtgnagbbdnlmgeaaGreat.Pk

theorem len_ {W : World} {B b n : Nat} {l : List Nat} {A : Option Addr} {c : Nat} (h : Bm W B b n l A c) : Calls Tryz.prog 95 #[.pointer (some ⟨b, 0, none⟩)] W fun e w' => e = .returned (.int .i64 n) ∧ w' = W := by
  have hu := Tryz.underlying182
  have k0 := cell_of h.box 0
  clear h
  go_enter Tryz.func95, Tryz.ntmps95
  go_wp2
  go_ret
  exact ⟨rfl, rfl⟩

theorem own_blk' {W : World} {B T s n k : Nat} {v : Value} {xs : List Value} (h : W.ownsRow B T s v n xs) (hk : v.ownBlock = some k) : ∃ cur, W.heap[k]? = some (.cells cur T (0, 0)) := by
  obtain ⟨h1, ⟨rfl, _⟩ | ⟨g, cap, cur, rfl, hg, hb, r⟩⟩ := h
  · simp [Value.ownBlock] at hk
  · simp [Value.ownBlock] at hk
    subst hk
    exact ⟨_, hb⟩

/-- of one word: of n blocks, or none -/
theorem of_one {w : World} {A : Option Addr} {x : Nat} (h : Rk .u64 w A (ints [x])) (hx : x < 18446744073709551616) (c n : Nat) (h1 : 1 ≤ n) (h2 : n ≤ 63) :
    Calls Tryz.prog 89 #[.int .i64 n, .slice A 1 c] w fun e w' =>
      (x / 2 ^ n = 0 → ∃ b A' c', e = .returned (.tuple #[.pointer (some ⟨b, 0, none⟩), .int .i64 0]) ∧ Bm w' w.heap.size b n [x] A' c') ∧ (x / 2 ^ n ≠ 0 → e = .returned (.tuple #[.pointer none, .int .i64 2])) ∧ Below w.heap.size w w' := by
  have hu := Tryz.underlying182
  obtain ⟨a, rfl, ha0, ha⟩ := h 0 x rfl
  have ha : w.cell? a = some (.int .u64 x) := ha
  have hW : Hid (∀ W, Calls Tryz.prog 142 #[.int .i64 n] W fun e w' => e = .returned (.int .i64 1) ∧ w' = W) := fun W => by
    have := words_ n (by omega) W
    rw [show (n + 63) / 64 = 1 from by omega] at this
    exact this
  have hcl := Pm.clone_big (show Pm.Rd w (some a) (ints [x]) from h) c (by simp [ints]) (by intro h; cases h)
  rw [ints_length] at hcl
  have HCL := Lib.hid hcl
  have hmod : (n : Int) % 64 = n := by omega
  have hne : ((n : Int) != 0) = true := by rw [bne_iff_ne]; omega
  have hdv : (x : Int) / 2 ^ n = ((x / 2 ^ n : Nat) : Int) := by norm_cast
  clear hcl h
  by_cases hz : x / 2 ^ n = 0
  · have e0 : (((x / 2 ^ n : Nat) : Int) != 0) = false := by rw [hz]; rfl
    have HX : Hid (x / 2 ^ n = 0 ∧ x < 18446744073709551616) := ⟨hz, hx⟩
    generalize x / 2 ^ n = y at *
    clear hz
    go_enter Tryz.func89, Tryz.ntmps89
    go_wp2_with (first | (go_at_call 142; refine (hW.out _).mono ?_; rintro e w1 ⟨rfl, rfl⟩) |
      (go_at_call 75; refine (show Calls _ _ #[.slice (some a) 1 c] _ _ from HCL.out).mono ?_; rintro e w1 ⟨v, rfl, hown, hb⟩; (obtain ⟨A1, c1, rfl⟩ := own_slice hown); (have HO := Lib.hid hown); (have HB := Lib.hid hb); clear hown hb))
    go_ret2
    refine ⟨fun _ => ⟨_, A1, c1, rfl, ?_⟩, fun h => absurd HX.out.1 h, bl_alloc HB.out _⟩
    refine ⟨alloc_new w1 _, own_kp HO.out (fun k _ hk => Below.heap_alloc _ _ k hk), HB.out.size, ?_, by simp; omega, ?_, by omega⟩
    · intro p hp
      subst hp
      obtain ⟨cur, hc⟩ := own_blk' HO.out rfl
      exact Nat.ne_of_lt (lt_of hc)
    · intro z hz
      simp at hz
      subst hz
      exact HX.out.2
  · have e0 : (((x / 2 ^ n : Nat) : Int) != 0) = true := by rw [bne_iff_ne]; omega
    have HX : Hid (x / 2 ^ n ≠ 0) := hz
    generalize x / 2 ^ n = y at *
    clear hz
    go_enter Tryz.func89, Tryz.ntmps89
    go_wp2_with (go_at_call 142; refine (hW.out _).mono ?_; rintro e w1 ⟨rfl, rfl⟩)
    go_ret2
    exact ⟨fun h => absurd h HX.out, fun _ => rfl, Below.refl _ _⟩

structure Bk (w W : World) : Prop where
  same : ∃ k, W = w.drewN k
end Go.Proofs.YtgnagbbdnlmgeaaGreat.Bm
end
