/- What a word may hold; a new device. -/
import Derived.Test.YtlokklfkiechdaaPmJ
import Derived.Carry
set_option linter.unusedVariables false
set_option linter.unusedSimpArgs false
set_option maxHeartbeats 400000
namespace Go.Proofs.Ytlokklfkiechdaa.Pm
open Go Go.RowKit
open Go.ChangeMaps (setBlock)
open Go.Proofs.Ytlokklfkiechdaa.Ob Go.Proofs.Ytlokklfkiechdaa.Mp Go.Proofs.Ytlokklfkiechdaa.Dv Go.Proofs.Ytlokklfkiechdaa.Wl

theorem owns_base {w : World} {base base' : Nat} {e : TypeId} {size n : Nat} {v : Value} {xs : List Value} (h : w.ownsRow base e size v n xs) (hb : base' ≤ base) : w.ownsRow base' e size v n xs := by
  obtain ⟨h1, h2 | ⟨g, cap, cur, hv, hg, r⟩⟩ := h
  · exact ⟨h1, .inl h2⟩
  · exact ⟨h1, .inr ⟨g, cap, cur, hv, by omega, r⟩⟩

theorem owns_one (w : World) (T : TypeId) (v : Value) : (w.alloc (.cells #[v] T)).ownsRow w.heap.size T 1 (.slice (some ⟨w.heap.size, 0, none⟩) 1 1) 1 [v] :=
  ⟨rfl, .inr ⟨w.heap.size, 1, #[v], rfl, Nat.le_refl _, alloc_new _ _, Nat.le_refl _, by unfold maxLen; omega, rfl, rfl⟩⟩

theorem may_any {w : World} {b : Nat} {d : Dev} {g : Lay} (h : DevIs w b d g) (k : Int) :
    Calls Try.prog 26 #[.pointer (some ⟨b, 0, none⟩), .int .i64 k] w fun e w' => ∃ v, e = .returned v ∧ w'.ownsRow w.heap.size 26 1 v (d.may k).length (u64s (d.may k)) ∧ Below w.heap.size w w' := by
  obtain ⟨c0, c1, c2, c3, c4, c5⟩ := dev_cells h
  clear c0 c1 c4 c5
  have hc := in_any h k
  have hblt := lt_of h.blk
  cases hi : d.inn k with
  | false =>
    have e : d.may k = [] := by simp [Dev.may, hi]
    rw [e]
    rw [hi] at hc
    have HC := Lib.hid hc
    clear hc h hi e c2 c3
    go_enter Try.func26, Try.ntmps26
    go_wp2_with (go_at_call 35; refine HC.out.mono ?_; rintro e w' ⟨rfl, rfl⟩)
    go_ret
    exact ⟨_, rfl, ⟨rfl, .inl ⟨rfl, rfl⟩⟩, Below.refl _ _⟩
  | true =>
    obtain ⟨n, rfl, hn⟩ := inn_true hi
    have hv : (u64s d.las)[n]? = some (.int .u64 (d.las.getD n 0)) := by simp [u64s, hn]
    obtain ⟨q, off, cs, hA, -, hb, -, hcell, -⟩ := h.las.at_ hv
    have hlen := h.wf.len
    rw [hA] at c2
    rw [hi] at hc
    have HC := Lib.hid hc
    rcases find_split g.es (n : Int) with hno | ⟨pre, x, post, he, hxk, hp⟩
    · have e : d.may n = [d.las.getD n 0] := by simp [Dev.may, hi, find_of_none h.opn hno]
      rw [e]
      have hl := look_none h hno
      have hl' := look_none (h.keep (w' := w.alloc (.cells #[.int .u64 (d.las.getD n 0)] 26)) (fun k hk => Below.heap_alloc _ _ _ (h.lt k hk))) hno
      clear hc h hi e hA hv hb hno
      generalize d.las.getD n 0 = v at *
      go_enter Try.func26, Try.ntmps26
      go_wp2_with (go_at_call 35; refine HC.out.mono ?_; rintro e w' ⟨rfl, rfl⟩)
      go_ret
      exact ⟨_, rfl, owns_one _ _ _, (Below.refl _ _).alloc (Nat.le_refl _) _⟩
    · have hlk := find_of_some h.opn he (by rw [hxk]; exact hp)
      rw [hxk] at hlk
      have e : d.may n = d.las.getD n 0 :: x.pen.l := by simp [Dev.may, hi, hlk]
      have hxm : x ∈ g.es := by rw [he]; simp
      have hne : x.pen.l ≠ [] := h.wf.ne (x.key, x.pen) (by rw [h.opn]; exact List.mem_map.2 ⟨x, hxm, rfl⟩)
      have hpos : 0 < x.pen.l.length := List.length_pos_iff.2 hne
      have hpl := pen_len h hxm
      rw [e]
      have h' := h.keep (w' := w.alloc (.cells #[.int .u64 (d.las.getD n 0)] 26)) (fun k hk => Below.heap_alloc _ _ _ (h.lt k hk))
      have hl' := look_some h' he (by rw [hxk]; exact hp)
      rw [hxk] at hl'
      obtain ⟨p0, p1, f0, f1, po, ps, pc⟩ := ent_facts (h'.ents x hxm)
      have PO := Lib.hid po
      clear hc h h' hi e hA hv hb hp he hlk p1 f0 f1 ps po hne
      generalize d.las.getD n 0 = v at *
      go_enter Try.func26, Try.ntmps26
      go_wp2_with (first | (go_at_call 35; refine HC.out.mono ?_; rintro e w' ⟨rfl, rfl⟩) |
        (at_builtin; (obtain ⟨i0, i1, i2, i3, i4⟩ := info_parts info_u64); refine wpList_append_grows _ rfl _ _ 32 rfl 26 i0 (.int .u64 0) 1 8 Try.underlying32 i1 i2 i3 i4 rfl (by decide) (some ⟨w.heap.size, 0, none⟩) 1 1 [.int .u64 v] rfl (by simp) rfl (by intro b hb; simp only [Option.some.injEq] at hb; subst hb; exact one_cell _ _) ⟨x.q, x.off, none⟩ x.pen.l.length x.cap (u64s x.pen.l) rfl (by simp [u64s]) (by intro j u hj; rw [Addr.add_lit]; exact PO.out j u hj) (by intro u hu; simp only [u64s, List.mem_map] at hu; obtain ⟨z, _, rfl⟩ := hu; rfl) (by omega) (by unfold maxLen; omega) (by omega) ?_; intro v' w2 hown hg; (have HO := Lib.hid hown); (have HG := Lib.hid hg); clear hown hg))
      go_ret
      refine ⟨_, rfl, ?_, ((Below.refl _ _).alloc (Nat.le_refl _) _).trans ((Below.refl _ _).grown HG.out (by simp) (by simp))⟩
      have := owns_base HO.out (base' := w.heap.size) (by simp)
      rw [show x.pen.l.length + 1 = 1 + x.pen.l.length from by omega]
      exact this

/-- a new device's data -/
def newDev (n : Int) : Dev := ⟨0, 0, List.replicate (min (max 0 n) 4194304).toNat 0, [], none⟩

theorem newDev_wf (n : Int) : (newDev n).Wf := by
  refine ⟨?_, by simp [newDev], by simp [newDev], by simp [newDev], by simp [newDev], by simp [newDev], by simp [newDev], by simp [newDev], by simp [newDev], by simp [newDev]⟩
  simp only [newDev, List.length_replicate]
  omega

theorem new_dev {w W : World} {n : Int} {m : Nat} (hm : (min (max 0 n) 4194304).toNat = m) {o1 o2 o3 : Obj} (h1 : o1 = .cells ((Array.replicate m (.int .u64 0))) 26 (0, 0)) (h2 : o2 = .map #[] 0)
    (h3 : o3 = .cells #[.int .i64 0, .int .i64 0, .slice (some ⟨w.heap.size, 0, none⟩) m m, .map (some (w.heap.size + 1)), .bool false, .int .i64 0] 75 (0, 0)) (hW : W = ((w.alloc o1).alloc o2).alloc o3) :
    ∃ g, DevIs W (w.heap.size + 2) (newDev n) g ∧ (∀ k ∈ g.foot (w.heap.size + 2), w.heap.size ≤ k) ∧ Below w.heap.size w W := by
  subst h1 h2 h3 hW
  have hlen : (newDev n).las.length = m := by simp [newDev, hm]
  have hlas : u64s (newDev n).las = List.replicate m (.int .u64 0) := by simp [newDev, u64s, hm]
  have b1 : (w.alloc (.cells ((Array.replicate m (.int .u64 0))) 26 (0, 0))).heap[w.heap.size]? = some (.cells ((Array.replicate m (.int .u64 0))) 26 (0, 0)) := alloc_new _ _
  have b2 := alloc_new (w.alloc (.cells ((Array.replicate m (.int .u64 0))) 26 (0, 0))) (.map #[] 0)
  have b3 := alloc_new ((w.alloc (.cells ((Array.replicate m (.int .u64 0))) 26 (0, 0))).alloc (.map #[] 0)) (.cells #[.int .i64 0, .int .i64 0, .slice (some ⟨w.heap.size, 0, none⟩) m m, .map (some (w.heap.size + 1)), .bool false, .int .i64 0] 75 (0, 0))
  simp only [World.size_alloc] at b2 b3
  refine ⟨⟨some ⟨w.heap.size, 0, none⟩, m, [w.heap.size], w.heap.size + 1, 0, []⟩, ⟨?_, ?_, ?_, by simp, rfl, ?_, by simp, by simp, newDev_wf n⟩, ?_, ?_⟩
  · rw [b3]
    simp [cellsOf, hlen]
    simp [newDev]
  · rw [hlas]
    refine ⟨by simp, .inr ⟨w.heap.size, 0, _, rfl, rfl, alloc_old (alloc_old b1 _) _, by simp, fun j v hj => ?_⟩⟩
    rw [List.getElem?_replicate] at hj
    split at hj
    · cases hj
      rename_i hjm
      simp [hjm]
    · cases hj
  · exact alloc_old b2 _
  · simp [Lay.foot, Lay.ents]
  · intro k hk
    simp [Lay.foot, Lay.ents] at hk
    omega
  · exact (((Below.refl _ _).alloc (Nat.le_refl _) _).alloc (by simp) _).alloc (by simp; omega) _

/-- A device at a block of its own, from B on. -/
def DevNew (w w' : World) (v : Value) (d : Dev) : Prop := ∃ b g, v = .pointer (some ⟨b, 0, none⟩) ∧ DevIs w' b d g ∧ (∀ k ∈ g.foot b, w.heap.size ≤ k) ∧ Below w.heap.size w w'

set_option maxRecDepth 100000 in
theorem new_at (n c : Int) (m : Nat) (w : World) (hc : c = min (max 0 n) 4194304) (hm : c = m) :
    Calls Try.prog 11 #[.int .i64 n] w fun e w' => ∃ v, e = .returned v ∧ DevNew w w' v (newDev n) := by
  have hm9 : m ≤ 4194304 := by omega
  have HM : Hid ((min (max 0 n) 4194304).toNat = m) := by show (min (max 0 n) 4194304).toNat = m; omega
  have hh : (n ≤ 0 ∧ m = 0) ∨ (0 < n ∧ n < 4194304 ∧ m = n.toNat) ∨ (4194304 ≤ n ∧ m = 4194304) := by omega
  clear hc hm
  have hmm := @run_makeMap Try.prog
  rcases hh with ⟨h1, h2⟩ | ⟨h1, h3, h2⟩ | ⟨h1, h2⟩
  all_goals
    have HE := Lib.hid h2
    clear h2
    go_enter Try.func11, Try.ntmps11
    go_wp2_with (at_make; refine wpl_make rfl _ 32 26 rfl (.int .u64 0) 8 Try.underlying32 info_u64 rfl m .i64 _ rfl (by have := HE.out; omega) (by omega) (by omega) ?_)
    all_goals
      go_ret
      obtain ⟨g, d1, d2, d3⟩ := new_dev HM.out rfl rfl rfl rfl
      exact ⟨_, rfl, _, g, rfl, d1, d2, d3⟩

theorem new_any (n : Int) (w : World) :
    Calls Try.prog 11 #[.int .i64 n] w fun e w' => ∃ v, e = .returned v ∧ DevNew w w' v (newDev n) :=
  new_at n _ (min (max 0 n) 4194304).toNat w rfl (by omega)

end Go.Proofs.Ytlokklfkiechdaa.Pm
