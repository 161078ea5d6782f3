/- A device's crash: what a round of its loop comes to. -/
import Derived.Test.YtlokklfkiechdaaPmO
set_option linter.unusedVariables false
set_option linter.unusedSimpArgs false
set_option maxHeartbeats 1000000
namespace Go.Proofs.Ytlokklfkiechdaa.Pm
open Go Go.RowKit
open Go.ChangeMaps (setBlock)
open Go.Proofs.Ytlokklfkiechdaa.Ob Go.Proofs.Ytlokklfkiechdaa.Mp Go.Proofs.Ytlokklfkiechdaa.Dv Go.Proofs.Ytlokklfkiechdaa.Wl Go.Proofs.Ytlokklfkiechdaa.Cp

/-- A law is tried at one builtin alone. -/
theorem gate_builtin {P : Program} {w : World} {ops : Array Oper} {rest : List Oper} {o : Oper} {a : Act} {Q : Exit → Act → World → Prop} {b : Builtin} {xs : Array Operand} {ts : Array TypeId} (_ho : o.op = .call { callee := .builtin b, args := xs, argTypes := ts }) (h : wpList P ops Q (o :: rest) a w) : wpList P ops Q (o :: rest) a w := h

/-- bytes, in blocks that are not of F -/
def Bts (w : World) (C : Option Addr) (cs : List Nat) (F : List Nat) : Prop := ∀ (i x : Nat), cs[i]? = some x → ∃ q off, C = some ⟨q, off, none⟩ ∧ q ∉ F ∧ q < w.heap.size ∧ w.cell? ⟨q, off + i, none⟩ = some (.int .u8 x) ∧ x < 256

theorem cell_block {w w' : World} {q : Nat} (h : w'.heap[q]? = w.heap[q]?) (o : Nat) : w'.cell? ⟨q, o, none⟩ = w.cell? ⟨q, o, none⟩ := by simp [World.cell?, h]

theorem Bts.upd {w w' : World} {C : Option Addr} {cs F G : List Nat} (h : Bts w C cs F) (hu : Upd G w w') (hG : ∀ x ∈ G, x ∈ F) : Bts w' C cs F := by
  intro i x hi
  obtain ⟨q, off, h1, h2, h3, h4, h5⟩ := h i x hi
  exact ⟨q, off, h1, h2, Nat.lt_of_lt_of_le h3 hu.size, by rw [cell_block (hu.block q h3 (fun e => h2 (hG q e)))]; exact h4, h5⟩

theorem keys_of_perm {d : Dev} {ss : List Int} (h : ss.Perm (d.opn.map (·.1))) : ss.mergeSort (fun x y => decide (x ≤ y)) = keysOf d := by
  have tr : ∀ a b c : Int, decide (a ≤ b) = true → decide (b ≤ c) = true → decide (a ≤ c) = true := by intro a b c; simp; omega
  have tt : ∀ a b : Int, (decide (a ≤ b) || decide (b ≤ a)) = true := by intro a b; simp; omega
  have h1 : List.Pairwise (fun a b : Int => decide (a ≤ b) = true) (ss.mergeSort fun x y => decide (x ≤ y)) := List.pairwise_mergeSort tr tt ss
  have h2 : List.Pairwise (fun a b : Int => decide (a ≤ b) = true) (keysOf d) := by unfold keysOf; exact List.pairwise_mergeSort tr tt _
  exact (((List.mergeSort_perm ss _).trans h).trans (List.mergeSort_perm _ _).symm).eq_of_pairwise (fun a b _ _ h1 h2 => by simp at h1 h2; omega) h1 h2

structure CrRel (b : Nat) (d : Dev) (g : Lay) (cs : List Nat) (A : Option Addr) (c : Nat) (qs : List Nat) (w2 wr : World) (i : Nat) : Prop where
  dev : ∃ las : List Int, DevIs wr b { d with las := las } g ∧ las.length = d.las.length ∧ (∀ k ∈ (keysOf d).drop i, las.getD k.toNat 0 = d.las.getD k.toNat 0) ∧ crashLas d cs ((keysOf d).drop i) i las = crashLas d cs (keysOf d) 0 d.las
  upd : Upd g.Ls w2 wr
  sl : Sl wr 3 A c ((keysOf d).map (Value.int .i64)) qs

theorem cr_start {b : Nat} {d : Dev} {g : Lay} {cs : List Nat} {A : Option Addr} {c : Nat} {qs : List Nat} {w2 : World} (h : DevIs w2 b d g) (hs : Sl w2 3 A c ((keysOf d).map (Value.int .i64)) qs) : CrRel b d g cs A c qs w2 w2 0 :=
  ⟨⟨d.las, h, rfl, fun _ _ => rfl, rfl⟩, Upd.refl _ _, hs⟩

theorem may_las {d : Dev} {las : List Int} {k : Int} (hl : las.length = d.las.length) (hk : las.getD k.toNat 0 = d.las.getD k.toNat 0) : Dev.may { d with las := las } k = d.may k := by
  have e1 : Dev.inn { d with las := las } k = d.inn k := by simp [Dev.inn, hl]
  have e2 : Dev.find { d with las := las } k = d.find k := rfl
  simp only [Dev.may, e1, e2, hk]

theorem key_facts {d : Dev} (h : d.Wf) {i : Nat} {k : Int} (hk : (keysOf d)[i]? = some k) : 0 ≤ k ∧ k < d.las.length ∧ d.inn k = true ∧ ∀ x ∈ (keysOf d).drop (i + 1), x.toNat ≠ k.toNat := by
  have hp := keys_perm d
  have lo : ∀ x ∈ keysOf d, 0 ≤ x ∧ x < d.las.length := fun x hx => by
    have := hp.mem_iff.1 hx
    simp only [List.mem_map] at this
    obtain ⟨y, hy, rfl⟩ := this
    exact ⟨h.lo y hy, h.hi y hy⟩
  have hm := List.mem_of_getElem? hk
  have h1 := lo k hm
  refine ⟨h1.1, h1.2, by simp [Dev.inn, h1.1, h1.2], fun x hx e => ?_⟩
  have hx0 := lo x (List.mem_of_mem_drop hx)
  have hnd : (keysOf d).Nodup := hp.nodup_iff.2 h.keys
  obtain ⟨hi, hk⟩ := List.getElem?_eq_some_iff.1 hk
  have e2 : x = k := by omega
  subst e2
  rw [← List.take_append_drop i (keysOf d), List.drop_eq_getElem_cons hi, hk] at hnd
  have := (List.nodup_append.1 hnd).2.1
  exact (List.nodup_cons.1 this).1 hx

theorem cr_turn {b : Nat} {d : Dev} {g : Lay} {cs : List Nat} {A : Option Addr} {c : Nat} {qs : List Nat} {w2 wr W : World} {i : Nat} {k : Int} (h : CrRel b d g cs A c qs w2 wr i) (hw : d.Wf) (hk : (keysOf d)[i]? = some k) (hq : ∀ q ∈ qs, q ∉ g.foot b)
    (hb : Below wr.heap.size wr W) {q off : Nat} (hA : g.A = some ⟨q, off, none⟩) (hL : g.Ls = [q]) : CrRel b d g cs A c qs w2 (W.setCell ⟨q, off + k.toNat, none⟩ (.int .u64 (crashW d cs i k))) (i + 1) := by
  obtain ⟨⟨las, h1, h2, h3, h4⟩, h5, h6⟩ := h
  obtain ⟨k0, k1, k2, k3⟩ := key_facts hw hk
  obtain ⟨hi, hk'⟩ := List.getElem?_eq_some_iff.1 hk
  have hd := dev_las (h1.below hb) (n := k.toNat) hA hL (by simp only; omega) (crashW d cs i k) (wf_las h1.wf _ _)
  have hdrop : (keysOf d).drop i = k :: (keysOf d).drop (i + 1) := by rw [List.drop_eq_getElem_cons hi, hk']
  have hqL : q ∈ g.foot b := by simp [Lay.foot, hL]
  refine ⟨⟨las.set k.toNat (crashW d cs i k), hd.1, by rw [List.length_set]; exact h2, fun x hx => ?_, ?_⟩, h5.trans ((Upd.of_below (F := g.Ls) hb).trans ((Upd.refl _ _).setCell (a := ⟨q, off + k.toNat, none⟩) (by simp [hL]) _) (fun x hx => .inl hx)) (fun x hx => .inl hx), ?_⟩
  · rw [List.getD_eq_getElem?_getD, List.getElem?_set_ne (fun e => k3 x hx e.symm), ← List.getD_eq_getElem?_getD]
    exact h3 x (by rw [hdrop]; exact List.mem_cons_of_mem _ hx)
  · rw [hdrop, crashLas] at h4
    exact h4
  · refine h6.keep fun x hx => ?_
    have hxq : x ≠ q := fun e => hq x hx (e ▸ hqL)
    have hlt : x < wr.heap.size := by
      obtain ⟨_, ⟨_, hn⟩ | ⟨q', o', cs', _, hqs, hb', _⟩⟩ := h6
      · rw [hn] at hx; simp at hx
      · rw [hqs] at hx; simp at hx; subst hx; exact lt_of hb'
    rw [Below.heap_setCell W _ _ x hxq]
    exact hb.block x hlt

end Go.Proofs.Ytlokklfkiechdaa.Pm
