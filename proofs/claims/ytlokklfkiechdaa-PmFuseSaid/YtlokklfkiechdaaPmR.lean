/- slices.Clone at words. -/
import Derived.Test.YtlokklfkiechdaaPmL
set_option linter.unusedVariables false
set_option linter.unusedSimpArgs false
set_option maxHeartbeats 1000000
namespace Go.Proofs.Ytlokklfkiechdaa.Pm
open Go Go.RowKit
open Go.ChangeMaps (setBlock)
open Go.Proofs.Ytlokklfkiechdaa.Ob Go.Proofs.Ytlokklfkiechdaa.Mp Go.Proofs.Ytlokklfkiechdaa.Dv Go.Proofs.Ytlokklfkiechdaa.Wl

/-- the slice (A, n) reads as these words -/
def Rd (w : World) (A : Option Addr) (l : List Int) : Prop := ∀ (i : Nat) x, l[i]? = some x → ∃ a, A = some a ∧ a.block < w.heap.size ∧ w.cell? (a.add i) = some (.int .u64 x)

theorem sl_rd {w : World} {A : Option Addr} {c : Nat} {l : List Int} {qs : List Nat} (h : Sl w 26 A c (u64s l) qs) : Rd w A l := by
  intro i x hi
  obtain ⟨q, off, cs, rfl, -, hb, -, hc, -⟩ := h.at_ (i := i) (v := .int .u64 x) (by rw [u64s, List.getElem?_map, hi]; rfl)
  exact ⟨_, rfl, lt_of hb, by rw [Addr.add_lit]; exact hc⟩

theorem bl_al {w w1 : World} (h : Below w.heap.size w w1) (o : Obj) : Below w.heap.size w (w1.alloc o) := h.alloc h.size o
theorem own_kp {W W' : World} {B T n : Nat} {v : Value} {xs : List Value} (h : W.ownsRow B T 1 v n xs) (hk : ∀ k, B ≤ k → k < W.heap.size → W'.heap[k]? = W.heap[k]?) : W'.ownsRow B T 1 v n xs := by
  obtain ⟨h1, h2 | ⟨g, cap, cur, hv, hg, hb, r⟩⟩ := h
  · exact ⟨h1, .inl h2⟩
  · exact ⟨h1, .inr ⟨g, cap, cur, hv, hg, (hk g hg (lt_of hb)).trans hb, r⟩⟩
theorem add_block (a : Addr) (j : Nat) : (a.add j).block = a.block := by
  unfold Addr.add
  split <;> rfl
theorem own_lo {W : World} {B T n : Nat} {v : Value} {xs : List Value} (h : W.ownsRow B T 1 v n xs) : ∀ k, v.ownBlock = some k → B ≤ k := by
  obtain ⟨_, ⟨rfl, _⟩ | ⟨g, cap, cur, rfl, hg, _⟩⟩ := h
  · intro k hk; simp [Value.ownBlock] at hk
  · intro k hk; simp [Value.ownBlock] at hk; omega
theorem owns_nil (w : World) (B : Nat) (T : TypeId) (g : Nat) (hg : B ≤ g) (hb : w.heap[g]? = some (.cells #[] T (0, 0))) : w.ownsRow B T 1 (.slice (some ⟨g, 0, none⟩) 0 0) 0 [] := by
  exact ⟨rfl, .inr ⟨g, 0, #[], rfl, hg, hb, Nat.le_refl _, by unfold maxLen; omega, by simp, by simp⟩⟩

set_option maxRecDepth 100000 in
theorem clone_big {w : World} {A : Option Addr} {l : List Int} (h : Rd w A l) (c : Nat) (hl : l.length ≤ 1099511627776) (hA : A = none → l = [] ∧ c = 0) :
    Calls Try.prog 56 #[.slice A l.length c] w fun e w' => ∃ v, e = .returned v ∧ w'.ownsRow w.heap.size 26 1 v l.length (u64s l) ∧ Below w.heap.size w w' := by
  obtain ⟨i0, hinf, hz0, hz1, hz2⟩ := info_parts info_u64
  cases A with
  | none =>
    obtain ⟨rfl, rfl⟩ := hA rfl
    have he : ∀ w : World, (binOp .eql 32 (.slice none 0 0) (.slice none 0 0)).run Try.prog w = .ok (.bool true) w := fun _ => rfl
    go_enter Try.func56, Try.ntmps56
    go_wp2
    go_ret
    exact ⟨_, rfl, ⟨rfl, .inl ⟨rfl, rfl⟩⟩, Below.refl _ _⟩
  | some a =>
    have H := Lib.hid h
    clear h hA
    obtain ⟨n, hn⟩ : ∃ n, n = l.length := ⟨_, rfl⟩
    rw [← hn]
    rw [← hn] at hl
    have HN := Lib.hid hn
    clear hn
    have he : ∀ w : World, (binOp .eql 32 (.slice (some a) n c) (.slice none 0 0)).run Try.prog w = .ok (.bool false) w := fun _ => rfl
    go_enter Try.func56, Try.ntmps56
    have hcell : ∀ (j : Nat) u, (u64s l)[j]? = some u → (w.alloc (.cells #[] 26)).cell? (a.add j) = some u := by
      intro j u hj
      rw [u64s, List.getElem?_map, Option.map_eq_some_iff] at hj
      obtain ⟨x, hx, rfl⟩ := hj
      obtain ⟨a', e, h1, h2⟩ := H.out j x hx
      cases e
      rw [World.cell?_of_block (w := w) (a := a.add j) (Below.heap_alloc _ _ _ (by rw [add_block]; exact h1))]
      exact h2
    have HC := Lib.hid hcell
    have HO : Hid ((w.alloc (.cells #[] 26)).ownsRow w.heap.size 26 1 (.slice (some ⟨w.heap.size, 0, none⟩) 0 0) 0 []) := owns_nil _ _ _ _ (Nat.le_refl _) (alloc_new _ _)
    clear hcell
    go_wp2_with (at_builtin; refine wpList_append_own _ rfl (.tmp 5) (.tmp 6) 32 rfl w.heap.size 26 i0 (.int .u64 0) 1 8 Try.underlying32 hinf hz0 hz1 hz2 rfl (by decide) _ 0 [] rfl HO.out a n c (u64s l) rfl (by rw [u64s_length, ← HN.out]; omega) HC.out (by intro u hu; simp only [u64s, List.mem_map] at hu; obtain ⟨z, _, rfl⟩ := hu; rfl) (by unfold maxLen; omega) (by omega) (by simp) ?_; intro v' w2 hown hg _; (have HV := Lib.hid hown); (have HG := Lib.hid hg); clear hown hg)
    go_ret
    have hv := HV.out
    rw [Nat.zero_add, List.nil_append] at hv
    exact ⟨_, rfl, hv, ((Below.refl _ _).alloc (Nat.le_refl _) _).grown HG.out (by simp) (fun k hk => own_lo HO.out k hk)⟩

theorem clone_any {w : World} {A : Option Addr} {l : List Int} (h : Rd w A l) (c : Nat) (hl : l.length ≤ 4194304) (hA : A = none → l = [] ∧ c = 0) :
    Calls Try.prog 56 #[.slice A l.length c] w fun e w' => ∃ v, e = .returned v ∧ w'.ownsRow w.heap.size 26 1 v l.length (u64s l) ∧ Below w.heap.size w w' :=
  clone_big h c (by omega) hA
theorem cell_blk {w w' : World} {q : Nat} (h : w'.heap[q]? = w.heap[q]?) (o : Nat) : w'.cell? ⟨q, o, none⟩ = w.cell? ⟨q, o, none⟩ := by simp [World.cell?, h]

end Go.Proofs.Ytlokklfkiechdaa.Pm
