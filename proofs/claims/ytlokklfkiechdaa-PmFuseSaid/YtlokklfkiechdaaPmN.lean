/- A device's open words as the library's contracts read them. -/
import Derived.Test.YtlokklfkiechdaaPmM
import Derived.Test.YtlokklfkiechdaaCp
import Derived.Test.YtlokklfkiechdaaShp
set_option linter.unusedVariables false
set_option linter.unusedSimpArgs false
set_option maxHeartbeats 400000
namespace Go.Proofs.Ytlokklfkiechdaa.Pm
open Go Go.RowKit
open Go.ChangeMaps (setBlock)
open Go.Proofs.Ytlokklfkiechdaa.Ob Go.Proofs.Ytlokklfkiechdaa.Mp Go.Proofs.Ytlokklfkiechdaa.Dv Go.Proofs.Ytlokklfkiechdaa.Wl

theorem nodup_len : ∀ (n : Nat) (l : List Int), l.Nodup → (∀ x ∈ l, 0 ≤ x ∧ x < n) → l.length ≤ n
  | 0, l, _, h => by
    cases l with
    | nil => simp
    | cons x l => have := h x (by simp); omega
  | n + 1, l, hn, h => by
    by_cases hm : (n : Int) ∈ l
    · have h1 := nodup_len n (l.erase (n : Int)) (hn.erase _) (fun x hx => by
        have h2 := h x (List.mem_of_mem_erase hx)
        have h3 : x ≠ (n : Int) := by
          intro e
          subst e
          exact (List.Nodup.mem_erase_iff hn).1 hx |>.1 rfl
        omega)
      rw [List.length_erase_of_mem hm] at h1
      omega
    · have := nodup_len n l hn (fun x hx => by
        have h2 := h x hx
        have h3 : x ≠ (n : Int) := fun e => hm (e ▸ hx)
        omega)
      omega

theorem opn_len {d : Dev} (h : d.Wf) : d.opn.length ≤ 4194304 := by
  have h1 := nodup_len d.las.length (d.opn.map (·.1)) h.keys (fun x hx => by
    simp only [List.mem_map] at hx
    obtain ⟨y, hy, rfl⟩ := hx
    exact ⟨h.lo y hy, h.hi y hy⟩)
  have := h.len
  rw [List.length_map] at h1
  omega

/-- the reader that looks at no value -/
def blind (v : Value) : Option (DataW Unit × List MemPlace) := some (.lit (.bool true), [])

theorem dev_owns {w : World} {b : Nat} {d : Dev} {g : Lay} (h : DevIs w b d g) : ∃ D : DataW Unit, w.ownsMap Try.prog 3 blind g.M g.es.length D ∧ (intKeys D).Perm (d.opn.map (·.1)) ∧ Maps.size D = g.es.length := by
  have hkey : ∀ x ∈ g.es, keyOf Try.prog 3 (.int .i64 x.key) = some (.int .i64 x.key) := by
    intro x hx
    have h1 : (x.key, x.pen) ∈ d.opn := by rw [h.opn]; exact List.mem_map.2 ⟨x, hx, rfl⟩
    have h2 := h.wf.lo _ h1
    have h3 := h.wf.hi _ h1
    have h4 := h.wf.len
    have hw : (Lit.int .i64 x.key).wf = true := by
      simp [Lit.wf, IntKind.min, IntKind.max, IntKind.bits, IntKind.signed]
      simp only at h2 h3
      omega
    simp [keyOf, Try.underlying3, mapKey, hw]
  have hrd : ∀ x ∈ g.es, Go.WideElems.rd (H := Unit) Try.prog 3 blind (ent (kInt .i64) x.en) = some (.int .i64 x.key, .lit (.bool true)) := by
    intro x hx
    exact Go.WideElems.rd_mk (R := blind) (yv := (.lit (.bool true), [])) (hkey x hx) rfl
  have hl := opn_len h.wf
  have hl2 : g.es.length = d.opn.length := by rw [h.opn, List.length_map]
  refine ⟨_, ⟨_, _, h.map, ⟨?_, ⟨?_, ?_, ?_⟩, ?_⟩, ?_, rfl⟩, ?_, ?_⟩
  · simp only [List.size_toArray, List.length_map]
    unfold maxLen
    omega
  · intro x hx
    simp only [List.mem_map] at hx
    obtain ⟨y, ⟨z, hz, rfl⟩, rfl⟩ := hx
    exact h.old z hz
  · simp only [List.map_map]
    exact h.bnd
  · simp only [List.map_map]
    have hk := h.wf.keys
    rw [h.opn, List.map_map] at hk
    have : (g.es.map ((fun x : MapEntry => x.key) ∘ ent (kInt .i64) ∘ Ent.en)) = (g.es.map fun x => x.key).map (Value.int .i64) := by
      rw [List.map_map]
      rfl
    rw [this]
    exact List.Pairwise.map _ (fun a b hab e => hab (by simpa using e)) hk
  · intro x hx
    simp only [List.mem_map] at hx
    obtain ⟨y, ⟨z, hz, rfl⟩, rfl⟩ := hx
    exact ⟨_, hrd z hz⟩
  · simp
  · refine ((Go.WideShapes.sorted_perm _).map _).trans ?_
    rw [h.opn]
    simp only [List.map_map]
    refine List.Perm.of_eq (List.map_congr_left ?_)
    intro x hx
    have := Go.WideElems.rg_of (hrd x hx)
    simp only [Function.comp]
    rw [this]
    rfl
  · show (List.foldr DataW.insert [] _).length = _
    rw [length_sorted]
    simp

end Go.Proofs.Ytlokklfkiechdaa.Pm
