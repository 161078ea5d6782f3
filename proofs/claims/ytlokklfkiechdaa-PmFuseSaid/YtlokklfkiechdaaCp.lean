/- A device's crash: plain data. -/
import Derived.Test.YtlokklfkiechdaaDv
set_option linter.unusedVariables false
set_option linter.unusedSimpArgs false
namespace Go.Proofs.Ytlokklfkiechdaa.Cp
open Go Go.Proofs.Ytlokklfkiechdaa.Dv

/-- what word k holds behind a crash, if it is the i-th pending one -/
def crashW (d : Dev) (cs : List Nat) (i : Nat) (k : Int) : Int := (d.may k).getD (cs.getD i 0 % (d.may k).length) 0
def crashLas (d : Dev) (cs : List Nat) : List Int → Nat → List Int → List Int
  | [], _, las => las
  | k :: ks, i, las => crashLas d cs ks (i + 1) (las.set k.toNat (crashW d cs i k))
def keysOf (d : Dev) : List Int := (d.opn.map (·.1)).mergeSort (fun x y => decide (x ≤ y))
def crashed (d : Dev) (cs : List Nat) : Dev := { d with las := crashLas d cs (keysOf d) 0 d.las, opn := [], fuse := none }

theorem crashLas_length (d : Dev) (cs : List Nat) : ∀ (ks : List Int) (i : Nat) (las : List Int), (crashLas d cs ks i las).length = las.length
  | [], _, _ => rfl
  | k :: ks, i, las => by rw [crashLas, crashLas_length d cs ks, List.length_set]

/-- a word that is not pending stays -/
theorem crashLas_far (d : Dev) (cs : List Nat) (n : Nat) : ∀ (ks : List Int) (i : Nat) (las : List Int), (∀ k ∈ ks, k.toNat ≠ n) → (crashLas d cs ks i las).getD n 0 = las.getD n 0
  | [], _, _, _ => rfl
  | k :: ks, i, las, h => by
    rw [crashLas, crashLas_far d cs n ks _ _ (fun x hx => h x (by simp [hx]))]
    rw [List.getD_eq_getElem?_getD, List.getD_eq_getElem?_getD, List.getElem?_set_ne (h k (by simp))]

/-- a pending word holds one that it may hold -/
theorem crashLas_mem (d : Dev) (cs : List Nat) (n : Nat) (hn : (n : Int) = n) : ∀ (ks : List Int) (i : Nat) (las : List Int), ks.Nodup → (∀ k ∈ ks, 0 ≤ k) → n < las.length → (n : Int) ∈ ks → 0 < (d.may (n : Int)).length → (crashLas d cs ks i las).getD n 0 ∈ d.may (n : Int)
  | [], _, _, _, _, _, h, _ => by simp at h
  | k :: ks, i, las, hnd, h0, hl, hm, hp => by
    rw [List.nodup_cons] at hnd
    rw [crashLas]
    by_cases hk : k = (n : Int)
    · subst hk
      rw [crashLas_far d cs n ks _ _ (fun x hx e => hnd.1 (by
        have := h0 x (by simp [hx])
        have e2 : x = (n : Int) := by omega
        rw [← e2]; exact hx))]
      rw [Int.toNat_natCast, List.getD_eq_getElem?_getD, List.getElem?_set_self hl]
      unfold crashW
      have hlt := Nat.mod_lt (cs.getD i 0) hp
      rw [List.getD_eq_getElem?_getD, List.getElem?_eq_getElem hlt]
      exact List.getElem_mem _
    · refine crashLas_mem d cs n hn ks (i + 1) _ hnd.2 (fun x hx => h0 x (by simp [hx])) (by rw [List.length_set]; exact hl) ?_ hp
      rcases List.mem_cons.1 hm with e | e
      · exact absurd e.symm hk
      · exact e

theorem keys_perm (d : Dev) : (keysOf d).Perm (d.opn.map (·.1)) := List.mergeSort_perm _ _

theorem crashed_las (d : Dev) (h : d.Wf) (cs : List Nat) (n : Nat) (hn : n < d.las.length) : (crashed d cs).las.getD n 0 ∈ d.may (n : Int) := by
  have hp := keys_perm d
  have hnd : (keysOf d).Nodup := hp.nodup_iff.2 h.keys
  have h0 : ∀ k ∈ keysOf d, 0 ≤ k := by
    intro k hk
    have := hp.mem_iff.1 hk
    simp only [List.mem_map] at this
    obtain ⟨x, hx, rfl⟩ := this
    exact h.lo x hx
  have hinn : d.inn (n : Int) = true := by simp [Dev.inn, hn]
  have hm : d.may (n : Int) = d.las.getD n 0 :: ((d.find (n : Int)).map (·.l)).getD [] := by simp [Dev.may, hinn]
  by_cases hk : (n : Int) ∈ keysOf d
  · exact crashLas_mem d cs n rfl (keysOf d) 0 d.las hnd h0 hn hk (by rw [hm]; simp)
  · have : (crashed d cs).las.getD n 0 = d.las.getD n 0 := crashLas_far d cs n (keysOf d) 0 d.las (fun k hk2 e => hk (by
      have := h0 k hk2
      have e2 : k = (n : Int) := by omega
      rw [← e2]; exact hk2))
    rw [this, hm]
    simp

theorem crashed_len (d : Dev) (cs : List Nat) : (crashed d cs).las.length = d.las.length := crashLas_length d cs _ _ _
theorem crashed_lasting (d : Dev) (cs : List Nat) (n : Nat) (hn : n < d.las.length) : (crashed d cs).lasting (n : Int) = (crashed d cs).las.getD n 0 := by
  have : (crashed d cs).inn (n : Int) = true := by simp [Dev.inn, crashed_len, hn]
  simp [Dev.lasting, this]
theorem crashed_load (d : Dev) (cs : List Nat) (n : Nat) (hn : n < d.las.length) : (crashed d cs).load (n : Int) = (crashed d cs).las.getD n 0 := by
  have : (crashed d cs).find (n : Int) = none := rfl
  rw [Dev.load, this]
  exact crashed_lasting d cs n hn
theorem crashed_may (d : Dev) (cs : List Nat) (n : Nat) (hn : n < d.las.length) : (crashed d cs).may (n : Int) = [(crashed d cs).las.getD n 0] := by
  have h1 : (crashed d cs).inn (n : Int) = true := by simp [Dev.inn, crashed_len, hn]
  have h2 : (crashed d cs).find (n : Int) = none := rfl
  simp [Dev.may, h1, h2]
theorem crashed_down (d : Dev) (cs : List Nat) : (crashed d cs).down = false := rfl
theorem crashed_wf (d : Dev) (h : d.Wf) (cs : List Nat) : (crashed d cs).Wf :=
  ⟨by rw [crashed_len]; exact h.len, by simp [crashed], by simp [crashed], by simp [crashed], by simp [crashed], by simp [crashed], by simp [crashed], h.st, h.lim, by simp [crashed]⟩

end Go.Proofs.Ytlokklfkiechdaa.Cp
