/- A device's store of a word that wasn't pending; a store, whatever it is. -/
import Derived.Test.YtlokklfkiechdaaPmE
import Derived.Test.YtlokklfkiechdaaWl
set_option linter.unusedVariables false
set_option linter.unusedSimpArgs false
set_option maxHeartbeats 400000
namespace Go.Proofs.Ytlokklfkiechdaa.Pm
open Go Go.RowKit
open Go.ChangeMaps (setBlock)
open Go.Proofs.Ytlokklfkiechdaa.Ob Go.Proofs.Ytlokklfkiechdaa.Mp Go.Proofs.Ytlokklfkiechdaa.Dv Go.Proofs.Ytlokklfkiechdaa.Wl

theorem one_cell (w : World) (v : Value) {T : TypeId} : ∀ (j : Nat) u, [v][j]? = some u → (w.alloc (.cells #[v] T)).cell? ((⟨w.heap.size, 0, none⟩ : Addr).add j) = some u := by
  intro j u hj
  match j with
  | 0 => simp at hj; subst hj; simp [Addr.add]
  | j + 1 => simp at hj

theorem stored_new_fin {w w1 W3 : World} {b : Nat} {d : Dev} {g : Lay} {k v : Int} (hd0 : DevIs w b d g) (hn : ∀ y ∈ g.es, y.key ≠ k) (hok : d.storeOk k = true) (hlim : d.steps < 1099511627776)
    (hu1 : Upd [b] w w1) (hd1 : DevIs w1 b (d.stepped true) g) (p q off cap : Nat) (hp : w1.heap.size ≤ p) (hq : w1.heap.size ≤ q) (hpq : p ≠ q) (hu3 : Upd [g.M] w1 W3)
    (hm : W3.heap[g.M]? = some (obj (kInt .i64) (g.es.map Ent.en ++ [(k, .pointer (some ⟨p, 0, none⟩), g.clock)]) (g.clock + 1)))
    (hent : EntAt W3 ⟨k, g.clock, p, q, off, cap, ⟨[v], 0⟩⟩) : DevTo w W3 b g (d.stored k v) := by
  have hw := stored_wf hd0.wf k v hlim
  have hs : d.stored k v = { d.stepped true with opn := d.opn ++ [(k, ⟨[v], 0⟩)] } := by
    unfold Dev.stored
    rw [if_pos hok, find_of_none hd0.opn hn]
    rfl
  obtain ⟨h1, h2⟩ := dev_new (d' := d.stored k v) hd1 (x := ⟨k, g.clock, p, q, off, cap, ⟨[v], 0⟩⟩) hm hu3 hent rfl hp hq hpq (by rw [hs]; rfl) (by rw [hs]) (by rw [hs]; rfl) hw
  have hsz := hu1.size
  refine ⟨_, h1, fun k hk => ?_, ?_⟩
  · rcases h2 k hk with r | r
    · exact .inl r
    · exact .inr (by omega)
  · refine (hu1.mono fun k hk => ?_).trans hu3 fun k hk => ?_
    · simp at hk; subst hk; exact .inl (by simp [Lay.foot])
    · left
      simp only [List.mem_singleton] at hk
      subst hk
      simp [Lay.foot]

set_option maxRecDepth 100000 in
theorem store_new {w : World} {b : Nat} {d : Dev} {g : Lay} (h : DevIs w b d g) (k v : Int) (hn : ∀ y ∈ g.es, y.key ≠ k)
    (hok : d.storeOk k = true) (hlim : d.steps < 1099511627776) :
    Calls Try.prog 14 #[.pointer (some ⟨b, 0, none⟩), .int .i64 k, .int .u64 v] w fun e w' => e = .returned (.bool true) ∧ DevTo w w' b g (d.stored k v) := by
  have hc := in_any h k
  have hok' := hok
  simp only [Dev.storeOk, Bool.and_eq_true, Bool.not_eq_true'] at hok'
  rw [hok'.1] at hc
  have hs := step_go h hok'.2 hlim true
  have H := Lib.hid h
  have HC := Lib.hid hc
  have HS := Lib.hid hs
  have HO := Lib.hid hok
  have HN := Lib.hid hn
  have hl := hlim
  have HL := Lib.hid hl
  obtain ⟨i0, hinf, hz0, hz1, hz2⟩ := info_parts info_u64
  have HI := Lib.hid (And.intro hinf (And.intro hz0 (And.intro hz1 hz2)))
  clear hc h hok hok' hs hn hl hinf hz0 hz1 hz2
  go_enter Try.func14, Try.ntmps14
  go_wp2_with (first | (go_at_call 35; refine HC.out.mono ?_; rintro e w' ⟨rfl, rfl⟩) | (go_at_call 36; refine HS.out.mono ?_; rintro e w1 ⟨rfl, hu1, hd1⟩; (obtain ⟨c0, c1, c2, c3, c4, c5⟩ := dev_cells hd1); clear c0 c1 c2 c4 c5; (have hlk := look_none hd1 HN.out); (have hmlt := lt_of hd1.map); (have hblt := lt_of hd1.blk); (have HD1 := Lib.hid hd1); (have HU1 := Lib.hid hu1); clear hd1 hu1) |
    (at_mapUpdate; refine wpl_put_new (kInt .i64) (g.es.map Ent.en) rfl _ _ _ _ rfl Try.underlying71 Try.underlying3 rfl k rfl _ rfl (alloc_old HD1.out.map _) (by simp only [List.mem_map]; rintro _ ⟨x, hx, rfl⟩; exact HN.out x hx) ?_; intro W2 hW2; (have k1 := hW2.blk (alloc_new w1 (.cells #[.slice none 0 0, .int .i64 0] 78)) (by omega)); (have k2 := hW2.here); (have k3 : Upd [g.M] w1 W2 := ((Upd.refl _ _).alloc _).trans (hW2.upd [g.M] (by simp)) (by simp)); (have plt := lt_of k1); (have mlt := lt_of k2); (have p0 := cell_of k1 0); (have f0 := free_of k1 0); simp only [List.getElem?_toArray, List.getElem?_cons_zero] at p0; (have K1 := Lib.hid k1); (have K2 := Lib.hid k2); (have K3 := Lib.hid k3); clear k1 k2 k3 hW2) |
    (at_builtin; refine wpl_append_grow rfl _ _ 32 rfl 26 (.int .u64 0) 8 Try.underlying32 info_u64 (by decide) none 0 0 [] rfl (by simp) rfl (by simp) ⟨_, 0, none⟩ 1 1 [.int .u64 v] rfl rfl (one_cell _ _) (by simp [Value.oneCell']) (by omega) (by unfold maxLen; omega) (by omega) (by omega) ?_; intro q c w2 hnew; (have k1 := (hnew.upd []).blk (alloc_old K1.out (.cells #[.int .u64 v] 26)) (by simp)); (have p1 := cell_of k1 0); (have f1 := free_of k1 0); simp only [List.getElem?_toArray, List.getElem?_cons_zero] at p1; (have L1 := Lib.hid k1); (have HW := Lib.hid hnew); clear k1 hnew p0 f0))
  go_ret
  obtain ⟨⟨cs, hb, hoc, hat⟩, hle, hq0, hup⟩ := HW.out
  have hsz := K3.out.size
  have k2 := (hup []).blk (alloc_old K2.out (.cells #[.int .u64 v] 26)) (by simp)
  have k3 : Upd [g.M] w1 w2 := (K3.out.alloc _).trans (hup []) (by simp)
  simp only [World.size_alloc] at hq0
  refine ⟨rfl, stored_new_fin H.out HN.out HO.out hlim HU1.out HD1.out w1.heap.size q 0 c (Nat.le_refl _) (by omega) (by omega) (k3.setCell (by simp) _) (set_other k2 (by simp; omega) _) ⟨?_, cs, set_other hb (by simp; omega) _, by simpa using hoc, by simpa using hle, ?_⟩⟩
  · exact set_b L1.out 0 _ rfl
  · intro j u hj
    apply hat j (.int .u64 u)
    match j with
    | 0 => simp at hj; subst hj; rfl
    | j + 1 => simp at hj

theorem store_any {w : World} {b : Nat} {d : Dev} {g : Lay} (h : DevIs w b d g) (k v : Int) (hlim : d.steps < 1099511627776) :
    Calls Try.prog 14 #[.pointer (some ⟨b, 0, none⟩), .int .i64 k, .int .u64 v] w fun e w' => e = .returned (.bool (d.storeOk k)) ∧ DevTo w w' b g (d.stored k v) := by
  cases hok : d.storeOk k with
  | false =>
    refine (store_no h k v hok).mono ?_
    rintro e w' ⟨rfl, rfl⟩
    refine ⟨rfl, g, ?_, fun k hk => .inl hk, Upd.refl _ _⟩
    unfold Dev.stored
    rw [if_neg (by simp [hok])]
    exact h
  | true =>
    rcases find_split g.es k with hn | ⟨pre, x, post, he, rfl, hp⟩
    · exact store_new h k v hn hok hlim
    · exact store_old h v he hp hok hlim

end Go.Proofs.Ytlokklfkiechdaa.Pm
