/- A device's store: what it comes to. -/
import Derived.Test.YtlokklfkiechdaaPmD
set_option linter.unusedVariables false
set_option linter.unusedSimpArgs false
set_option maxHeartbeats 400000
namespace Go.Proofs.Ytlokklfkiechdaa.Pm
open Go Go.RowKit
open Go.ChangeMaps (setBlock)
open Go.Proofs.Ytlokklfkiechdaa.Ob Go.Proofs.Ytlokklfkiechdaa.Mp Go.Proofs.Ytlokklfkiechdaa.Dv

theorem stored_wf {d : Dev} (h : d.Wf) (k v : Int) (hlim : d.steps < 1099511627776) : (d.stored k v).Wf := by
  unfold Dev.stored
  split
  · rename_i hok
    have hs := stepped_wf h true hlim
    simp only [Dev.storeOk, Bool.and_eq_true] at hok
    obtain ⟨n, rfl, hn⟩ := inn_true hok.1
    split
    · rename_i hf
      have hkeys : (putPen n v d.opn).map (·.1) = d.opn.map (·.1) := by
        unfold putPen
        rw [List.map_map]
        apply List.map_congr_left
        intro y _
        simp only [Function.comp]
        split <;> rfl
      have hmem : ∀ x ∈ putPen n v d.opn, ∃ y ∈ d.opn, x.1 = y.1 ∧ x.2.fl = y.2.fl ∧ (x.2.l = y.2.l ∨ x.2.l = y.2.l ++ [v]) := by
        intro x hx
        simp only [putPen, List.mem_map] at hx
        obtain ⟨y, hy, rfl⟩ := hx
        refine ⟨y, hy, ?_⟩
        split <;> simp
      refine ⟨h.len, by rw [hkeys]; exact h.keys, fun x hx => ?_, fun x hx => ?_, fun x hx => ?_, fun x hx => ?_, fun x hx => ?_, hs.st, hs.lim, hs.fuse⟩
      all_goals
        obtain ⟨y, hy, e1, e2, e3⟩ := hmem x hx
      · rw [e1]; exact h.lo y hy
      · rw [e1]; exact h.hi y hy
      · rcases e3 with e3 | e3
        · rw [e3]; exact h.ne y hy
        · rw [e3]; simp
      · have := h.fl y hy
        rcases e3 with e3 | e3
        · rw [e3, e2]; exact this
        · rw [e3, e2]; simp; omega
      · have := h.few y hy
        show x.2.l.length ≤ d.stores + 1
        rcases e3 with e3 | e3
        · rw [e3]; omega
        · rw [e3]; simp; omega
    · rename_i hf
      have hno : ∀ x ∈ d.opn, x.1 ≠ (n : Int) := by
        simp only [Dev.find, Option.isSome_map, List.find?_isSome, decide_eq_true_eq, not_exists, not_and] at hf
        exact hf
      refine ⟨h.len, ?_, fun x hx => ?_, fun x hx => ?_, fun x hx => ?_, fun x hx => ?_, fun x hx => ?_, hs.st, hs.lim, hs.fuse⟩
      · simp only [List.map_append, List.map_cons, List.map_nil, List.nodup_append]
        refine ⟨h.keys, by simp, fun a ha c hc => ?_⟩
        simp only [List.mem_map] at ha
        obtain ⟨y, hy, rfl⟩ := ha
        simp at hc
        rw [hc]
        exact hno y hy
      all_goals
        simp only [List.mem_append, List.mem_singleton] at hx
        rcases hx with hx | rfl
      · exact h.lo x hx
      · simp
      · exact h.hi x hx
      · show ((n : Nat) : Int) < d.las.length
        omega
      · exact h.ne x hx
      · simp
      · exact h.fl x hx
      · simp
      · have := h.few x hx
        show x.2.l.length ≤ d.stores + 1
        omega
      · show 1 ≤ d.stores + 1
        omega
  · exact h

theorem put_split {d : Dev} {g : Lay} (ho : d.opn = g.es.map fun x => (x.key, x.pen)) (hk : (d.opn.map (·.1)).Nodup) {pre post : List Ent} {x : Ent} (he : g.es = pre ++ x :: post) (v : Int) (x' : Ent) (h1 : x'.key = x.key) (h2 : x'.pen = ⟨x.pen.l ++ [v], x.pen.fl⟩) :
    putPen x.key v d.opn = (pre ++ x' :: post).map fun x => (x.key, x.pen) := by
  rw [ho, he] at hk ⊢
  simp only [List.map_append, List.map_cons, List.map_map, List.nodup_append, List.nodup_cons, List.mem_map, List.mem_cons, Function.comp] at hk
  obtain ⟨_, ⟨h3, _⟩, h4⟩ := hk
  unfold putPen
  simp only [List.map_append, List.map_cons, if_true]
  rw [h1, h2]
  congr 1
  · rw [List.map_map]
    apply List.map_congr_left
    intro y hy
    simp only [Function.comp]
    rw [if_neg]
    exact fun e => h4 y.key ⟨y, hy, rfl⟩ x.key (.inl rfl) e
  · congr 1
    rw [List.map_map]
    apply List.map_congr_left
    intro y hy
    simp only [Function.comp]
    rw [if_neg]
    exact fun e => h3 ⟨y, hy, e⟩

theorem info_u64 : (Try.prog.info? 26).map (fun i => (i.zero, i.size, i.bytes)) = some (some (.int .u64 0), 1, 8) := by kernel_rfl

theorem store_no {w : World} {b : Nat} {d : Dev} {g : Lay} (h : DevIs w b d g) (k v : Int) (hn : d.storeOk k = false) :
    Calls Try.prog 14 #[.pointer (some ⟨b, 0, none⟩), .int .i64 k, .int .u64 v] w fun e w' => e = .returned (.bool false) ∧ w = w' := by
  have hc := in_any h k
  cases hi : d.inn k with
  | false =>
    rw [hi] at hc
    have HC := Lib.hid hc
    clear hc h hn hi
    go_enter Try.func14, Try.ntmps14
    go_wp2_with (go_at_call 35; refine HC.out.mono ?_; rintro e w' ⟨rfl, rfl⟩)
    go_ret
    exact ⟨rfl, rfl⟩
  | true =>
    have hd : d.down = true := by simpa [Dev.storeOk, hi] using hn
    have hs := step_down h hd true
    rw [hi] at hc
    have HC := Lib.hid hc
    have HS := Lib.hid hs
    clear hc h hn hi hd hs
    go_enter Try.func14, Try.ntmps14
    go_wp2_with (first | (go_at_call 35; refine HC.out.mono ?_; rintro e w' ⟨rfl, rfl⟩) | (go_at_call 36; refine HS.out.mono ?_; rintro e w' ⟨rfl, rfl⟩))
    go_ret
    exact ⟨rfl, rfl⟩

theorem ent_facts {w : World} {x : Ent} (h : EntAt w x) : w.cell? ⟨x.p, 0, none⟩ = some (.slice (some ⟨x.q, x.off, none⟩) x.pen.l.length x.cap) ∧ w.cell? ⟨x.p, 1, none⟩ = some (.int .i64 x.pen.fl) ∧
    w.frozen? ⟨x.p, 0, none⟩ = false ∧ w.frozen? ⟨x.p, 1, none⟩ = false ∧ (∀ (j : Nat) u, (u64s x.pen.l)[j]? = some u → w.cell? ⟨x.q, x.off + j, none⟩ = some u) ∧
    (∀ j, x.off + j < x.off + x.cap → (w.cell? ⟨x.q, x.off + j, none⟩).isSome = true ∧ w.frozen? ⟨x.q, x.off + j, none⟩ = false) ∧ x.pen.l.length ≤ x.cap := by
  obtain ⟨h1, cs, h2, h3, h4, h5⟩ := h
  refine ⟨by rw [cell_of h1]; rfl, by rw [cell_of h1]; rfl, free_of h1 0, free_of h1 1, fun j u hj => ?_, fun j hj => ⟨?_, free_of h2 _⟩, h4⟩
  · rw [cell_of h2]
    simp only [u64s, List.getElem?_map, Option.map_eq_some_iff] at hj
    obtain ⟨v, hv, rfl⟩ := hj
    exact h5 j v hv
  · rw [cell_of h2, Array.getElem?_eq_getElem (by omega)]
    rfl

theorem pen_len {d : Dev} {g : Lay} {w : World} {b : Nat} (h : DevIs w b d g) {x : Ent} (hx : x ∈ g.es) : x.pen.l.length ≤ 1099511627776 :=
  Nat.le_trans (h.wf.few (x.key, x.pen) (by rw [h.opn]; exact List.mem_map.2 ⟨x, hx, rfl⟩)) (Nat.le_trans h.wf.st h.wf.lim)

theorem stored_old_fin {w w1 W3 : World} {b : Nat} {d : Dev} {g : Lay} {v : Int} {pre post : List Ent} {x : Ent} (hd0 : DevIs w b d g) (he : g.es = pre ++ x :: post) (hp : ∀ y ∈ pre, y.key ≠ x.key) (hok : d.storeOk x.key = true) (hlim : d.steps < 1099511627776)
    (hu1 : Upd [b] w w1) (hd1 : DevIs w1 b (d.stepped true) g) (q' off' cap' : Nat) (hq : q' = x.q ∨ w1.heap.size ≤ q') (hu3 : Upd [x.p, x.q] w1 W3)
    (hent : EntAt W3 { x with q := q', off := off', cap := cap', pen := ⟨x.pen.l ++ [v], x.pen.fl⟩ }) : DevTo w W3 b g (d.stored x.key v) := by
  have hw := stored_wf hd0.wf x.key v hlim
  have hs : d.stored x.key v = { d.stepped true with opn := putPen x.key v d.opn } := by
    unfold Dev.stored
    rw [if_pos hok, find_of_some hd0.opn he hp]
    rfl
  have hxm : x ∈ g.es := by rw [he]; simp
  obtain ⟨h1, h2⟩ := dev_ent (d' := d.stored x.key v) hd1 he hu3 hent rfl rfl rfl hq (by rw [hs]; rfl) (by rw [hs]) (by rw [hs]; exact put_split hd0.opn hd0.wf.keys he v _ rfl rfl) hw
  have hsz := hu1.size
  refine ⟨_, h1, fun k hk => ?_, ?_⟩
  · rcases h2 k hk with r | r
    · exact .inl r
    · exact .inr (by omega)
  · refine (hu1.mono fun k hk => ?_).trans hu3 fun k hk => ?_
    · simp at hk; subst hk; exact .inl (by simp [Lay.foot])
    · left
      simp only [List.mem_cons, List.not_mem_nil, or_false] at hk
      rcases hk with rfl | rfl
      · simp [Lay.foot, (mem_ents hxm).1]
      · simp [Lay.foot, (mem_ents hxm).2]

theorem ne_pq {w : World} {b : Nat} {d : Dev} {g : Lay} (h : DevIs w b d g) {x : Ent} (hx : x ∈ g.es) : x.p ≠ x.q := by
  obtain ⟨h1, cs, h2, _⟩ := h.ents x hx
  intro e
  rw [← e, h1] at h2
  simp at h2

set_option maxRecDepth 100000 in
theorem store_old {w : World} {b : Nat} {d : Dev} {g : Lay} (h : DevIs w b d g) (v : Int) {pre post : List Ent} {x : Ent} (he : g.es = pre ++ x :: post) (hp : ∀ y ∈ pre, y.key ≠ x.key)
    (hok : d.storeOk x.key = true) (hlim : d.steps < 1099511627776) :
    Calls Try.prog 14 #[.pointer (some ⟨b, 0, none⟩), .int .i64 x.key, .int .u64 v] w fun e w' => e = .returned (.bool true) ∧ DevTo w w' b g (d.stored x.key v) := by
  have hc := in_any h x.key
  have hok' := hok
  simp only [Dev.storeOk, Bool.and_eq_true, Bool.not_eq_true'] at hok'
  rw [hok'.1] at hc
  have hs := step_go h hok'.2 hlim true
  have hxm : x ∈ g.es := by rw [he]; simp
  have hlen := pen_len h hxm
  have H := Lib.hid h
  have HC := Lib.hid hc
  have HS := Lib.hid hs
  have HO := Lib.hid hok
  have HE := Lib.hid he
  have HP := Lib.hid hp
  have HX := Lib.hid hxm
  have hl := hlim
  have HL := Lib.hid hl
  obtain ⟨i0, hinf, hz0, hz1, hz2⟩ := info_parts info_u64
  have HI := Lib.hid (And.intro hinf (And.intro hz0 (And.intro hz1 hz2)))
  clear hc h hok hok' hs he hp hl hinf hz0 hz1 hz2
  go_enter Try.func14, Try.ntmps14
  go_wp2_with (first | (go_at_call 35; refine HC.out.mono ?_; rintro e w' ⟨rfl, rfl⟩) | (go_at_call 36; refine HS.out.mono ?_; rintro e w1 ⟨rfl, hu1, hd1⟩; (obtain ⟨c0, c1, c2, c3, c4, c5⟩ := dev_cells hd1); clear c0 c1 c2 c4 c5; (have hlk := look_some hd1 HE.out HP.out); (obtain ⟨p0, p1, f0, f1, po, ps, pc⟩ := ent_facts (hd1.ents x HX.out)); (have HPO := Lib.hid po); (have HPS := Lib.hid ps); (have hxlt := lt_of (hd1.ents x HX.out).1); (have hqlt : x.q < w1.heap.size := hd1.lt x.q (by simp [Lay.foot, (mem_ents HX.out).2])); (have HD1 := Lib.hid hd1); (have HU1 := Lib.hid hu1); clear hd1 hu1 po ps p1 f1) |
    (at_builtin; refine wpList_append_arg _ rfl _ _ 32 rfl 26 i0 (.int .u64 0) 1 8 Try.underlying32 HI.out.1 HI.out.2.1 HI.out.2.2.1 HI.out.2.2.2 rfl (by decide) x.q x.off x.pen.l.length x.cap (u64s x.pen.l) rfl (by simp [u64s]) ?c1 ⟨w1.heap.size, 0, none⟩ 1 1 [.int .u64 v] rfl rfl ?c2 ?c3 ?c4 (by unfold maxLen; omega) (by omega) ?c5 ?c6))
  case c1 => exact fun j u hj => by rw [World.cell?_alloc_lt _ _ _ hqlt]; exact HPO.out j u hj
  case c2 =>
    intro j u hj
    match j with
    | 0 => simp at hj; subst hj; simp [Addr.add]
    | j + 1 => simp at hj
  case c3 => simp [Value.oneCell']
  case c4 =>
    intro hle j hj
    have := HPS.out (x.pen.l.length + j) (by simp at hj; omega)
    rw [World.cell?_alloc_lt _ _ _ (by exact hqlt), World.frozen?_alloc_old _ _ _ (by simp; omega)]
    simpa [Nat.add_assoc] using this
  case c5 =>
    intro hle
    have hW : (w1.alloc (.cells #[.int .u64 v] 26)).setCells x.q (x.off + x.pen.l.length) [.int .u64 v] = (w1.alloc (.cells #[.int .u64 v] 26)).setCell ⟨x.q, x.off + x.pen.l.length, none⟩ (.int .u64 v) := by simp [World.setCells]
    rw [hW]
    obtain ⟨h1, cs, h2, h3, h4, h5⟩ := HD1.out.ents x HX.out
    have hpq := ne_pq HD1.out HX.out
    have k1 := set_other (a := ⟨x.q, x.off + x.pen.l.length, none⟩) (alloc_old h1 (.cells #[.int .u64 v] 26)) hpq (.int .u64 v)
    have k2 := set_same (alloc_old h2 (.cells #[.int .u64 v] 26)) (x.off + x.pen.l.length) (.int .u64 v)
    have k3 : Upd [x.p, x.q] w1 ((w1.alloc (.cells #[.int .u64 v] 26)).setCell ⟨x.q, x.off + x.pen.l.length, none⟩ (.int .u64 v)) := ((Upd.refl _ _).alloc _).setCell (by simp) _
    clear h1 h2 hW p0 f0 hlk
    generalize (w1.alloc (.cells #[.int .u64 v] 26)).setCell ⟨x.q, x.off + x.pen.l.length, none⟩ (.int .u64 v) = W2 at *
    have p0 := cell_of k1 0
    have f0 := free_of k1 0
    simp only [List.getElem?_toArray, List.getElem?_cons_zero] at p0
    have K1 := Lib.hid k1
    have K2 := Lib.hid k2
    have K3 := Lib.hid k3
    have H5 := Lib.hid h5
    clear k1 k2 k3 h5 hpq
    go_wp2
    go_ret
    refine ⟨rfl, stored_old_fin H.out HE.out HP.out HO.out hlim HU1.out HD1.out x.q x.off x.cap (.inl rfl) (K3.out.setCell (by simp) _) ⟨?_, _, set_other K2.out (fun e => ne_pq HD1.out HX.out e.symm) _, by simpa using h3, by simp; omega, ?_⟩⟩
    · simp only [List.length_append, List.length_singleton]
      exact set_b K1.out 0 _ rfl
    · intro j u hj
      simp only at hj
      rw [Array.getElem?_setIfInBounds]
      by_cases e : j < x.pen.l.length
      · rw [if_neg (show ¬ (x.off + x.pen.l.length = x.off + j) from by omega)]
        rw [List.getElem?_append_left e] at hj
        exact H5.out j u hj
      · rw [List.getElem?_append_right (by omega)] at hj
        have : j = x.pen.l.length := by
          have := (List.getElem?_eq_some_iff.1 hj).1
          simp at this
          omega
        subst this
        simp at hj
        subst hj
        rw [if_pos rfl, if_pos (by omega)]
  case c6 =>
    intro hlt v' w2 hown hg
    obtain ⟨A, c, qs, rfl, hsl, hqs⟩ := Sl.of_own hown
    obtain ⟨hle, ⟨hnil, -⟩ | ⟨q, off, cs, rfl, rfl, hb, hoc, hat⟩⟩ := hsl
    · simp at hnil
    obtain ⟨h1, -⟩ := HD1.out.ents x HX.out
    have k1 := (Upd.of_grown (F := []) hg).blk (alloc_old h1 (.cells #[.int .u64 v] 26)) (by simp)
    have k3 : Upd [x.p, x.q] w1 w2 := ((Upd.refl _ _).alloc _).trans (Upd.of_grown (F := []) hg) (by simp)
    have hq0 := hqs q (by simp)
    have p0' := cell_of k1 0
    have f0' := free_of k1 0
    simp only [List.getElem?_toArray, List.getElem?_cons_zero] at p0'
    have hqp : q ≠ x.p := by omega
    have K1 := Lib.hid k1
    have K2 := Lib.hid hb
    have K3 := Lib.hid k3
    have H5 := Lib.hid hat
    have Hown := Lib.hid hown
    clear k1 hb k3 hat hown hg h1 hqs p0 f0 hlk
    go_wp2
    go_ret
    refine ⟨rfl, stored_old_fin H.out HE.out HP.out HO.out hlim HU1.out HD1.out q off c (.inr (by omega)) (K3.out.setCell (by simp) _) ⟨?_, cs, set_other K2.out hqp _, hoc, by simpa [u64s] using hle, ?_⟩⟩
    · simp only [List.length_append, List.length_singleton]
      exact set_b K1.out 0 _ rfl
    · intro j u hj
      apply H5.out j (.int .u64 u)
      simp only at hj
      simp only [u64s, ← List.map_singleton (f := Value.int .u64), ← List.map_append, List.getElem?_map, hj, Option.map_some]

end Go.Proofs.Ytlokklfkiechdaa.Pm
