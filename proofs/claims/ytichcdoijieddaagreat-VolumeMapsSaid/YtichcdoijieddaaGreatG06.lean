/- Parts of the proof, one behind the other: PmF, PmG, PmH, PmI. -/
import Derived.Test.YtichcdoijieddaaGreatG05
import Derived.Test.YtichcdoijieddaaGreatG01
import Derived.LoopTactic

/- A device's store of a word that wasn't pending; a store, whatever it is. -/
section
set_option linter.unusedVariables false
set_option linter.unusedSimpArgs false
set_option maxHeartbeats 400000
namespace Go.Proofs.YtichcdoijieddaaGreat.Pm
open Go Go.RowKit
open Go.ChangeMaps (setBlock)
open Go.Proofs.YtichcdoijieddaaGreat.Ob Go.Proofs.YtichcdoijieddaaGreat.Mp Go.Proofs.YtichcdoijieddaaGreat.Dv Go.Proofs.YtichcdoijieddaaGreat.Wl

theorem one_cell (w : World) (v : Value) {T : TypeId} : ∀ (j : Nat) u, [v][j]? = some u → (w.alloc (.cells #[v] T)).cell? ((⟨w.heap.size, 0, none⟩ : Addr).add j) = some u := by
  intro j u hj
  match j with
  | 0 => simp at hj; subst hj; simp [Addr.add]
  | j + 1 => simp at hj

theorem stored_new_fin {w w1 W3 : World} {b : Nat} {d : Dev} {g : Lay} {k v : Int} (hd0 : DevIs w b d g) (hn : ∀ y ∈ g.es, y.key ≠ k) (hok : d.storeOk k = true) (hlim : d.steps < 1099511627776)
    (hu1 : Upd [b] w w1) (hd1 : DevIs w1 b (d.stepped true) g) (p q off cap : Nat) (hp : w1.heap.size ≤ p) (hq : w1.heap.size ≤ q) (hpq : p ≠ q) (hu3 : Upd [g.M] w1 W3)
    (hm : W3.heap[g.M]? = some (obj (kInt .i64) (g.es.map Ent.en ++ [(k, .pointer (some ⟨p, 0, none⟩), g.clock)]) (g.clock + 1)))
    (hent : EntAt W3 ⟨k, g.clock, p, q, off, cap, ⟨[v], 0⟩⟩) : DevTo w W3 b g (d.stored k v) := by
  have hw := stored_wf hd0.wf k v hlim
  have hs : d.stored k v = { d.stepped true with opn := d.opn ++ [(k, ⟨[v], 0⟩)] } := by
    unfold Dev.stored
    rw [if_pos hok, find_of_none hd0.opn hn]
    rfl
  obtain ⟨h1, h2⟩ := dev_new (d' := d.stored k v) hd1 (x := ⟨k, g.clock, p, q, off, cap, ⟨[v], 0⟩⟩) hm hu3 hent rfl hp hq hpq (by rw [hs]; rfl) (by rw [hs]) (by rw [hs]; rfl) hw
  have hsz := hu1.size
  refine ⟨_, h1, fun k hk => ?_, ?_⟩
  · rcases h2 k hk with r | r
    · exact .inl r
    · exact .inr (by omega)
  · refine (hu1.mono fun k hk => ?_).trans hu3 fun k hk => ?_
    · simp at hk; subst hk; exact .inl (by simp [Lay.foot])
    · left
      simp only [List.mem_singleton] at hk
      subst hk
      simp [Lay.foot]

set_option maxRecDepth 100000 in
theorem store_new {w : World} {b : Nat} {d : Dev} {g : Lay} (h : DevIs w b d g) (k v : Int) (hn : ∀ y ∈ g.es, y.key ≠ k)
    (hok : d.storeOk k = true) (hlim : d.steps < 1099511627776) :
    Calls Tryz.prog 103 #[.pointer (some ⟨b, 0, none⟩), .int .i64 k, .int .u64 v] w fun e w' => e = .returned (.bool true) ∧ DevTo w w' b g (d.stored k v) := by
  have hc := in_any h k
  have hok' := hok
  simp only [Dev.storeOk, Bool.and_eq_true, Bool.not_eq_true'] at hok'
  rw [hok'.1] at hc
  have hs := step_go h hok'.2 hlim true
  have H := Lib.hid h
  have HC := Lib.hid hc
  have HS := Lib.hid hs
  have HO := Lib.hid hok
  have HN := Lib.hid hn
  have hl := hlim
  have HL := Lib.hid hl
  obtain ⟨i0, hinf, hz0, hz1, hz2⟩ := info_parts info_u64
  have HI := Lib.hid (And.intro hinf (And.intro hz0 (And.intro hz1 hz2)))
  clear hc h hok hok' hs hn hl hinf hz0 hz1 hz2
  go_enter Tryz.func103, Tryz.ntmps103
  go_wp2_with (first | (go_at_call 129; refine HC.out.mono ?_; rintro e w' ⟨rfl, rfl⟩) | (go_at_call 111; refine HS.out.mono ?_; rintro e w1 ⟨rfl, hu1, hd1⟩; (obtain ⟨c0, c1, c2, c3, c4, c5⟩ := dev_cells hd1); clear c0 c1 c2 c4 c5; (have hlk := look_none hd1 HN.out); (have hmlt := lt_of hd1.map); (have hblt := lt_of hd1.blk); (have HD1 := Lib.hid hd1); (have HU1 := Lib.hid hu1); clear hd1 hu1) |
    (at_mapUpdate; refine wpl_put_new (kInt .i64) (g.es.map Ent.en) rfl _ _ _ _ rfl Tryz.underlying133 Tryz.underlying3 rfl k rfl _ rfl (alloc_old HD1.out.map _) (by simp only [List.mem_map]; rintro _ ⟨x, hx, rfl⟩; exact HN.out x hx) ?_; intro W2 hW2; (have k1 := hW2.blk (alloc_new w1 (.cells #[.slice none 0 0, .int .i64 0] 138)) (by omega)); (have k2 := hW2.here); (have k3 : Upd [g.M] w1 W2 := ((Upd.refl _ _).alloc _).trans (hW2.upd [g.M] (by simp)) (by simp)); (have plt := lt_of k1); (have mlt := lt_of k2); (have p0 := cell_of k1 0); (have f0 := free_of k1 0); simp only [List.getElem?_toArray, List.getElem?_cons_zero] at p0; (have K1 := Lib.hid k1); (have K2 := Lib.hid k2); (have K3 := Lib.hid k3); clear k1 k2 k3 hW2) |
    (at_builtin; refine wpl_append_grow rfl _ _ 22 rfl 60 (.int .u64 0) 8 Tryz.underlying22 info_u64 (by decide) none 0 0 [] rfl (by simp) rfl (by simp) ⟨_, 0, none⟩ 1 1 [.int .u64 v] rfl rfl (one_cell _ _) (by simp [Value.oneCell']) (by omega) (by unfold maxLen; omega) (by omega) (by omega) ?_; intro q c w2 hnew; (have k1 := (hnew.upd []).blk (alloc_old K1.out (.cells #[.int .u64 v] 60)) (by simp)); (have p1 := cell_of k1 0); (have f1 := free_of k1 0); simp only [List.getElem?_toArray, List.getElem?_cons_zero] at p1; (have L1 := Lib.hid k1); (have HW := Lib.hid hnew); clear k1 hnew p0 f0))
  go_ret
  obtain ⟨⟨cs, hb, hoc, hat⟩, hle, hq0, hup⟩ := HW.out
  have hsz := K3.out.size
  have k2 := (hup []).blk (alloc_old K2.out (.cells #[.int .u64 v] 60)) (by simp)
  have k3 : Upd [g.M] w1 w2 := (K3.out.alloc _).trans (hup []) (by simp)
  simp only [World.size_alloc] at hq0
  refine ⟨rfl, stored_new_fin H.out HN.out HO.out hlim HU1.out HD1.out w1.heap.size q 0 c (Nat.le_refl _) (by omega) (by omega) (k3.setCell (by simp) _) (set_other k2 (by simp; omega) _) ⟨?_, cs, set_other hb (by simp; omega) _, by simpa using hoc, by simpa using hle, ?_⟩⟩
  · exact set_b L1.out 0 _ rfl
  · intro j u hj
    apply hat j (.int .u64 u)
    match j with
    | 0 => simp at hj; subst hj; rfl
    | j + 1 => simp at hj

theorem store_any {w : World} {b : Nat} {d : Dev} {g : Lay} (h : DevIs w b d g) (k v : Int) (hlim : d.steps < 1099511627776) :
    Calls Tryz.prog 103 #[.pointer (some ⟨b, 0, none⟩), .int .i64 k, .int .u64 v] w fun e w' => e = .returned (.bool (d.storeOk k)) ∧ DevTo w w' b g (d.stored k v) := by
  cases hok : d.storeOk k with
  | false =>
    refine (store_no h k v hok).mono ?_
    rintro e w' ⟨rfl, rfl⟩
    refine ⟨rfl, g, ?_, fun k hk => .inl hk, Upd.refl _ _⟩
    unfold Dev.stored
    rw [if_neg (by simp [hok])]
    exact h
  | true =>
    rcases find_split g.es k with hn | ⟨pre, x, post, he, rfl, hp⟩
    · exact store_new h k v hn hok hlim
    · exact store_old h v he hp hok hlim

end Go.Proofs.YtichcdoijieddaaGreat.Pm
end

/- A device's flush of a line. -/
section
set_option linter.unusedVariables false
set_option linter.unusedSimpArgs false
set_option maxHeartbeats 400000
namespace Go.Proofs.YtichcdoijieddaaGreat.Pm
open Go Go.RowKit
open Go.ChangeMaps (setBlock)
open Go.Proofs.YtichcdoijieddaaGreat.Ob Go.Proofs.YtichcdoijieddaaGreat.Mp Go.Proofs.YtichcdoijieddaaGreat.Dv Go.Proofs.YtichcdoijieddaaGreat.Wl

/-- the pending word k turned by f -/
def atKey (k : Int) (f : Pen → Pen) (y : Int × Pen) : Int × Pen := if y.1 = k then (y.1, f y.2) else y

theorem atKey_split {d : Dev} {g : Lay} (ho : d.opn = g.es.map fun x => (x.key, x.pen)) (hk : (d.opn.map (·.1)).Nodup) {pre post : List Ent} {x : Ent} (he : g.es = pre ++ x :: post) (f : Pen → Pen) (x' : Ent) (h1 : x'.key = x.key) (h2 : x'.pen = f x.pen) :
    d.opn.map (atKey x.key f) = (pre ++ x' :: post).map fun x => (x.key, x.pen) := by
  rw [ho, he] at hk ⊢
  simp only [List.map_append, List.map_cons, List.map_map, List.nodup_append, List.nodup_cons, List.mem_map, List.mem_cons, Function.comp] at hk
  obtain ⟨_, ⟨h3, _⟩, h4⟩ := hk
  simp only [List.map_append, List.map_cons, atKey, if_true]
  rw [h1, h2]
  congr 1
  · rw [List.map_map]
    apply List.map_congr_left
    intro y hy
    simp only [Function.comp, atKey]
    rw [if_neg]
    exact fun e => h4 y.key ⟨y, hy, rfl⟩ x.key (.inl rfl) e
  · congr 1
    rw [List.map_map]
    apply List.map_congr_left
    intro y hy
    simp only [Function.comp, atKey]
    rw [if_neg]
    exact fun e => h3 ⟨y, hy, e⟩

theorem atKey_none {d : Dev} {g : Lay} (ho : d.opn = g.es.map fun x => (x.key, x.pen)) {k : Int} (hn : ∀ x ∈ g.es, x.key ≠ k) (f : Pen → Pen) : d.opn.map (atKey k f) = d.opn := by
  rw [ho, List.map_map]
  apply List.map_congr_left
  intro y hy
  simp only [Function.comp, atKey]
  rw [if_neg (hn y hy)]

def flushP (p : Pen) : Pen := ⟨p.l, p.l.length⟩
/-- the words from lo to below k are flushed -/
def flPart (lo k : Int) (y : Int × Pen) : Int × Pen := if lo ≤ y.1 ∧ y.1 < k then (y.1, flushP y.2) else y

theorem flPart_succ (lo k : Int) (h : lo ≤ k) (l : List (Int × Pen)) : l.map (flPart lo (k + 1)) = (l.map (flPart lo k)).map (atKey k flushP) := by
  rw [List.map_map]
  apply List.map_congr_left
  intro y _
  show flPart lo (k + 1) y = atKey k flushP (flPart lo k y)
  by_cases h1 : lo ≤ y.1 ∧ y.1 < k
  · have e1 : flPart lo k y = (y.1, flushP y.2) := if_pos h1
    have e2 : flPart lo (k + 1) y = (y.1, flushP y.2) := if_pos (by omega)
    have e3 : atKey k flushP (y.1, flushP y.2) = (y.1, flushP y.2) := if_neg (by show ¬ y.1 = k; omega)
    rw [e1, e2, e3]
  · have e1 : flPart lo k y = y := if_neg h1
    rw [e1]
    by_cases h2 : y.1 = k
    · have e2 : flPart lo (k + 1) y = (y.1, flushP y.2) := if_pos (by omega)
      have e3 : atKey k flushP y = (y.1, flushP y.2) := if_pos h2
      rw [e2, e3]
    · have e2 : flPart lo (k + 1) y = y := if_neg (by omega)
      have e3 : atKey k flushP y = y := if_neg h2
      rw [e2, e3]
theorem flPart_zero (lo : Int) (l : List (Int × Pen)) : l.map (flPart lo lo) = l := by
  conv => rhs; rw [← List.map_id l]
  apply List.map_congr_left
  intro y _
  simp only [flPart, id]
  rw [if_neg (by omega)]
theorem flPart_all (line : Int) (h : 0 ≤ line) (l : List (Int × Pen)) (hl : ∀ x ∈ l, 0 ≤ x.1) : l.map (flPart (line * 8) (line * 8 + 8)) = l.map (flushPen line) := by
  apply List.map_congr_left
  intro y hy
  have := hl y hy
  simp only [flPart, flushPen, flushP]
  by_cases h1 : y.1 / 8 = line
  · rw [if_pos (by omega), if_pos h1]
  · rw [if_neg (by omega), if_neg h1]

theorem same_keys_wf {d d' : Dev} (h : d.Wf) {f : Int × Pen → Int × Pen} (h1 : ∀ y, (f y).1 = y.1) (h2 : ∀ y, (f y).2.l = y.2.l) (h3 : ∀ y, y.2.fl ≤ y.2.l.length → (f y).2.fl ≤ y.2.l.length)
    (ho : d'.opn = d.opn.map f) (hl : d'.las = d.las) (hs : d'.steps = d.steps) (hst : d'.stores = d.stores) (hfu : d'.fuse = d.fuse) : d'.Wf := by
  have hm : ∀ x ∈ d'.opn, ∃ y ∈ d.opn, x = f y := by
    intro x hx
    rw [ho] at hx
    simp only [List.mem_map] at hx
    obtain ⟨y, hy, rfl⟩ := hx
    exact ⟨y, hy, rfl⟩
  refine ⟨by rw [hl]; exact h.len, ?_, fun x hx => ?_, fun x hx => ?_, fun x hx => ?_, fun x hx => ?_, fun x hx => ?_, by rw [hs, hst]; exact h.st, by rw [hs]; exact h.lim, by rw [hfu]; exact h.fuse⟩
  · rw [ho, List.map_map, show ((fun x : Int × Pen => x.1) ∘ f) = (fun x => x.1) from funext h1]
    exact h.keys
  all_goals
    obtain ⟨y, hy, rfl⟩ := hm x hx
  · rw [h1]; exact h.lo y hy
  · rw [h1, hl]; exact h.hi y hy
  · rw [h2]; exact h.ne y hy
  · rw [h2]; exact h3 y (h.fl y hy)
  · rw [h2, hst]; exact h.few y hy

def _root_.Go.Proofs.YtichcdoijieddaaGreat.Dv.Dev.withOpn (d : Dev) (l : List (Int × Pen)) : Dev := { d with opn := l }

theorem flush_wf {d : Dev} (h : d.Wf) (lo k : Int) : (d.withOpn (d.opn.map (flPart lo k))).Wf :=
  same_keys_wf h (f := flPart lo k) (fun y => by unfold flPart; split <;> rfl) (fun y => by unfold flPart; split <;> rfl) (fun y hy => by unfold flPart flushP; split <;> simp [hy]) rfl rfl rfl rfl rfl

theorem flush_no {w : World} {b : Nat} {d : Dev} {g : Lay} (h : DevIs w b d g) (line : Int) (hn : d.flushOk line = false) :
    Calls Tryz.prog 104 #[.pointer (some ⟨b, 0, none⟩), .int .i64 line] w fun e w' => e = .returned (.bool false) ∧ w = w' := by
  obtain ⟨c0, c1, c2, c3, c4, c5⟩ := dev_cells h
  have hlen := h.wf.len
  have HH := Lib.hid h
  clear c0 c1 c3 c4 c5 h
  by_cases h0 : line < 0
  · clear hn
    go_enter Tryz.func104, Tryz.ntmps104
    go_wp2_with fail
    go_ret
    exact ⟨rfl, rfl⟩
  · by_cases hz : d.las.length = 0
    · have hz' : ((d.las.length : Int) == 0) = true := by simp [hz]
      have HZ := Lib.hid hz
      by_cases h1 : line = 0
      · subst h1
        rw [hz] at c2
        clear hn hz hz'
        go_enter Tryz.func104, Tryz.ntmps104
        go_wp2_with fail
        go_ret
        exact ⟨rfl, rfl⟩
      · rw [hz] at c2
        clear hn hz hz'
        have h2 : 0 < line := by omega
        clear h1
        go_enter Tryz.func104, Tryz.ntmps104
        go_wp2_with fail
        go_ret
        exact ⟨rfl, rfl⟩
    · have hz0 : 1 ≤ d.las.length := by omega
      by_cases h1 : 8 * line < d.las.length
      · have hd : d.down = true := by
          simp only [Dev.flushOk, Bool.and_eq_false_iff, decide_eq_false_iff_not, Bool.not_eq_false'] at hn
          rcases hn with (hn | hn) | hn
          · omega
          · omega
          · exact hn
        have hs := step_down HH.out hd false
        have HS := Lib.hid hs
        have h2 : line ≤ ((d.las.length : Int) - 1) / 8 := by omega
        have h3 : ((d.las.length : Int) == 0) = false := beq_eq_false_iff_ne.2 (by omega)
        clear hs hn hd
        go_enter Tryz.func104, Tryz.ntmps104
        go_wp2_with (go_at_call 111; refine HS.out.mono ?_; rintro e w' ⟨rfl, rfl⟩)
        go_ret
        exact ⟨rfl, rfl⟩
      · have h2 : ((d.las.length : Int) - 1) / 8 < line := by omega
        clear hn
        go_enter Tryz.func104, Tryz.ntmps104
        go_wp2_with fail
        go_ret
        exact ⟨rfl, rfl⟩

/-- where the loop of a flush stands -/
def FlRel (w : World) (b : Nat) (d : Dev) (g : Lay) (line : Int) (wr : World) (k : Int) : Prop :=
  ∃ gk, DevIs wr b ((d.stepped false).withOpn (d.opn.map (flPart (line * 8) k))) gk ∧ (∀ x ∈ gk.foot b, x ∈ g.foot b) ∧ Upd (g.foot b) w wr

theorem fl_none {w wr : World} {b : Nat} {d : Dev} {g gk : Lay} {line k : Int} (hk : line * 8 ≤ k) (h : DevIs wr b ((d.stepped false).withOpn (d.opn.map (flPart (line * 8) k))) gk) (hf : ∀ x ∈ gk.foot b, x ∈ g.foot b) (hu : Upd (g.foot b) w wr)
    (hn : ∀ x ∈ gk.es, x.key ≠ k) : FlRel w b d g line wr (k + 1) := by
  refine ⟨gk, ?_, hf, hu⟩
  rw [flPart_succ _ _ hk]
  have := atKey_none h.opn hn flushP
  simp only [Dev.withOpn] at this ⊢
  rw [this]
  exact h

theorem fl_some {w wr W : World} {b : Nat} {d : Dev} {g gk : Lay} {line k : Int} (hk : line * 8 ≤ k) (h : DevIs wr b ((d.stepped false).withOpn (d.opn.map (flPart (line * 8) k))) gk) (hf : ∀ x ∈ gk.foot b, x ∈ g.foot b) (hu : Upd (g.foot b) w wr)
    (hw : d.Wf) (hlim : d.steps < 1099511627776)
    {pre post : List Ent} {x : Ent} (he : gk.es = pre ++ x :: post) (hp : ∀ y ∈ pre, y.key ≠ x.key) (hxk : x.key = k) (hW : W = wr.setCell ⟨x.p, 1, none⟩ (.int .i64 x.pen.l.length)) : FlRel w b d g line W (k + 1) := by
  have hxm : x ∈ gk.es := by rw [he]; simp
  obtain ⟨h1, cs, h2, h3, h4, h5⟩ := h.ents x hxm
  have hpq := ne_pq h hxm
  subst hxk hW
  have hu2 : Upd [x.p, x.q] wr (wr.setCell ⟨x.p, 1, none⟩ (.int .i64 x.pen.l.length)) := (Upd.refl _ _).setCell (by simp) _
  obtain ⟨r1, r2⟩ := dev_ent (d' := (d.stepped false).withOpn (d.opn.map (flPart (line * 8) (x.key + 1)))) h he hu2 (x' := { x with pen := flushP x.pen })
    ⟨set_b h1 1 _ rfl, cs, set_other h2 (fun e => hpq e.symm) _, h3, h4, h5⟩ rfl rfl rfl (.inl rfl) rfl rfl
    (by rw [flPart_succ _ _ hk]; exact atKey_split h.opn h.wf.keys he flushP _ rfl rfl) (flush_wf (stepped_wf hw false hlim) _ _)
  refine ⟨_, r1, fun y hy => ?_, hu.trans hu2 fun y hy => ?_⟩
  · have hin := (mem_ents hxm)
    simp only [Lay.foot, Lay.ents, List.mem_cons, List.mem_append, List.flatMap_append, List.flatMap_cons] at hy
    apply hf
    simp only [Lay.foot, Lay.ents, he, List.mem_cons, List.mem_append, List.flatMap_append, List.flatMap_cons]
    exact hy
  · left
    have hin := (mem_ents hxm)
    simp only [List.mem_cons, List.not_mem_nil, or_false] at hy
    rcases hy with rfl | rfl
    · exact hf _ (by simp [Lay.foot, hin.1])
    · exact hf _ (by simp [Lay.foot, hin.2])

set_option maxRecDepth 100000 in
theorem flush_go {w : World} {b : Nat} {d : Dev} {g : Lay} (h : DevIs w b d g) (line : Int) (hok : d.flushOk line = true) (hlim : d.steps < 1099511627776) :
    Calls Tryz.prog 104 #[.pointer (some ⟨b, 0, none⟩), .int .i64 line] w fun e w' => e = .returned (.bool true) ∧ DevTo w w' b g (d.flushed line) := by
  obtain ⟨c0, c1, c2, c3, c4, c5⟩ := dev_cells h
  have hlen := h.wf.len
  have hfin : d.flushed line = (d.stepped false).withOpn (d.opn.map (flPart (line * 8) (line * 8 + 8))) := by
    simp only [Dev.flushOk, Bool.and_eq_true, decide_eq_true_eq] at hok
    unfold Dev.flushed
    rw [if_pos (by simp only [Dev.flushOk, Bool.and_eq_true, decide_eq_true_eq]; exact hok), flPart_all line hok.1.1 _ h.wf.lo]
    rfl
  have hok2 := hok
  simp only [Dev.flushOk, Bool.and_eq_true, decide_eq_true_eq, Bool.not_eq_true'] at hok2
  obtain ⟨⟨h0, h1⟩, hd⟩ := hok2
  have hs := step_go h hd hlim false
  have h2 : line ≤ ((d.las.length : Int) - 1) / 8 := by omega
  have h3 : ((d.las.length : Int) == 0) = false := beq_eq_false_iff_ne.2 (by omega)
  have h4 : 1 ≤ d.las.length := by omega
  have H := Lib.hid h
  have HS := Lib.hid hs
  have HF := Lib.hid hfin
  clear c0 c1 c3 c4 c5 h hok hfin hs hd
  go_enter Tryz.func104, Tryz.ntmps104
  go_wp2_with (go_at_call 111; refine HS.out.mono ?_; rintro e w1 ⟨rfl, hu1, hd1⟩; (have HU1 := Lib.hid hu1); (have HD1 := Lib.hid hd1); clear hu1 hd1 c2)
  go_loopw [5] (fun c wr => ∃ k : Int, line * 8 ≤ k ∧ k ≤ line * 8 + 8 ∧ c = .int .i64 k ∧ FlRel w b d g line wr k) (fun c _ => (line * 8 + 8 - intOf c).toNat)
  case atStart =>
    refine ⟨line * 8, by omega, by omega, rfl, g, ?_, fun _ hx => hx, HU1.out.mono fun x hx => ?_⟩
    · rw [flPart_zero]; exact HD1.out
    · simp at hx; subst hx; simp [Lay.foot]
  case round =>
    obtain ⟨k, hk0, hk1, rfl, gk, hdk, hfk, huk⟩ := hrel
    obtain ⟨c0, c1, c2, c3, c4, c5⟩ := dev_cells hdk
    clear c0 c1 c2 c4 c5
    by_cases hlt : k < line * 8 + 8
    · rcases find_split gk.es k with hn | ⟨pre, x, post, he, hxk, hp⟩
      · have hl := look_none hdk hn
        have HR := Lib.hid (fl_none (g := g) hk0 hdk hfk huk hn)
        clear hdk hfk huk hn
        go_wp2_with fail
        go_roundw
        case rel => exact ⟨k + 1, by omega, by omega, rfl, HR.out⟩
        case measure => simp [intOf]; omega
      · have hl := look_some hdk he (by rw [hxk]; exact hp)
        have hxm : x ∈ gk.es := by rw [he]; simp
        obtain ⟨p0, p1, f0, f1, po, ps, pc⟩ := ent_facts (hdk.ents x hxm)
        have hpl := pen_len hdk hxm
        rw [hxk] at hl
        have HR := Lib.hid (fun W => fl_some (g := g) (W := W) hk0 hdk hfk huk H.out.wf hlim he (by rw [hxk]; exact hp) hxk)
        clear hdk hfk huk hp he hxk po ps
        go_wp2_with fail
        go_roundw
        case rel => exact ⟨k + 1, by omega, by omega, rfl, HR.out _ rfl⟩
        case measure => simp [intOf]; omega
    · obtain rfl : k = line * 8 + 8 := by omega
      have HR := Lib.hid (And.intro hdk (And.intro hfk huk))
      clear hdk hfk huk
      go_wp2_with fail
      go_ret
      exact ⟨rfl, gk, by rw [HF.out]; exact HR.out.1, fun x hx => .inl (HR.out.2.1 x hx), HR.out.2.2⟩

theorem flush_any {w : World} {b : Nat} {d : Dev} {g : Lay} (h : DevIs w b d g) (line : Int) (hlim : d.steps < 1099511627776) :
    Calls Tryz.prog 104 #[.pointer (some ⟨b, 0, none⟩), .int .i64 line] w fun e w' => e = .returned (.bool (d.flushOk line)) ∧ DevTo w w' b g (d.flushed line) := by
  cases hok : d.flushOk line with
  | false =>
    refine (flush_no h line hok).mono ?_
    rintro e w' ⟨rfl, rfl⟩
    refine ⟨rfl, g, ?_, fun k hk => .inl hk, Upd.refl _ _⟩
    unfold Dev.flushed
    rw [if_neg (by simp [hok])]
    exact h
  | true => exact flush_go h line hok hlim

end Go.Proofs.YtichcdoijieddaaGreat.Pm
end

/- A device's fence: plain facts. -/
section
set_option linter.unusedVariables false
set_option linter.unusedSimpArgs false
set_option maxHeartbeats 400000
namespace Go.Proofs.YtichcdoijieddaaGreat.Pm
open Go Go.RowKit
open Go.ChangeMaps (setBlock)
open Go.Proofs.YtichcdoijieddaaGreat.Ob Go.Proofs.YtichcdoijieddaaGreat.Mp Go.Proofs.YtichcdoijieddaaGreat.Dv Go.Proofs.YtichcdoijieddaaGreat.Wl

theorem fm_congr {α β : Type} {f g : α → Option β} : ∀ {l : List α}, (∀ x ∈ l, f x = g x) → l.filterMap f = l.filterMap g
  | [], _ => rfl
  | x :: l, h => by
    simp only [List.filterMap_cons, h x (by simp)]
    rw [fm_congr (l := l) (fun y hy => h y (by simp [hy]))]

/-- what an entry becomes, if its turn has not come yet -/
def finE (seen : Array Nat) (x : Ent) : Option (Int × Pen) := if x.born ∈ seen then some (x.key, x.pen) else fencePen (x.key, x.pen)
def finOpn (es : List Ent) (seen : Array Nat) : List (Int × Pen) := es.filterMap (finE seen)
def finW (es : List Ent) (seen : Array Nat) (i : Nat) (v : Int) : Int := match es.find? (fun x => decide (x.key = (i : Int)) && decide (x.born ∉ seen)) with
  | some y => if y.pen.fl = 0 then v else y.pen.l.getD (y.pen.fl - 1) 0
  | none => v
def finLas (es : List Ent) (seen : Array Nat) (l : List Int) : List Int := l.mapIdx (finW es seen)

theorem fin_start {d : Dev} {es : List Ent} (ho : d.opn = es.map fun x => (x.key, x.pen)) : finOpn es #[] = d.opn.filterMap fencePen ∧ finLas es #[] d.las = d.las.mapIdx (fenceWord d.opn) := by
  refine ⟨?_, ?_⟩
  · rw [ho, List.filterMap_map]
    unfold finOpn
    congr 1
    funext x
    simp [finE]
  · unfold finLas
    congr 1
    funext i v
    unfold finW fenceWord
    rw [ho, List.find?_map]
    simp only [Array.not_mem_empty, not_false_eq_true, decide_true, Bool.and_true]
    simp only [Function.comp_def]
    cases List.find? (fun x => decide (x.key = (i : Int))) es <;> rfl

theorem fin_end {es : List Ent} {seen : Array Nat} {l : List Int} (h : ∀ x ∈ es, x.born ∈ seen) : finOpn es seen = es.map (fun x => (x.key, x.pen)) ∧ finLas es seen l = l := by
  refine ⟨?_, ?_⟩
  · unfold finOpn
    rw [← List.filterMap_eq_map]
    apply fm_congr
    intro x hx
    simp [finE, h x hx]
  · unfold finLas
    have : ∀ i v, finW es seen i v = v := by
      intro i v
      unfold finW
      rw [List.find?_eq_none.2]
      intro x hx
      simp [h x hx]
    apply List.ext_getElem (by simp)
    intro i h1 h2
    simp [this]

/-- One entry's turn has come. -/
theorem fin_step {pre post : List Ent} {x : Ent} {seen : Array Nat} (hns : x.born ∉ seen) (hk : ((pre ++ x :: post).map (·.key)).Nodup) (hb : ((pre ++ x :: post).map (·.born)).Nodup)
    (mid : List Ent) (hm : mid = [] ∨ ∃ x', mid = [x'] ∧ x'.born = x.born) (hmid : mid.map (fun x => (x.key, x.pen)) = (fencePen (x.key, x.pen)).toList)
    (l l' : List Int) (hl : l' = if x.pen.fl = 0 then l else l.set x.key.toNat (x.pen.l.getD (x.pen.fl - 1) 0)) (h0 : 0 ≤ x.key) :
    finOpn (pre ++ (mid ++ post)) (seen.push x.born) = finOpn (pre ++ x :: post) seen ∧ finLas (pre ++ (mid ++ post)) (seen.push x.born) l' = finLas (pre ++ x :: post) seen l := by
  simp only [List.map_append, List.map_cons, List.nodup_append, List.nodup_cons, List.mem_cons, List.mem_map] at hk hb
  obtain ⟨_, ⟨k1, _⟩, k2⟩ := hk
  obtain ⟨_, ⟨b1, _⟩, b2⟩ := hb
  have hpre : ∀ y ∈ pre, y.born ≠ x.born ∧ y.key ≠ x.key := fun y hy => ⟨b2 _ ⟨y, hy, rfl⟩ _ (.inl rfl), k2 _ ⟨y, hy, rfl⟩ _ (.inl rfl)⟩
  have hpost : ∀ y ∈ post, y.born ≠ x.born ∧ y.key ≠ x.key := fun y hy => ⟨fun e => b1 ⟨y, hy, e⟩, fun e => k1 ⟨y, hy, e⟩⟩
  have hfE : ∀ y : Ent, y.born ≠ x.born → finE (seen.push x.born) y = finE seen y := by
    intro y hy
    unfold finE
    simp [hy]
  have hmb : ∀ y ∈ mid, y.born = x.born := by
    intro y hy
    rcases hm with rfl | ⟨x', rfl, e⟩
    · simp at hy
    · simp at hy; subst hy; exact e
  refine ⟨?_, ?_⟩
  · unfold finOpn
    simp only [List.filterMap_append, List.filterMap_cons]
    rw [fm_congr (fun y hy => hfE y (hpre y hy).1), fm_congr (g := finE seen) (l := post) (fun y hy => hfE y (hpost y hy).1)]
    congr 1
    have e1 : mid.filterMap (finE (seen.push x.born)) = (fencePen (x.key, x.pen)).toList := by
      rw [← hmid, ← List.filterMap_eq_map]
      apply fm_congr
      intro y hy
      simp [finE, hmb y hy]
    rw [e1]
    have e2 : finE seen x = fencePen (x.key, x.pen) := by simp [finE, hns]
    rw [e2]
    cases fencePen (x.key, x.pen) <;> rfl
  · unfold finLas
    apply List.ext_getElem
    · rw [hl]; split <;> simp
    intro i h1 h2
    simp only [List.getElem_mapIdx]
    have hp : ∀ y : Ent, y.born ≠ x.born → (decide (y.born ∉ seen.push x.born)) = decide (y.born ∉ seen) := by
      intro y hy
      simp [hy]
    have hfind : ∀ (ys : List Ent), (∀ y ∈ ys, y.born ≠ x.born) → ys.find? (fun y => decide (y.key = (i : Int)) && decide (y.born ∉ seen.push x.born)) = ys.find? (fun y => decide (y.key = (i : Int)) && decide (y.born ∉ seen)) := by
      intro ys
      induction ys with
      | nil => intro _; rfl
      | cons y ys ih =>
        intro hys
        simp only [List.find?_cons, hp y (hys y (by simp))]
        rw [ih (fun z hz => hys z (by simp [hz]))]
    have hmidn : mid.find? (fun y => decide (y.key = (i : Int)) && decide (y.born ∉ seen.push x.born)) = none := by
      rw [List.find?_eq_none]
      intro y hy
      simp [hmb y hy]
    unfold finW
    simp only [List.find?_append, List.find?_cons]
    rw [hfind pre (fun y hy => (hpre y hy).1), hfind post (fun y hy => (hpost y hy).1), hmidn]
    by_cases hi : x.key = i
    · have hi' : x.key.toNat = i := by omega
      have n1 : pre.find? (fun y => decide (y.key = (i : Int)) && decide (y.born ∉ seen)) = none := by
        rw [List.find?_eq_none]
        intro y hy
        have := (hpre y hy).2
        rw [hi] at this
        simp [this]
      have n2 : post.find? (fun y => decide (y.key = (i : Int)) && decide (y.born ∉ seen)) = none := by
        rw [List.find?_eq_none]
        intro y hy
        have := (hpost y hy).2
        rw [hi] at this
        simp [this]
      rw [n1, n2]
      simp only [hi, hns, decide_true, not_false_eq_true, Bool.and_self, Option.none_or, Option.or_some, Option.getD_none]
      subst hl
      split
      · rename_i h; simp [h]
      · rename_i h; simp [h, hi']
    · have hi' : ¬ x.key.toNat = i := by omega
      simp only [hi, decide_false, Bool.false_and, Option.none_or]
      have g1 : i < l'.length := by simpa using h1
      have g2 : i < l.length := by simpa using h2
      have hv : l'[i]'g1 = l[i]'g2 := by
        subst hl
        split
        · rfl
        · simp [List.getElem_set, hi']
      rw [hv]

end Go.Proofs.YtichcdoijieddaaGreat.Pm
end

/- A device's fence: its loop's round. -/
section
set_option linter.unusedVariables false
set_option linter.unusedSimpArgs false
set_option maxHeartbeats 400000
namespace Go.Proofs.YtichcdoijieddaaGreat.Pm
open Go Go.RowKit
open Go.ChangeMaps (setBlock)
open Go.Proofs.YtichcdoijieddaaGreat.Ob Go.Proofs.YtichcdoijieddaaGreat.Mp Go.Proofs.YtichcdoijieddaaGreat.Dv Go.Proofs.YtichcdoijieddaaGreat.Wl

theorem left_eq {w : World} {M r clock : Nat} {α : Type} [DecidableEq α] {K : Kk α} {es : List (En α)} {seen : Array Nat} {a c : Nat} (hr : w.heap[r]? = some (.mapIter (some M) a seen c)) (hb : w.heap[M]? = some (obj K es clock)) :
    w.rangeLeft M r = (es.filter fun x => decide (x.2.2 ∉ seen)).length := by
  unfold obj at hb
  simp only [World.rangeLeft, hr, hb, leftOf]
  simp only [List.filter_toArray', List.size_toArray, List.filter_map, List.length_map, ent, Function.comp_def]
  congr 1
  apply List.filter_congr
  intro x _
  simp

theorem left_lt {α : Type} {es es' : List (En α)} {seen : Array Nat} {pre post : List (En α)} {x : En α} (he : es = pre ++ x :: post) (hx : x.2.2 ∉ seen) (mid : List (En α)) (hmid : ∀ y ∈ mid, y.2.2 = x.2.2) (he' : es' = pre ++ (mid ++ post)) :
    (es'.filter fun y => decide (y.2.2 ∉ seen.push x.2.2)).length < (es.filter fun y => decide (y.2.2 ∉ seen)).length := by
  subst he he'
  have h0 : mid.filter (fun y => decide (y.2.2 ∉ seen.push x.2.2)) = [] := by
    rw [List.filter_eq_nil_iff]
    intro y hy
    simp [hmid y hy]
  have hle : ∀ l : List (En α), (l.filter fun y => decide (y.2.2 ∉ seen.push x.2.2)).length ≤ (l.filter fun y => decide (y.2.2 ∉ seen)).length := by
    intro l
    induction l with
    | nil => simp
    | cons y l ih =>
      simp only [List.filter_cons]
      by_cases h1 : y.2.2 ∉ seen.push x.2.2
      · have h2 : y.2.2 ∉ seen := by
          simp at h1
          exact h1.1
        rw [if_pos (by simpa using h1), if_pos (by simpa using h2)]
        simp only [List.length_cons]
        omega
      · rw [if_neg (by simpa using h1)]
        split
        · simp only [List.length_cons]; omega
        · exact ih
  simp only [List.filter_append, List.filter_cons, h0, List.nil_append, List.length_append, hx, not_false_eq_true, decide_true, if_true, List.length_cons]
  have := hle pre
  have := hle post
  omega

/-- A lasting word has turned. -/
theorem dev_las {w : World} {b : Nat} {d : Dev} {g : Lay} (h : DevIs w b d g) {q off n : Nat} (hA : g.A = some ⟨q, off, none⟩) (hq : g.Ls = [q]) (hn : n < d.las.length) (v : Int) (hw : Dev.Wf { d with las := d.las.set n v }) :
    DevIs (w.setCell ⟨q, off + n, none⟩ (.int .u64 v)) b { d with las := d.las.set n v } g ∧ q ∈ g.foot b := by
  have hnd := h.nd
  have hqf : q ∈ g.foot b := by simp [Lay.foot, hq]
  simp only [Lay.foot, hq, List.singleton_append, List.nodup_cons, List.mem_cons, not_or] at hnd
  obtain ⟨⟨b1, b2, b3⟩, ⟨m1, m2⟩, l1, e1⟩ := hnd
  have hk : ∀ k, k ≠ q → (w.setCell ⟨q, off + n, none⟩ (.int .u64 v)).heap[k]? = w.heap[k]? := fun k hk => Below.heap_setCell w _ _ k hk
  refine ⟨⟨?_, ?_, (hk _ m1).trans h.map, fun x hx => (h.ents x hx).keep (hk _ (fun e => l1 (e ▸ (mem_ents hx).1))) (hk _ (fun e => l1 (e ▸ (mem_ents hx).2))), h.opn, h.nd, h.bnd, h.old, hw⟩, hqf⟩
  · rw [hk b b2, h.blk]
    simp [cellsOf]
  · have hl := h.las
    rw [hA] at hl ⊢
    have := hl.set_ (i := n) (by rw [u64s_length]; exact hn) (.int .u64 v)
    simpa [u64s, List.map_set] using this

/-- A word is pending no more. -/
theorem dev_del {w W : World} {b : Nat} {d d' : Dev} {g : Lay} (h : DevIs w b d g) {pre post : List Ent} {x : Ent} (he : g.es = pre ++ x :: post) (hm : W.heap[g.M]? = some (obj (kInt .i64) ((pre ++ post).map Ent.en) g.clock)) (hu : Upd [g.M, x.p, x.q] w W)
    (hc : cellsOf d' g = cellsOf d g) (hl : d'.las = d.las) (ho : d'.opn = (pre ++ post).map fun x => (x.key, x.pen)) (hw : d'.Wf) :
    DevIs W b d' { g with es := pre ++ post } ∧ ∀ k ∈ ({ g with es := pre ++ post } : Lay).foot b, k ∈ g.foot b := by
  have hnd := h.nd
  have hlt := h.lt
  obtain ⟨A, c, Ls, M, clock, es⟩ := g
  simp only at he hm hu
  subst he
  have hsub : List.Sublist (Lay.foot ⟨A, c, Ls, M, clock, pre ++ post⟩ b) (Lay.foot ⟨A, c, Ls, M, clock, pre ++ x :: post⟩ b) := by
    simp only [Lay.foot, Lay.ents, List.flatMap_append, List.flatMap_cons]
    apply List.Sublist.cons_cons
    apply List.Sublist.cons_cons
    apply List.Sublist.append (List.Sublist.refl _)
    apply List.Sublist.append (List.Sublist.refl _)
    exact List.sublist_append_right _ _
  have hnd2 := hnd
  have hfoot : Lay.foot ⟨A, c, Ls, M, clock, pre ++ x :: post⟩ b = b :: M :: (Ls ++ (pre.flatMap (fun x => [x.p, x.q]) ++ (x.p :: x.q :: post.flatMap fun x => [x.p, x.q]))) := by
    simp [Lay.foot, Lay.ents]
  rw [hfoot] at hnd2 hlt
  have hpre : ∀ y ∈ pre, y.p ∈ pre.flatMap (fun x => [x.p, x.q]) ∧ y.q ∈ pre.flatMap (fun x => [x.p, x.q]) := fun y hy => by simp only [List.mem_flatMap]; exact ⟨⟨y, hy, by simp⟩, ⟨y, hy, by simp⟩⟩
  have hpost : ∀ y ∈ post, y.p ∈ post.flatMap (fun x => [x.p, x.q]) ∧ y.q ∈ post.flatMap (fun x => [x.p, x.q]) := fun y hy => by simp only [List.mem_flatMap]; exact ⟨⟨y, hy, by simp⟩, ⟨y, hy, by simp⟩⟩
  generalize pre.flatMap (fun x => [x.p, x.q]) = G at *
  generalize post.flatMap (fun x => [x.p, x.q]) = H at *
  simp only [List.nodup_cons, List.nodup_append, List.mem_cons, List.mem_append, not_or] at hnd2
  obtain ⟨⟨b1, b2, b3, b4, b5, b6⟩, ⟨m1, m2, m3, m4, m5⟩, l1, ⟨g1, ⟨⟨x1, x2⟩, x3, h1⟩, g2⟩, l2⟩ := hnd2
  have keep : ∀ k, k < w.heap.size → k ≠ M → k ≠ x.p → k ≠ x.q → W.heap[k]? = w.heap[k]? := fun k hk n0 n1 n2 => hu.block k hk (by simp [n0, n1, n2])
  have hmem : ∀ y ∈ pre ++ post, y ∈ pre ++ x :: post := by
    intro y hy
    simp only [List.mem_append, List.mem_cons] at hy ⊢
    rcases hy with r | r
    · exact .inl r
    · exact .inr (.inr r)
  refine ⟨⟨?_, ?_, hm, fun y hy => ?_, ho, hsub.nodup hnd, ?_, fun y hy => h.old y (hmem y hy), hw⟩, fun k hk => hsub.subset hk⟩
  · rw [keep b (hlt b (by simp)) b1 b4 b5, h.blk]
    exact congrArg (fun c => some (Obj.cells c _ _)) hc.symm
  · rw [hl]
    refine h.las.keep fun q hq => keep q (hlt q (by simp [hq])) (fun e => m1 (e ▸ hq)) ?_ ?_
    · exact fun e => l2 q hq x.p (by simp) e
    · exact fun e => l2 q hq x.q (by simp) e
  · simp only [List.mem_append] at hy
    rcases hy with hy | hy
    · have hin := hpre y hy
      refine (h.ents y (by simp [hy])).keep (keep _ (hlt _ (by simp [hin.1])) ?_ ?_ ?_) (keep _ (hlt _ (by simp [hin.2])) ?_ ?_ ?_)
      · exact fun e => m2 (e ▸ hin.1)
      · exact fun e => g2 _ hin.1 x.p (by simp) e
      · exact fun e => g2 _ hin.1 x.q (by simp) e
      · exact fun e => m2 (e ▸ hin.2)
      · exact fun e => g2 _ hin.2 x.p (by simp) e
      · exact fun e => g2 _ hin.2 x.q (by simp) e
    · have hin := hpost y hy
      refine (h.ents y (by simp [hy])).keep (keep _ (hlt _ (by simp [hin.1])) ?_ ?_ ?_) (keep _ (hlt _ (by simp [hin.2])) ?_ ?_ ?_)
      · exact fun e => m5 (e ▸ hin.1)
      · exact fun e => x2 (e ▸ hin.1)
      · exact fun e => x3 (e ▸ hin.1)
      · exact fun e => m5 (e ▸ hin.2)
      · exact fun e => x2 (e ▸ hin.2)
      · exact fun e => x3 (e ▸ hin.2)
  · have := h.bnd
    simp only [List.map_append, List.map_cons] at this ⊢
    exact (List.Sublist.append (List.Sublist.refl _) (List.sublist_cons_self _ _)).nodup this

/-! ### what may be, entry by entry -/
theorem wf_las {d : Dev} (h : d.Wf) (n : Nat) (v : Int) : Dev.Wf { d with las := d.las.set n v } :=
  ⟨by simpa using h.len, h.keys, h.lo, by simpa using h.hi, h.ne, h.fl, h.few, h.st, h.lim, h.fuse⟩

theorem wf_sub {d d' : Dev} (h : d.Wf) {pre mid post : List Ent} {x : Ent} (ho : d.opn = (pre ++ x :: post).map fun x => (x.key, x.pen)) (ho' : d'.opn = (pre ++ (mid ++ post)).map fun x => (x.key, x.pen))
    (hm : mid = [] ∨ ∃ x', mid = [x'] ∧ x'.key = x.key ∧ x'.pen.l ≠ [] ∧ x'.pen.fl ≤ x'.pen.l.length ∧ x'.pen.l.length ≤ x.pen.l.length)
    (hl : d'.las.length = d.las.length) (hs : d'.steps = d.steps) (hst : d'.stores = d.stores) (hfu : d'.fuse = d.fuse) : d'.Wf := by
  have hkeys := h.keys
  have hin : ∀ z ∈ d'.opn, z ∈ d.opn ∨ ∃ x', mid = [x'] ∧ z = (x'.key, x'.pen) := by
    intro z hz
    rw [ho'] at hz
    rw [ho]
    simp only [List.map_append, List.map_cons, List.mem_append, List.mem_cons] at hz ⊢
    rcases hz with hz | hz | hz
    · exact .inl (.inl hz)
    · rcases hm with rfl | ⟨x', rfl, _⟩
      · simp at hz
      · simp at hz
        exact .inr ⟨x', rfl, hz⟩
    · exact .inl (.inr (.inr hz))
  have hxm : (x.key, x.pen) ∈ d.opn := by rw [ho]; simp
  refine ⟨by rw [hl]; exact h.len, ?_, fun z hz => ?_, fun z hz => ?_, fun z hz => ?_, fun z hz => ?_, fun z hz => ?_, by rw [hs, hst]; exact h.st, by rw [hs]; exact h.lim, by rw [hfu]; exact h.fuse⟩
  · rw [ho'] 
    rw [ho] at hkeys
    simp only [List.map_append, List.map_cons, List.map_map, Function.comp_def] at hkeys ⊢
    rcases hm with rfl | ⟨x', rfl, e, _⟩
    · simp only [List.map_nil, List.nil_append]
      exact (List.Sublist.append (List.Sublist.refl _) (List.sublist_cons_self _ _)).nodup hkeys
    · simp only [List.map_cons, List.map_nil, List.cons_append, List.nil_append, e]
      exact hkeys
  all_goals
    rcases hin z hz with r | ⟨x', rfl, rfl⟩
  · exact h.lo z r
  · rcases hm with c | ⟨x'', c, e, _⟩
    · simp at c
    · simp at c; subst c; simp only [e]; exact h.lo _ hxm
  · rw [hl]; exact h.hi z r
  · rcases hm with c | ⟨x'', c, e, _⟩
    · simp at c
    · simp at c; subst c; simp only [e, hl]; exact h.hi _ hxm
  · exact h.ne z r
  · rcases hm with c | ⟨x'', c, e, e2, _⟩
    · simp at c
    · simp at c; subst c; exact e2
  · exact h.fl z r
  · rcases hm with c | ⟨x'', c, e, e2, e3, _⟩
    · simp at c
    · simp at c; subst c; exact e3
  · rw [hst]; exact h.few z r
  · rcases hm with c | ⟨x'', c, e, e2, e3, e4⟩
    · simp at c
    · simp at c; subst c
      have := h.few _ hxm
      simp only at this ⊢
      omega

end Go.Proofs.YtichcdoijieddaaGreat.Pm
end
