/- Parts of the proof, one behind the other: PmG, PmH, PmI, PmJ. -/
import Derived.Test.YtgnagbbdnlmgeaaGreatC03
import Derived.LoopTactic
import Derived.RegionTactic
import Derived.ChangeAlike
import Derived.Maps.RangeWalk

/- A device's flush of a line. -/
section
set_option linter.unusedVariables false
set_option linter.unusedSimpArgs false
set_option maxHeartbeats 400000
namespace Go.Proofs.YtgnagbbdnlmgeaaGreat.Pm
open Go Go.RowKit
open Go.ChangeMaps (setBlock)
open Go.Proofs.YtgnagbbdnlmgeaaGreat.Ob Go.Proofs.YtgnagbbdnlmgeaaGreat.Mp Go.Proofs.YtgnagbbdnlmgeaaGreat.Dv Go.Proofs.YtgnagbbdnlmgeaaGreat.Wl

/-- the pending word k turned by f -/
def atKey (k : Int) (f : Pen → Pen) (y : Int × Pen) : Int × Pen := if y.1 = k then (y.1, f y.2) else y

theorem atKey_split {d : Dev} {g : Lay} (ho : d.opn = g.es.map fun x => (x.key, x.pen)) (hk : (d.opn.map (·.1)).Nodup) {pre post : List Ent} {x : Ent} (he : g.es = pre ++ x :: post) (f : Pen → Pen) (x' : Ent) (h1 : x'.key = x.key) (h2 : x'.pen = f x.pen) :
    d.opn.map (atKey x.key f) = (pre ++ x' :: post).map fun x => (x.key, x.pen) := by
  rw [ho, he] at hk ⊢
  simp only [List.map_append, List.map_cons, List.map_map, List.nodup_append, List.nodup_cons, List.mem_map, List.mem_cons, Function.comp] at hk
  obtain ⟨_, ⟨h3, _⟩, h4⟩ := hk
  simp only [List.map_append, List.map_cons, atKey, if_true]
  rw [h1, h2]
  congr 1
  · rw [List.map_map]
    apply List.map_congr_left
    intro y hy
    simp only [Function.comp, atKey]
    rw [if_neg]
    exact fun e => h4 y.key ⟨y, hy, rfl⟩ x.key (.inl rfl) e
  · congr 1
    rw [List.map_map]
    apply List.map_congr_left
    intro y hy
    simp only [Function.comp, atKey]
    rw [if_neg]
    exact fun e => h3 ⟨y, hy, e⟩

theorem atKey_none {d : Dev} {g : Lay} (ho : d.opn = g.es.map fun x => (x.key, x.pen)) {k : Int} (hn : ∀ x ∈ g.es, x.key ≠ k) (f : Pen → Pen) : d.opn.map (atKey k f) = d.opn := by
  rw [ho, List.map_map]
  apply List.map_congr_left
  intro y hy
  simp only [Function.comp, atKey]
  rw [if_neg (hn y hy)]

def flushP (p : Pen) : Pen := ⟨p.l, p.l.length⟩
/-- the words from lo to below k are flushed -/
def flPart (lo k : Int) (y : Int × Pen) : Int × Pen := if lo ≤ y.1 ∧ y.1 < k then (y.1, flushP y.2) else y

theorem flPart_succ (lo k : Int) (h : lo ≤ k) (l : List (Int × Pen)) : l.map (flPart lo (k + 1)) = (l.map (flPart lo k)).map (atKey k flushP) := by
  rw [List.map_map]
  apply List.map_congr_left
  intro y _
  show flPart lo (k + 1) y = atKey k flushP (flPart lo k y)
  by_cases h1 : lo ≤ y.1 ∧ y.1 < k
  · have e1 : flPart lo k y = (y.1, flushP y.2) := if_pos h1
    have e2 : flPart lo (k + 1) y = (y.1, flushP y.2) := if_pos (by omega)
    have e3 : atKey k flushP (y.1, flushP y.2) = (y.1, flushP y.2) := if_neg (by show ¬ y.1 = k; omega)
    rw [e1, e2, e3]
  · have e1 : flPart lo k y = y := if_neg h1
    rw [e1]
    by_cases h2 : y.1 = k
    · have e2 : flPart lo (k + 1) y = (y.1, flushP y.2) := if_pos (by omega)
      have e3 : atKey k flushP y = (y.1, flushP y.2) := if_pos h2
      rw [e2, e3]
    · have e2 : flPart lo (k + 1) y = y := if_neg (by omega)
      have e3 : atKey k flushP y = y := if_neg h2
      rw [e2, e3]
theorem flPart_zero (lo : Int) (l : List (Int × Pen)) : l.map (flPart lo lo) = l := by
  conv => rhs; rw [← List.map_id l]
  apply List.map_congr_left
  intro y _
  simp only [flPart, id]
  rw [if_neg (by omega)]
theorem flPart_all (line : Int) (h : 0 ≤ line) (l : List (Int × Pen)) (hl : ∀ x ∈ l, 0 ≤ x.1) : l.map (flPart (line * 8) (line * 8 + 8)) = l.map (flushPen line) := by
  apply List.map_congr_left
  intro y hy
  have := hl y hy
  simp only [flPart, flushPen, flushP]
  by_cases h1 : y.1 / 8 = line
  · rw [if_pos (by omega), if_pos h1]
  · rw [if_neg (by omega), if_neg h1]

theorem same_keys_wf {d d' : Dev} (h : d.Wf) {f : Int × Pen → Int × Pen} (h1 : ∀ y, (f y).1 = y.1) (h2 : ∀ y, (f y).2.l = y.2.l) (h3 : ∀ y, y.2.fl ≤ y.2.l.length → (f y).2.fl ≤ y.2.l.length)
    (ho : d'.opn = d.opn.map f) (hl : d'.las = d.las) (hs : d'.steps = d.steps) (hst : d'.stores = d.stores) (hfu : d'.fuse = d.fuse) : d'.Wf := by
  have hm : ∀ x ∈ d'.opn, ∃ y ∈ d.opn, x = f y := by
    intro x hx
    rw [ho] at hx
    simp only [List.mem_map] at hx
    obtain ⟨y, hy, rfl⟩ := hx
    exact ⟨y, hy, rfl⟩
  refine ⟨by rw [hl]; exact h.len, ?_, fun x hx => ?_, fun x hx => ?_, fun x hx => ?_, fun x hx => ?_, fun x hx => ?_, by rw [hs, hst]; exact h.st, by rw [hs]; exact h.lim, by rw [hfu]; exact h.fuse⟩
  · rw [ho, List.map_map, show ((fun x : Int × Pen => x.1) ∘ f) = (fun x => x.1) from funext h1]
    exact h.keys
  all_goals
    obtain ⟨y, hy, rfl⟩ := hm x hx
  · rw [h1]; exact h.lo y hy
  · rw [h1, hl]; exact h.hi y hy
  · rw [h2]; exact h.ne y hy
  · rw [h2]; exact h3 y (h.fl y hy)
  · rw [h2, hst]; exact h.few y hy

def _root_.Go.Proofs.YtgnagbbdnlmgeaaGreat.Dv.Dev.withOpn (d : Dev) (l : List (Int × Pen)) : Dev := { d with opn := l }

theorem flush_wf {d : Dev} (h : d.Wf) (lo k : Int) : (d.withOpn (d.opn.map (flPart lo k))).Wf :=
  same_keys_wf h (f := flPart lo k) (fun y => by unfold flPart; split <;> rfl) (fun y => by unfold flPart; split <;> rfl) (fun y hy => by unfold flPart flushP; split <;> simp [hy]) rfl rfl rfl rfl rfl

theorem flush_no {w : World} {b : Nat} {d : Dev} {g : Lay} (h : DevIs w b d g) (line : Int) (hn : d.flushOk line = false) :
    Calls Tryz.prog 153 #[.pointer (some ⟨b, 0, none⟩), .int .i64 line] w fun e w' => e = .returned (.bool false) ∧ w = w' := by
  obtain ⟨c0, c1, c2, c3, c4, c5⟩ := dev_cells h
  have hlen := h.wf.len
  have HH := Lib.hid h
  clear c0 c1 c3 c4 c5 h
  by_cases h0 : line < 0
  · clear hn
    go_enter Tryz.func153, Tryz.ntmps153
    go_wp2_with fail
    go_ret
    exact ⟨rfl, rfl⟩
  · by_cases hz : d.las.length = 0
    · have hz' : ((d.las.length : Int) == 0) = true := by simp [hz]
      have HZ := Lib.hid hz
      by_cases h1 : line = 0
      · subst h1
        rw [hz] at c2
        clear hn hz hz'
        go_enter Tryz.func153, Tryz.ntmps153
        go_wp2_with fail
        go_ret
        exact ⟨rfl, rfl⟩
      · rw [hz] at c2
        clear hn hz hz'
        have h2 : 0 < line := by omega
        clear h1
        go_enter Tryz.func153, Tryz.ntmps153
        go_wp2_with fail
        go_ret
        exact ⟨rfl, rfl⟩
    · have hz0 : 1 ≤ d.las.length := by omega
      by_cases h1 : 8 * line < d.las.length
      · have hd : d.down = true := by
          simp only [Dev.flushOk, Bool.and_eq_false_iff, decide_eq_false_iff_not, Bool.not_eq_false'] at hn
          rcases hn with (hn | hn) | hn
          · omega
          · omega
          · exact hn
        have hs := step_down HH.out hd false
        have HS := Lib.hid hs
        have h2 : line ≤ ((d.las.length : Int) - 1) / 8 := by omega
        have h3 : ((d.las.length : Int) == 0) = false := beq_eq_false_iff_ne.2 (by omega)
        clear hs hn hd
        go_enter Tryz.func153, Tryz.ntmps153
        go_wp2_with (go_at_call 184; refine HS.out.mono ?_; rintro e w' ⟨rfl, rfl⟩)
        go_ret
        exact ⟨rfl, rfl⟩
      · have h2 : ((d.las.length : Int) - 1) / 8 < line := by omega
        clear hn
        go_enter Tryz.func153, Tryz.ntmps153
        go_wp2_with fail
        go_ret
        exact ⟨rfl, rfl⟩

/-- where the loop of a flush stands -/
def FlRel (w : World) (b : Nat) (d : Dev) (g : Lay) (line : Int) (wr : World) (k : Int) : Prop :=
  ∃ gk, DevIs wr b ((d.stepped false).withOpn (d.opn.map (flPart (line * 8) k))) gk ∧ (∀ x ∈ gk.foot b, x ∈ g.foot b) ∧ Upd (g.foot b) w wr

theorem fl_none {w wr : World} {b : Nat} {d : Dev} {g gk : Lay} {line k : Int} (hk : line * 8 ≤ k) (h : DevIs wr b ((d.stepped false).withOpn (d.opn.map (flPart (line * 8) k))) gk) (hf : ∀ x ∈ gk.foot b, x ∈ g.foot b) (hu : Upd (g.foot b) w wr)
    (hn : ∀ x ∈ gk.es, x.key ≠ k) : FlRel w b d g line wr (k + 1) := by
  refine ⟨gk, ?_, hf, hu⟩
  rw [flPart_succ _ _ hk]
  have := atKey_none h.opn hn flushP
  simp only [Dev.withOpn] at this ⊢
  rw [this]
  exact h

theorem fl_some {w wr W : World} {b : Nat} {d : Dev} {g gk : Lay} {line k : Int} (hk : line * 8 ≤ k) (h : DevIs wr b ((d.stepped false).withOpn (d.opn.map (flPart (line * 8) k))) gk) (hf : ∀ x ∈ gk.foot b, x ∈ g.foot b) (hu : Upd (g.foot b) w wr)
    (hw : d.Wf) (hlim : d.steps < 1099511627776)
    {pre post : List Ent} {x : Ent} (he : gk.es = pre ++ x :: post) (hp : ∀ y ∈ pre, y.key ≠ x.key) (hxk : x.key = k) (hW : W = wr.setCell ⟨x.p, 1, none⟩ (.int .i64 x.pen.l.length)) : FlRel w b d g line W (k + 1) := by
  have hxm : x ∈ gk.es := by rw [he]; simp
  obtain ⟨h1, cs, h2, h3, h4, h5⟩ := h.ents x hxm
  have hpq := ne_pq h hxm
  subst hxk hW
  have hu2 : Upd [x.p, x.q] wr (wr.setCell ⟨x.p, 1, none⟩ (.int .i64 x.pen.l.length)) := (Upd.refl _ _).setCell (by simp) _
  obtain ⟨r1, r2⟩ := dev_ent (d' := (d.stepped false).withOpn (d.opn.map (flPart (line * 8) (x.key + 1)))) h he hu2 (x' := { x with pen := flushP x.pen })
    ⟨set_b h1 1 _ rfl, cs, set_other h2 (fun e => hpq e.symm) _, h3, h4, h5⟩ rfl rfl rfl (.inl rfl) rfl rfl
    (by rw [flPart_succ _ _ hk]; exact atKey_split h.opn h.wf.keys he flushP _ rfl rfl) (flush_wf (stepped_wf hw false hlim) _ _)
  refine ⟨_, r1, fun y hy => ?_, hu.trans hu2 fun y hy => ?_⟩
  · have hin := (mem_ents hxm)
    simp only [Lay.foot, Lay.ents, List.mem_cons, List.mem_append, List.flatMap_append, List.flatMap_cons] at hy
    apply hf
    simp only [Lay.foot, Lay.ents, he, List.mem_cons, List.mem_append, List.flatMap_append, List.flatMap_cons]
    exact hy
  · left
    have hin := (mem_ents hxm)
    simp only [List.mem_cons, List.not_mem_nil, or_false] at hy
    rcases hy with rfl | rfl
    · exact hf _ (by simp [Lay.foot, hin.1])
    · exact hf _ (by simp [Lay.foot, hin.2])

set_option maxRecDepth 100000 in
theorem flush_go {w : World} {b : Nat} {d : Dev} {g : Lay} (h : DevIs w b d g) (line : Int) (hok : d.flushOk line = true) (hlim : d.steps < 1099511627776) :
    Calls Tryz.prog 153 #[.pointer (some ⟨b, 0, none⟩), .int .i64 line] w fun e w' => e = .returned (.bool true) ∧ DevTo w w' b g (d.flushed line) := by
  obtain ⟨c0, c1, c2, c3, c4, c5⟩ := dev_cells h
  have hlen := h.wf.len
  have hfin : d.flushed line = (d.stepped false).withOpn (d.opn.map (flPart (line * 8) (line * 8 + 8))) := by
    simp only [Dev.flushOk, Bool.and_eq_true, decide_eq_true_eq] at hok
    unfold Dev.flushed
    rw [if_pos (by simp only [Dev.flushOk, Bool.and_eq_true, decide_eq_true_eq]; exact hok), flPart_all line hok.1.1 _ h.wf.lo]
    rfl
  have hok2 := hok
  simp only [Dev.flushOk, Bool.and_eq_true, decide_eq_true_eq, Bool.not_eq_true'] at hok2
  obtain ⟨⟨h0, h1⟩, hd⟩ := hok2
  have hs := step_go h hd hlim false
  have h2 : line ≤ ((d.las.length : Int) - 1) / 8 := by omega
  have h3 : ((d.las.length : Int) == 0) = false := beq_eq_false_iff_ne.2 (by omega)
  have h4 : 1 ≤ d.las.length := by omega
  have H := Lib.hid h
  have HS := Lib.hid hs
  have HF := Lib.hid hfin
  clear c0 c1 c3 c4 c5 h hok hfin hs hd
  go_enter Tryz.func153, Tryz.ntmps153
  go_wp2_with (go_at_call 184; refine HS.out.mono ?_; rintro e w1 ⟨rfl, hu1, hd1⟩; (have HU1 := Lib.hid hu1); (have HD1 := Lib.hid hd1); clear hu1 hd1 c2)
  go_loopw [5] (fun c wr => ∃ k : Int, line * 8 ≤ k ∧ k ≤ line * 8 + 8 ∧ c = .int .i64 k ∧ FlRel w b d g line wr k) (fun c _ => (line * 8 + 8 - intOf c).toNat)
  case atStart =>
    refine ⟨line * 8, by omega, by omega, rfl, g, ?_, fun _ hx => hx, HU1.out.mono fun x hx => ?_⟩
    · rw [flPart_zero]; exact HD1.out
    · simp at hx; subst hx; simp [Lay.foot]
  case round =>
    obtain ⟨k, hk0, hk1, rfl, gk, hdk, hfk, huk⟩ := hrel
    obtain ⟨c0, c1, c2, c3, c4, c5⟩ := dev_cells hdk
    clear c0 c1 c2 c4 c5
    by_cases hlt : k < line * 8 + 8
    · rcases find_split gk.es k with hn | ⟨pre, x, post, he, hxk, hp⟩
      · have hl := look_none hdk hn
        have HR := Lib.hid (fl_none (g := g) hk0 hdk hfk huk hn)
        clear hdk hfk huk hn
        go_wp2_with fail
        go_roundw
        case rel => exact ⟨k + 1, by omega, by omega, rfl, HR.out⟩
        case measure => simp [intOf]; omega
      · have hl := look_some hdk he (by rw [hxk]; exact hp)
        have hxm : x ∈ gk.es := by rw [he]; simp
        obtain ⟨p0, p1, f0, f1, po, ps, pc⟩ := ent_facts (hdk.ents x hxm)
        have hpl := pen_len hdk hxm
        rw [hxk] at hl
        have HR := Lib.hid (fun W => fl_some (g := g) (W := W) hk0 hdk hfk huk H.out.wf hlim he (by rw [hxk]; exact hp) hxk)
        clear hdk hfk huk hp he hxk po ps
        go_wp2_with fail
        go_roundw
        case rel => exact ⟨k + 1, by omega, by omega, rfl, HR.out _ rfl⟩
        case measure => simp [intOf]; omega
    · obtain rfl : k = line * 8 + 8 := by omega
      have HR := Lib.hid (And.intro hdk (And.intro hfk huk))
      clear hdk hfk huk
      go_wp2_with fail
      go_ret
      exact ⟨rfl, gk, by rw [HF.out]; exact HR.out.1, fun x hx => .inl (HR.out.2.1 x hx), HR.out.2.2⟩

theorem flush_any {w : World} {b : Nat} {d : Dev} {g : Lay} (h : DevIs w b d g) (line : Int) (hlim : d.steps < 1099511627776) :
    Calls Tryz.prog 153 #[.pointer (some ⟨b, 0, none⟩), .int .i64 line] w fun e w' => e = .returned (.bool (d.flushOk line)) ∧ DevTo w w' b g (d.flushed line) := by
  cases hok : d.flushOk line with
  | false =>
    refine (flush_no h line hok).mono ?_
    rintro e w' ⟨rfl, rfl⟩
    refine ⟨rfl, g, ?_, fun k hk => .inl hk, Upd.refl _ _⟩
    unfold Dev.flushed
    rw [if_neg (by simp [hok])]
    exact h
  | true => exact flush_go h line hok hlim

end Go.Proofs.YtgnagbbdnlmgeaaGreat.Pm
end

/- A device's fence: plain facts. -/
section
set_option linter.unusedVariables false
set_option linter.unusedSimpArgs false
set_option maxHeartbeats 400000
namespace Go.Proofs.YtgnagbbdnlmgeaaGreat.Pm
open Go Go.RowKit
open Go.ChangeMaps (setBlock)
open Go.Proofs.YtgnagbbdnlmgeaaGreat.Ob Go.Proofs.YtgnagbbdnlmgeaaGreat.Mp Go.Proofs.YtgnagbbdnlmgeaaGreat.Dv Go.Proofs.YtgnagbbdnlmgeaaGreat.Wl

theorem fm_congr {α β : Type} {f g : α → Option β} : ∀ {l : List α}, (∀ x ∈ l, f x = g x) → l.filterMap f = l.filterMap g
  | [], _ => rfl
  | x :: l, h => by
    simp only [List.filterMap_cons, h x (by simp)]
    rw [fm_congr (l := l) (fun y hy => h y (by simp [hy]))]

/-- what an entry becomes, if its turn has not come yet -/
def finE (seen : Array Nat) (x : Ent) : Option (Int × Pen) := if x.born ∈ seen then some (x.key, x.pen) else fencePen (x.key, x.pen)
def finOpn (es : List Ent) (seen : Array Nat) : List (Int × Pen) := es.filterMap (finE seen)
def finW (es : List Ent) (seen : Array Nat) (i : Nat) (v : Int) : Int := match es.find? (fun x => decide (x.key = (i : Int)) && decide (x.born ∉ seen)) with
  | some y => if y.pen.fl = 0 then v else y.pen.l.getD (y.pen.fl - 1) 0
  | none => v
def finLas (es : List Ent) (seen : Array Nat) (l : List Int) : List Int := l.mapIdx (finW es seen)

theorem fin_start {d : Dev} {es : List Ent} (ho : d.opn = es.map fun x => (x.key, x.pen)) : finOpn es #[] = d.opn.filterMap fencePen ∧ finLas es #[] d.las = d.las.mapIdx (fenceWord d.opn) := by
  refine ⟨?_, ?_⟩
  · rw [ho, List.filterMap_map]
    unfold finOpn
    congr 1
    funext x
    simp [finE]
  · unfold finLas
    congr 1
    funext i v
    unfold finW fenceWord
    rw [ho, List.find?_map]
    simp only [Array.not_mem_empty, not_false_eq_true, decide_true, Bool.and_true]
    simp only [Function.comp_def]
    cases List.find? (fun x => decide (x.key = (i : Int))) es <;> rfl

theorem fin_end {es : List Ent} {seen : Array Nat} {l : List Int} (h : ∀ x ∈ es, x.born ∈ seen) : finOpn es seen = es.map (fun x => (x.key, x.pen)) ∧ finLas es seen l = l := by
  refine ⟨?_, ?_⟩
  · unfold finOpn
    rw [← List.filterMap_eq_map]
    apply fm_congr
    intro x hx
    simp [finE, h x hx]
  · unfold finLas
    have : ∀ i v, finW es seen i v = v := by
      intro i v
      unfold finW
      rw [List.find?_eq_none.2]
      intro x hx
      simp [h x hx]
    apply List.ext_getElem (by simp)
    intro i h1 h2
    simp [this]

/-- One entry's turn has come. -/
theorem fin_step {pre post : List Ent} {x : Ent} {seen : Array Nat} (hns : x.born ∉ seen) (hk : ((pre ++ x :: post).map (·.key)).Nodup) (hb : ((pre ++ x :: post).map (·.born)).Nodup)
    (mid : List Ent) (hm : mid = [] ∨ ∃ x', mid = [x'] ∧ x'.born = x.born) (hmid : mid.map (fun x => (x.key, x.pen)) = (fencePen (x.key, x.pen)).toList)
    (l l' : List Int) (hl : l' = if x.pen.fl = 0 then l else l.set x.key.toNat (x.pen.l.getD (x.pen.fl - 1) 0)) (h0 : 0 ≤ x.key) :
    finOpn (pre ++ (mid ++ post)) (seen.push x.born) = finOpn (pre ++ x :: post) seen ∧ finLas (pre ++ (mid ++ post)) (seen.push x.born) l' = finLas (pre ++ x :: post) seen l := by
  simp only [List.map_append, List.map_cons, List.nodup_append, List.nodup_cons, List.mem_cons, List.mem_map] at hk hb
  obtain ⟨_, ⟨k1, _⟩, k2⟩ := hk
  obtain ⟨_, ⟨b1, _⟩, b2⟩ := hb
  have hpre : ∀ y ∈ pre, y.born ≠ x.born ∧ y.key ≠ x.key := fun y hy => ⟨b2 _ ⟨y, hy, rfl⟩ _ (.inl rfl), k2 _ ⟨y, hy, rfl⟩ _ (.inl rfl)⟩
  have hpost : ∀ y ∈ post, y.born ≠ x.born ∧ y.key ≠ x.key := fun y hy => ⟨fun e => b1 ⟨y, hy, e⟩, fun e => k1 ⟨y, hy, e⟩⟩
  have hfE : ∀ y : Ent, y.born ≠ x.born → finE (seen.push x.born) y = finE seen y := by
    intro y hy
    unfold finE
    simp [hy]
  have hmb : ∀ y ∈ mid, y.born = x.born := by
    intro y hy
    rcases hm with rfl | ⟨x', rfl, e⟩
    · simp at hy
    · simp at hy; subst hy; exact e
  refine ⟨?_, ?_⟩
  · unfold finOpn
    simp only [List.filterMap_append, List.filterMap_cons]
    rw [fm_congr (fun y hy => hfE y (hpre y hy).1), fm_congr (g := finE seen) (l := post) (fun y hy => hfE y (hpost y hy).1)]
    congr 1
    have e1 : mid.filterMap (finE (seen.push x.born)) = (fencePen (x.key, x.pen)).toList := by
      rw [← hmid, ← List.filterMap_eq_map]
      apply fm_congr
      intro y hy
      simp [finE, hmb y hy]
    rw [e1]
    have e2 : finE seen x = fencePen (x.key, x.pen) := by simp [finE, hns]
    rw [e2]
    cases fencePen (x.key, x.pen) <;> rfl
  · unfold finLas
    apply List.ext_getElem
    · rw [hl]; split <;> simp
    intro i h1 h2
    simp only [List.getElem_mapIdx]
    have hp : ∀ y : Ent, y.born ≠ x.born → (decide (y.born ∉ seen.push x.born)) = decide (y.born ∉ seen) := by
      intro y hy
      simp [hy]
    have hfind : ∀ (ys : List Ent), (∀ y ∈ ys, y.born ≠ x.born) → ys.find? (fun y => decide (y.key = (i : Int)) && decide (y.born ∉ seen.push x.born)) = ys.find? (fun y => decide (y.key = (i : Int)) && decide (y.born ∉ seen)) := by
      intro ys
      induction ys with
      | nil => intro _; rfl
      | cons y ys ih =>
        intro hys
        simp only [List.find?_cons, hp y (hys y (by simp))]
        rw [ih (fun z hz => hys z (by simp [hz]))]
    have hmidn : mid.find? (fun y => decide (y.key = (i : Int)) && decide (y.born ∉ seen.push x.born)) = none := by
      rw [List.find?_eq_none]
      intro y hy
      simp [hmb y hy]
    unfold finW
    simp only [List.find?_append, List.find?_cons]
    rw [hfind pre (fun y hy => (hpre y hy).1), hfind post (fun y hy => (hpost y hy).1), hmidn]
    by_cases hi : x.key = i
    · have hi' : x.key.toNat = i := by omega
      have n1 : pre.find? (fun y => decide (y.key = (i : Int)) && decide (y.born ∉ seen)) = none := by
        rw [List.find?_eq_none]
        intro y hy
        have := (hpre y hy).2
        rw [hi] at this
        simp [this]
      have n2 : post.find? (fun y => decide (y.key = (i : Int)) && decide (y.born ∉ seen)) = none := by
        rw [List.find?_eq_none]
        intro y hy
        have := (hpost y hy).2
        rw [hi] at this
        simp [this]
      rw [n1, n2]
      simp only [hi, hns, decide_true, not_false_eq_true, Bool.and_self, Option.none_or, Option.or_some, Option.getD_none]
      subst hl
      split
      · rename_i h; simp [h]
      · rename_i h; simp [h, hi']
    · have hi' : ¬ x.key.toNat = i := by omega
      simp only [hi, decide_false, Bool.false_and, Option.none_or]
      have g1 : i < l'.length := by simpa using h1
      have g2 : i < l.length := by simpa using h2
      have hv : l'[i]'g1 = l[i]'g2 := by
        subst hl
        split
        · rfl
        · simp [List.getElem_set, hi']
      rw [hv]

end Go.Proofs.YtgnagbbdnlmgeaaGreat.Pm
end

/- A device's fence: its loop's round. -/
section
set_option linter.unusedVariables false
set_option linter.unusedSimpArgs false
set_option maxHeartbeats 400000
namespace Go.Proofs.YtgnagbbdnlmgeaaGreat.Pm
open Go Go.RowKit
open Go.ChangeMaps (setBlock)
open Go.Proofs.YtgnagbbdnlmgeaaGreat.Ob Go.Proofs.YtgnagbbdnlmgeaaGreat.Mp Go.Proofs.YtgnagbbdnlmgeaaGreat.Dv Go.Proofs.YtgnagbbdnlmgeaaGreat.Wl

theorem left_eq {w : World} {M r clock : Nat} {α : Type} [DecidableEq α] {K : Kk α} {es : List (En α)} {seen : Array Nat} {a c : Nat} (hr : w.heap[r]? = some (.mapIter (some M) a seen c)) (hb : w.heap[M]? = some (obj K es clock)) :
    w.rangeLeft M r = (es.filter fun x => decide (x.2.2 ∉ seen)).length := by
  unfold obj at hb
  simp only [World.rangeLeft, hr, hb, leftOf]
  simp only [List.filter_toArray', List.size_toArray, List.filter_map, List.length_map, ent, Function.comp_def]
  congr 1
  apply List.filter_congr
  intro x _
  simp

theorem left_lt {α : Type} {es es' : List (En α)} {seen : Array Nat} {pre post : List (En α)} {x : En α} (he : es = pre ++ x :: post) (hx : x.2.2 ∉ seen) (mid : List (En α)) (hmid : ∀ y ∈ mid, y.2.2 = x.2.2) (he' : es' = pre ++ (mid ++ post)) :
    (es'.filter fun y => decide (y.2.2 ∉ seen.push x.2.2)).length < (es.filter fun y => decide (y.2.2 ∉ seen)).length := by
  subst he he'
  have h0 : mid.filter (fun y => decide (y.2.2 ∉ seen.push x.2.2)) = [] := by
    rw [List.filter_eq_nil_iff]
    intro y hy
    simp [hmid y hy]
  have hle : ∀ l : List (En α), (l.filter fun y => decide (y.2.2 ∉ seen.push x.2.2)).length ≤ (l.filter fun y => decide (y.2.2 ∉ seen)).length := by
    intro l
    induction l with
    | nil => simp
    | cons y l ih =>
      simp only [List.filter_cons]
      by_cases h1 : y.2.2 ∉ seen.push x.2.2
      · have h2 : y.2.2 ∉ seen := by
          simp at h1
          exact h1.1
        rw [if_pos (by simpa using h1), if_pos (by simpa using h2)]
        simp only [List.length_cons]
        omega
      · rw [if_neg (by simpa using h1)]
        split
        · simp only [List.length_cons]; omega
        · exact ih
  simp only [List.filter_append, List.filter_cons, h0, List.nil_append, List.length_append, hx, not_false_eq_true, decide_true, if_true, List.length_cons]
  have := hle pre
  have := hle post
  omega

/-- A lasting word has turned. -/
theorem dev_las {w : World} {b : Nat} {d : Dev} {g : Lay} (h : DevIs w b d g) {q off n : Nat} (hA : g.A = some ⟨q, off, none⟩) (hq : g.Ls = [q]) (hn : n < d.las.length) (v : Int) (hw : Dev.Wf { d with las := d.las.set n v }) :
    DevIs (w.setCell ⟨q, off + n, none⟩ (.int .u64 v)) b { d with las := d.las.set n v } g ∧ q ∈ g.foot b := by
  have hnd := h.nd
  have hqf : q ∈ g.foot b := by simp [Lay.foot, hq]
  simp only [Lay.foot, hq, List.singleton_append, List.nodup_cons, List.mem_cons, not_or] at hnd
  obtain ⟨⟨b1, b2, b3⟩, ⟨m1, m2⟩, l1, e1⟩ := hnd
  have hk : ∀ k, k ≠ q → (w.setCell ⟨q, off + n, none⟩ (.int .u64 v)).heap[k]? = w.heap[k]? := fun k hk => Below.heap_setCell w _ _ k hk
  refine ⟨⟨?_, ?_, (hk _ m1).trans h.map, fun x hx => (h.ents x hx).keep (hk _ (fun e => l1 (e ▸ (mem_ents hx).1))) (hk _ (fun e => l1 (e ▸ (mem_ents hx).2))), h.opn, h.nd, h.bnd, h.old, hw⟩, hqf⟩
  · rw [hk b b2, h.blk]
    simp [cellsOf]
  · have hl := h.las
    rw [hA] at hl ⊢
    have := hl.set_ (i := n) (by rw [u64s_length]; exact hn) (.int .u64 v)
    simpa [u64s, List.map_set] using this

/-- A word is pending no more. -/
theorem dev_del {w W : World} {b : Nat} {d d' : Dev} {g : Lay} (h : DevIs w b d g) {pre post : List Ent} {x : Ent} (he : g.es = pre ++ x :: post) (hm : W.heap[g.M]? = some (obj (kInt .i64) ((pre ++ post).map Ent.en) g.clock)) (hu : Upd [g.M, x.p, x.q] w W)
    (hc : cellsOf d' g = cellsOf d g) (hl : d'.las = d.las) (ho : d'.opn = (pre ++ post).map fun x => (x.key, x.pen)) (hw : d'.Wf) :
    DevIs W b d' { g with es := pre ++ post } ∧ ∀ k ∈ ({ g with es := pre ++ post } : Lay).foot b, k ∈ g.foot b := by
  have hnd := h.nd
  have hlt := h.lt
  obtain ⟨A, c, Ls, M, clock, es⟩ := g
  simp only at he hm hu
  subst he
  have hsub : List.Sublist (Lay.foot ⟨A, c, Ls, M, clock, pre ++ post⟩ b) (Lay.foot ⟨A, c, Ls, M, clock, pre ++ x :: post⟩ b) := by
    simp only [Lay.foot, Lay.ents, List.flatMap_append, List.flatMap_cons]
    apply List.Sublist.cons_cons
    apply List.Sublist.cons_cons
    apply List.Sublist.append (List.Sublist.refl _)
    apply List.Sublist.append (List.Sublist.refl _)
    exact List.sublist_append_right _ _
  have hnd2 := hnd
  have hfoot : Lay.foot ⟨A, c, Ls, M, clock, pre ++ x :: post⟩ b = b :: M :: (Ls ++ (pre.flatMap (fun x => [x.p, x.q]) ++ (x.p :: x.q :: post.flatMap fun x => [x.p, x.q]))) := by
    simp [Lay.foot, Lay.ents]
  rw [hfoot] at hnd2 hlt
  have hpre : ∀ y ∈ pre, y.p ∈ pre.flatMap (fun x => [x.p, x.q]) ∧ y.q ∈ pre.flatMap (fun x => [x.p, x.q]) := fun y hy => by simp only [List.mem_flatMap]; exact ⟨⟨y, hy, by simp⟩, ⟨y, hy, by simp⟩⟩
  have hpost : ∀ y ∈ post, y.p ∈ post.flatMap (fun x => [x.p, x.q]) ∧ y.q ∈ post.flatMap (fun x => [x.p, x.q]) := fun y hy => by simp only [List.mem_flatMap]; exact ⟨⟨y, hy, by simp⟩, ⟨y, hy, by simp⟩⟩
  generalize pre.flatMap (fun x => [x.p, x.q]) = G at *
  generalize post.flatMap (fun x => [x.p, x.q]) = H at *
  simp only [List.nodup_cons, List.nodup_append, List.mem_cons, List.mem_append, not_or] at hnd2
  obtain ⟨⟨b1, b2, b3, b4, b5, b6⟩, ⟨m1, m2, m3, m4, m5⟩, l1, ⟨g1, ⟨⟨x1, x2⟩, x3, h1⟩, g2⟩, l2⟩ := hnd2
  have keep : ∀ k, k < w.heap.size → k ≠ M → k ≠ x.p → k ≠ x.q → W.heap[k]? = w.heap[k]? := fun k hk n0 n1 n2 => hu.block k hk (by simp [n0, n1, n2])
  have hmem : ∀ y ∈ pre ++ post, y ∈ pre ++ x :: post := by
    intro y hy
    simp only [List.mem_append, List.mem_cons] at hy ⊢
    rcases hy with r | r
    · exact .inl r
    · exact .inr (.inr r)
  refine ⟨⟨?_, ?_, hm, fun y hy => ?_, ho, hsub.nodup hnd, ?_, fun y hy => h.old y (hmem y hy), hw⟩, fun k hk => hsub.subset hk⟩
  · rw [keep b (hlt b (by simp)) b1 b4 b5, h.blk]
    exact congrArg (fun c => some (Obj.cells c _ _)) hc.symm
  · rw [hl]
    refine h.las.keep fun q hq => keep q (hlt q (by simp [hq])) (fun e => m1 (e ▸ hq)) ?_ ?_
    · exact fun e => l2 q hq x.p (by simp) e
    · exact fun e => l2 q hq x.q (by simp) e
  · simp only [List.mem_append] at hy
    rcases hy with hy | hy
    · have hin := hpre y hy
      refine (h.ents y (by simp [hy])).keep (keep _ (hlt _ (by simp [hin.1])) ?_ ?_ ?_) (keep _ (hlt _ (by simp [hin.2])) ?_ ?_ ?_)
      · exact fun e => m2 (e ▸ hin.1)
      · exact fun e => g2 _ hin.1 x.p (by simp) e
      · exact fun e => g2 _ hin.1 x.q (by simp) e
      · exact fun e => m2 (e ▸ hin.2)
      · exact fun e => g2 _ hin.2 x.p (by simp) e
      · exact fun e => g2 _ hin.2 x.q (by simp) e
    · have hin := hpost y hy
      refine (h.ents y (by simp [hy])).keep (keep _ (hlt _ (by simp [hin.1])) ?_ ?_ ?_) (keep _ (hlt _ (by simp [hin.2])) ?_ ?_ ?_)
      · exact fun e => m5 (e ▸ hin.1)
      · exact fun e => x2 (e ▸ hin.1)
      · exact fun e => x3 (e ▸ hin.1)
      · exact fun e => m5 (e ▸ hin.2)
      · exact fun e => x2 (e ▸ hin.2)
      · exact fun e => x3 (e ▸ hin.2)
  · have := h.bnd
    simp only [List.map_append, List.map_cons] at this ⊢
    exact (List.Sublist.append (List.Sublist.refl _) (List.sublist_cons_self _ _)).nodup this

/-! ### what may be, entry by entry -/
theorem wf_las {d : Dev} (h : d.Wf) (n : Nat) (v : Int) : Dev.Wf { d with las := d.las.set n v } :=
  ⟨by simpa using h.len, h.keys, h.lo, by simpa using h.hi, h.ne, h.fl, h.few, h.st, h.lim, h.fuse⟩

theorem wf_sub {d d' : Dev} (h : d.Wf) {pre mid post : List Ent} {x : Ent} (ho : d.opn = (pre ++ x :: post).map fun x => (x.key, x.pen)) (ho' : d'.opn = (pre ++ (mid ++ post)).map fun x => (x.key, x.pen))
    (hm : mid = [] ∨ ∃ x', mid = [x'] ∧ x'.key = x.key ∧ x'.pen.l ≠ [] ∧ x'.pen.fl ≤ x'.pen.l.length ∧ x'.pen.l.length ≤ x.pen.l.length)
    (hl : d'.las.length = d.las.length) (hs : d'.steps = d.steps) (hst : d'.stores = d.stores) (hfu : d'.fuse = d.fuse) : d'.Wf := by
  have hkeys := h.keys
  have hin : ∀ z ∈ d'.opn, z ∈ d.opn ∨ ∃ x', mid = [x'] ∧ z = (x'.key, x'.pen) := by
    intro z hz
    rw [ho'] at hz
    rw [ho]
    simp only [List.map_append, List.map_cons, List.mem_append, List.mem_cons] at hz ⊢
    rcases hz with hz | hz | hz
    · exact .inl (.inl hz)
    · rcases hm with rfl | ⟨x', rfl, _⟩
      · simp at hz
      · simp at hz
        exact .inr ⟨x', rfl, hz⟩
    · exact .inl (.inr (.inr hz))
  have hxm : (x.key, x.pen) ∈ d.opn := by rw [ho]; simp
  refine ⟨by rw [hl]; exact h.len, ?_, fun z hz => ?_, fun z hz => ?_, fun z hz => ?_, fun z hz => ?_, fun z hz => ?_, by rw [hs, hst]; exact h.st, by rw [hs]; exact h.lim, by rw [hfu]; exact h.fuse⟩
  · rw [ho'] 
    rw [ho] at hkeys
    simp only [List.map_append, List.map_cons, List.map_map, Function.comp_def] at hkeys ⊢
    rcases hm with rfl | ⟨x', rfl, e, _⟩
    · simp only [List.map_nil, List.nil_append]
      exact (List.Sublist.append (List.Sublist.refl _) (List.sublist_cons_self _ _)).nodup hkeys
    · simp only [List.map_cons, List.map_nil, List.cons_append, List.nil_append, e]
      exact hkeys
  all_goals
    rcases hin z hz with r | ⟨x', rfl, rfl⟩
  · exact h.lo z r
  · rcases hm with c | ⟨x'', c, e, _⟩
    · simp at c
    · simp at c; subst c; simp only [e]; exact h.lo _ hxm
  · rw [hl]; exact h.hi z r
  · rcases hm with c | ⟨x'', c, e, _⟩
    · simp at c
    · simp at c; subst c; simp only [e, hl]; exact h.hi _ hxm
  · exact h.ne z r
  · rcases hm with c | ⟨x'', c, e, e2, _⟩
    · simp at c
    · simp at c; subst c; exact e2
  · exact h.fl z r
  · rcases hm with c | ⟨x'', c, e, e2, e3, _⟩
    · simp at c
    · simp at c; subst c; exact e3
  · rw [hst]; exact h.few z r
  · rcases hm with c | ⟨x'', c, e, e2, e3, e4⟩
    · simp at c
    · simp at c; subst c
      have := h.few _ hxm
      simp only at this ⊢
      omega

end Go.Proofs.YtgnagbbdnlmgeaaGreat.Pm
end

/- A device's fence. -/
section
set_option linter.unusedVariables false
set_option linter.unusedSimpArgs false
set_option maxHeartbeats 400000
namespace Go.Proofs.YtgnagbbdnlmgeaaGreat.Pm
open Go Go.RowKit
open Go.ChangeMaps (setBlock)
open Go.Proofs.YtgnagbbdnlmgeaaGreat.Ob Go.Proofs.YtgnagbbdnlmgeaaGreat.Mp Go.Proofs.YtgnagbbdnlmgeaaGreat.Dv Go.Proofs.YtgnagbbdnlmgeaaGreat.Wl

/-- where the loop of a fence stands -/
structure FeRel (w : World) (b : Nat) (d : Dev) (g : Lay) (r : Nat) (wr : World) (dk : Dev) (gk : Lay) (seen : Array Nat) : Prop where
  dev : DevIs wr b dk gk
  foot : ∀ x ∈ gk.foot b, x ∈ g.foot b
  upd : Upd (g.foot b) w wr
  it : wr.heap[r]? = some (.mapIter (some gk.M) gk.clock seen gk.clock)
  new : w.heap.size ≤ r
  opn : finOpn gk.es seen = d.opn.filterMap fencePen
  las : finLas gk.es seen dk.las = d.las.mapIdx (fenceWord d.opn)
  cnt : dk.steps = d.steps + 1 ∧ dk.stores = d.stores ∧ dk.fuse = (d.stepped false).fuse
  M : gk.M = g.M

theorem ne_foot {w : World} {b : Nat} {d : Dev} {g : Lay} (h : DevIs w b d g) {x : Ent} (hx : x ∈ g.es) : b ≠ x.p ∧ b ≠ x.q ∧ g.M ≠ x.p ∧ g.M ≠ x.q ∧ b ≠ g.M := by
  have hnd := h.nd
  have hm := mem_ents hx
  simp only [Lay.foot, List.nodup_cons, List.mem_cons, List.mem_append, not_or] at hnd
  obtain ⟨⟨h1, h2, h3⟩, ⟨h4, h5⟩, _⟩ := hnd
  exact ⟨fun e => h3 (e ▸ hm.1), fun e => h3 (e ▸ hm.2), fun e => h5 (e ▸ hm.1), fun e => h5 (e ▸ hm.2), h1⟩

theorem FeRel.far {w wr : World} {b : Nat} {d dk : Dev} {g gk : Lay} {r : Nat} {seen : Array Nat} (h : FeRel w b d g r wr dk gk seen) (h0 : DevIs w b d g) : ∀ k ∈ gk.foot b, k ≠ r := by
  intro k hk e
  have := h0.lt k (h.foot k hk)
  have := h.new
  omega

theorem fe_keep {w wr W : World} {b : Nat} {d dk : Dev} {g gk : Lay} {r : Nat} {seen : Array Nat} (h : FeRel w b d g r wr dk gk seen) (h0 : DevIs w b d g) {pre post : List Ent} {y : Ent}
    (hW : Only r (.mapIter (some gk.M) gk.clock (seen.push y.born) gk.clock) wr W) (he : gk.es = pre ++ y :: post) (hns : y.born ∉ seen) (hfl : y.pen.fl = 0) :
    FeRel w b d g r W dk gk (seen.push y.born) ∧ W.rangeLeft g.M r < wr.rangeLeft g.M r := by
  have hf := h.far h0
  have hd : DevIs W b dk gk := h.dev.keep (fun k hk => hW.far k (hf k hk))
  have hk := h.dev.wf.keys
  rw [h.dev.opn, List.map_map] at hk
  have hb := h.dev.bnd
  rw [he] at hk hb
  have hmid : ([y].map fun x => (x.key, x.pen)) = (fencePen (y.key, y.pen)).toList := by simp [fencePen, hfl]
  have hlo := h.dev.wf.lo (y.key, y.pen) (by rw [h.dev.opn, he]; simp)
  obtain ⟨e1, e2⟩ := fin_step hns hk hb [y] (.inr ⟨y, rfl, rfl⟩) hmid dk.las dk.las (by simp [hfl]) hlo
  simp only [List.cons_append, List.nil_append] at e1 e2
  refine ⟨⟨hd, h.foot, ?_, hW.here, h.new, by rw [he, e1, ← he]; exact h.opn, by rw [he, e2, ← he]; exact h.las, h.cnt, h.M⟩, ?_⟩
  · exact h.upd.trans (hW.upd [r] (by simp)) (by simp [h.new])
  · have hm1 := h.dev.map
    have hm2 := hd.map
    have hi1 := h.it
    have hi2 := hW.here
    rw [h.M] at hm1 hm2 hi1 hi2
    rw [left_eq hi1 hm1, left_eq hi2 hm2, he]
    exact left_lt (pre := pre.map Ent.en) (post := post.map Ent.en) (x := y.en) (by simp) hns [y.en] (by simp) (by simp)

theorem fe_turn {w wr W W3 : World} {b : Nat} {d dk : Dev} {g gk : Lay} {r : Nat} {seen : Array Nat} (h : FeRel w b d g r wr dk gk seen) (h0 : DevIs w b d g) {pre post : List Ent} {y : Ent}
    (hW : Only r (.mapIter (some gk.M) gk.clock (seen.push y.born) gk.clock) wr W) (he : gk.es = pre ++ y :: post) (hns : y.born ∉ seen) (hfl : y.pen.fl ≠ 0)
    {qL offL n : Nat} (hA : gk.A = some ⟨qL, offL, none⟩) (hq : gk.Ls = [qL]) (hn : n < dk.las.length) (hkey : y.key = n)
    (mid : List Ent) (hmid : (mid = [] ∧ y.pen.l.length ≤ y.pen.fl ∧ W3.heap[gk.M]? = some (obj (kInt .i64) ((pre ++ post).map Ent.en) gk.clock) ∧ Upd [gk.M, y.p, y.q] (W.setCell ⟨qL, offL + n, none⟩ (.int .u64 (y.pen.l.getD (y.pen.fl - 1) 0))) W3) ∨
      (∃ y', mid = [y'] ∧ y' = { y with off := y.off + y.pen.fl, cap := y.cap - y.pen.fl, pen := ⟨y.pen.l.drop y.pen.fl, 0⟩ } ∧ y.pen.fl < y.pen.l.length ∧ Upd [y.p, y.q] (W.setCell ⟨qL, offL + n, none⟩ (.int .u64 (y.pen.l.getD (y.pen.fl - 1) 0))) W3 ∧ EntAt W3 y'))
    (hit : W3.heap[r]? = some (.mapIter (some gk.M) gk.clock (seen.push y.born) gk.clock)) :
    ∃ dk' gk', FeRel w b d g r W3 dk' gk' (seen.push y.born) ∧ W3.rangeLeft g.M r < wr.rangeLeft g.M r := by
  have hf := h.far h0
  have hd : DevIs W b dk gk := h.dev.keep (fun k hk => hW.far k (hf k hk))
  have hk := h.dev.wf.keys
  rw [h.dev.opn, List.map_map] at hk
  have hb := h.dev.bnd
  rw [he] at hk hb
  have hlo := h.dev.wf.lo (y.key, y.pen) (by rw [h.dev.opn, he]; simp)
  obtain ⟨hd2, hqf⟩ := dev_las hd hA hq hn (y.pen.l.getD (y.pen.fl - 1) 0) (wf_las hd.wf n _)
  have hym : y ∈ gk.es := by rw [he]; simp
  have hmid' : (mid.map fun x => (x.key, x.pen)) = (fencePen (y.key, y.pen)).toList := by
    rcases hmid with ⟨rfl, hle, _⟩ | ⟨y', rfl, rfl, hlt, _⟩
    · simp [fencePen, hfl, hle]
    · have : ¬ y.pen.l.length ≤ y.pen.fl := by omega
      simp [fencePen, hfl, this]
  have hmb : mid = [] ∨ ∃ x', mid = [x'] ∧ x'.born = y.born := by
    rcases hmid with ⟨rfl, _⟩ | ⟨y', rfl, rfl, _⟩
    · exact .inl rfl
    · exact .inr ⟨_, rfl, rfl⟩
  obtain ⟨e1, e2⟩ := fin_step hns hk hb mid hmb hmid' dk.las (dk.las.set n (y.pen.l.getD (y.pen.fl - 1) 0)) (by simp [hfl, hkey]) hlo
  have hu0 : Upd (g.foot b) w (W.setCell ⟨qL, offL + n, none⟩ (.int .u64 (y.pen.l.getD (y.pen.fl - 1) 0))) :=
    (h.upd.trans (hW.upd [r] (by simp)) (by simp [h.new])).setCell (.inl (h.foot _ hqf)) _
  have hM : gk.M ∈ g.foot b := h.foot _ (by simp [Lay.foot])
  have hp : y.p ∈ g.foot b := h.foot _ (by simp [Lay.foot, (mem_ents hym).1])
  have hq' : y.q ∈ g.foot b := h.foot _ (by simp [Lay.foot, (mem_ents hym).2])
  have hleft : ∀ es', (es' = pre ++ (mid ++ post)) → W3.heap[gk.M]? = some (obj (kInt .i64) (es'.map Ent.en) gk.clock) → W3.rangeLeft g.M r < wr.rangeLeft g.M r := by
    intro es' hes hm2
    have hm1 := h.dev.map
    have hi1 := h.it
    rw [h.M] at hm1 hm2 hi1 hit
    rw [left_eq hi1 hm1, left_eq hit hm2, he, hes]
    refine left_lt (pre := pre.map Ent.en) (post := post.map Ent.en) (x := y.en) (by simp) hns (mid.map Ent.en) ?_ (by simp)
    rcases hmb with rfl | ⟨x', rfl, e⟩
    · simp
    · intro z hz; simp at hz; subst hz; exact e
  rcases hmid with ⟨rfl, hle, hm3, hu3⟩ | ⟨y', rfl, hy', hlt, hu3, hent⟩
  · obtain ⟨r1, r2⟩ := dev_del (d' := { dk with las := dk.las.set n (y.pen.l.getD (y.pen.fl - 1) 0), opn := (pre ++ post).map fun x => (x.key, x.pen) }) hd2 he hm3 hu3 rfl rfl rfl
      (wf_sub hd2.wf (pre := pre) (post := post) (x := y) (mid := []) (by rw [← he]; exact hd2.opn) (by simp) (.inl rfl) rfl rfl rfl rfl)
    refine ⟨_, _, ⟨r1, fun k hk => h.foot k (r2 k hk), ?_, hit, h.new, ?_, ?_, h.cnt, h.M⟩, hleft _ (by simp) r1.map⟩
    · refine hu0.trans hu3 fun x hx => .inl ?_
      simp only [List.mem_cons, List.not_mem_nil, or_false] at hx
      rcases hx with rfl | rfl | rfl
      · exact hM
      · exact hp
      · exact hq'
    · simp only [List.nil_append] at e1
      rw [e1, ← he]; exact h.opn
    · simp only [List.nil_append] at e2
      rw [e2, ← he]; exact h.las
  · subst hy'
    obtain ⟨r1, r2⟩ := dev_ent (d' := { dk with las := dk.las.set n (y.pen.l.getD (y.pen.fl - 1) 0), opn := (pre ++ { y with off := y.off + y.pen.fl, cap := y.cap - y.pen.fl, pen := ⟨y.pen.l.drop y.pen.fl, 0⟩ } :: post).map fun x => (x.key, x.pen) }) hd2 he hu3 hent rfl rfl rfl (.inl rfl) rfl rfl rfl
      (wf_sub hd2.wf (pre := pre) (post := post) (x := y) (mid := [{ y with off := y.off + y.pen.fl, cap := y.cap - y.pen.fl, pen := ⟨y.pen.l.drop y.pen.fl, 0⟩ }]) (by rw [← he]; exact hd2.opn) (by simp) (.inr ⟨_, rfl, rfl, by simp [hlt], by simp, by simp⟩) rfl rfl rfl rfl)
    refine ⟨_, _, ⟨r1, fun k hk => ?_, ?_, hit, h.new, ?_, ?_, h.cnt, h.M⟩, hleft _ (by simp) r1.map⟩
    · apply h.foot
      simp only [Lay.foot, Lay.ents, he, List.mem_cons, List.mem_append, List.flatMap_append, List.flatMap_cons] at hk ⊢
      exact hk
    · refine hu0.trans hu3 fun x hx => .inl ?_
      simp only [List.mem_cons, List.not_mem_nil, or_false] at hx
      rcases hx with rfl | rfl
      · exact hp
      · exact hq'
    · simp only [List.cons_append, List.nil_append] at e1
      simp only
      rw [e1, ← he]; exact h.opn
    · simp only [List.cons_append, List.nil_append] at e2
      simp only
      rw [e2, ← he]; exact h.las

set_option maxRecDepth 100000 in
theorem fence_go {w : World} {b : Nat} {d : Dev} {g : Lay} (h : DevIs w b d g) (hd : d.down = false) (hlim : d.steps < 1099511627776) :
    Calls Tryz.prog 165 #[.pointer (some ⟨b, 0, none⟩)] w fun e w' => e = .returned (.bool true) ∧ DevTo w w' b g d.fenced := by
  have hs := step_go h hd hlim false
  have H := Lib.hid h
  have HS := Lib.hid hs
  have HF := Lib.hid hd
  clear h hs hd
  go_enter Tryz.func165, Tryz.ntmps165
  go_wp2_with (first | (go_at_call 184; refine HS.out.mono ?_; rintro e w1 ⟨rfl, hu1, hd1⟩; (have HU1 := Lib.hid hu1); (have HD1 := Lib.hid hd1); (obtain ⟨c0, c1, c2, c3, c4, c5⟩ := dev_cells hd1); (have hblt := lt_of hd1.blk); clear hu1 hd1 c0 c1 c2 c4 c5) |
    (at_range; refine wpl_range (kInt .i64) (g.es.map Ent.en) rfl _ _ rfl Tryz.underlying144 rfl HD1.out.map ?_))
  go_frame
  go_loopw [13] (fun c wr => ∃ dk gk seen, FeRel w b d g w1.heap.size wr dk gk seen) (fun _ wr => wr.rangeLeft g.M w1.heap.size)
  case atStart =>
    obtain ⟨e1, e2⟩ := fin_start (d := d) H.out.opn
    refine ⟨d.stepped false, g, #[], HD1.out.keep (fun k hk => Below.heap_alloc _ _ _ (HD1.out.lt k hk)), fun _ hx => hx, (HU1.out.mono fun x hx => ?_).alloc _, alloc_new _ _, HU1.out.size, e1, e2, ⟨rfl, by simp [Dev.stepped], rfl⟩, rfl⟩
    simp at hx; subst hx; simp [Lay.foot]
  case round =>
    obtain ⟨dk, gk, seen, hr⟩ := hrel
    have HR := Lib.hid hr
    obtain ⟨c0, c1, c2, c3, c4, c5⟩ := dev_cells hr.dev
    have f0 := dev_free hr.dev
    clear hr c0 c1 c4 c5 c3
    go_wp2_with (first | (at_next; refine wpl_next (kInt .i64) (gk.es.map Ent.en) w1.heap.size seen rfl _ rfl rfl HR.out.it HR.out.dev.map (by simp only [List.mem_map]; rintro _ ⟨x, hx, rfl⟩; exact HR.out.dev.old x hx) (by rw [List.map_map]; exact HR.out.dev.bnd) ?_ ?_))
    · intro hall
      have HA := Lib.hid hall
      clear hall f0
      go_wp2_with fail
      go_ret
      have hall' : ∀ x ∈ gk.es, x.born ∈ seen := HA.out
      obtain ⟨e1, e2⟩ := fin_end (l := dk.las) hall'
      refine ⟨rfl, gk, ?_, fun k hk => .inl (HR.out.foot k hk), HR.out.upd⟩
      have : d.fenced = dk := by
        unfold Dev.fenced
        rw [if_neg (by simp [HF.out]), ← HR.out.opn, ← HR.out.las, e1, e2, ← HR.out.dev.opn]
        obtain ⟨q1, q2, q3⟩ := HR.out.cnt
        cases dk
        simp only at q1 q2 q3
        simp [Dev.stepped, q1, q2, q3]
      rw [this]
      exact HR.out.dev
    · intro y hy hns W hW hen
      obtain ⟨pre, post, he⟩ := List.append_of_mem hy
      have hWd : DevIs W b dk gk := HR.out.dev.keep (fun k hk => hW.far k (fun e => by have := H.out.lt k (HR.out.foot k hk); have := HR.out.new; omega))
      obtain ⟨p0, p1, q0, q1, po, ps, pc⟩ := ent_facts (hWd.ents y hy)
      have hpl := pen_len hWd hy
      by_cases hfl : y.pen.fl = 0
      · rw [hfl] at p1
        have HHW := Lib.hid hW
        have HN := Lib.hid hns
        have HE := Lib.hid he
        have HD := Lib.hid hWd
        have HZ := Lib.hid hfl
        clear hW hns he hWd hy po ps q0 q1 f0 p0 hfl
        have hen' : (Instr.entry (.pointer (some ⟨w1.heap.size, 0, none⟩))).run Tryz.prog W = .ok (.tuple #[.int .i64 y.key, .pointer (some ⟨y.p, 0, none⟩)]) W := hen
        clear hen
        go_wp2_with fail
        obtain ⟨r1, r2⟩ := fe_keep HR.out H.out HHW.out HE.out HN.out HZ.out
        have R1 := Lib.hid r1
        have R2 := Lib.hid r2
        clear r1 r2
        go_roundw
        case rel => exact ⟨_, _, _, R1.out⟩
        case measure => exact R2.out
      · have hyo : (y.key, y.pen) ∈ dk.opn := by rw [HR.out.dev.opn]; exact List.mem_map.2 ⟨y, hy, rfl⟩
        have hk0 := HR.out.dev.wf.lo _ hyo
        have hk1 := HR.out.dev.wf.hi _ hyo
        have hfle := HR.out.dev.wf.fl _ hyo
        simp only at hk0 hk1 hfle
        obtain ⟨n, hn⟩ : ∃ n : Nat, y.key = n := ⟨y.key.toNat, by omega⟩
        have hnl : n < dk.las.length := by omega
        obtain ⟨qL, offL, csL, hA, hLs, hbL, hcL, hcellL, hfrL⟩ := hWd.las.at_ (i := n) (v := .int .u64 (dk.las.getD n 0)) (by simp [u64s, hnl])
        obtain ⟨c0, c1, c2, c3, c4, c5⟩ := dev_cells hWd
        clear c0 c1 c3 c4 c5
        rw [hA] at c2
        have hrow := po (y.pen.fl - 1) (.int .u64 (y.pen.l.getD (y.pen.fl - 1) 0)) (by rw [u64s, List.getElem?_map, List.getElem?_eq_getElem (by omega), List.getD_eq_getElem?_getD, List.getElem?_eq_getElem (by omega)]; rfl)
        have hlen := HR.out.dev.wf.len
        have HHW := Lib.hid hW
        have HN := Lib.hid hns
        have HE := Lib.hid he
        have HD := Lib.hid hWd
        have HZ := Lib.hid hfl
        have HK := Lib.hid hn
        have HAL := Lib.hid (And.intro hA (And.intro hLs hnl))
        have hen' : (Instr.entry (.pointer (some ⟨w1.heap.size, 0, none⟩))).run Tryz.prog W = .ok (.tuple #[.int .i64 n, .pointer (some ⟨y.p, 0, none⟩)]) W := by rw [← hn]; exact hen
        have hfl1 : 1 ≤ y.pen.fl := by omega
        have hflz : ((y.pen.fl : Int) == 0) = false := beq_eq_false_iff_ne.2 (by omega)
        clear hW hns he hWd hy hyo po ps f0 hk0 hk1 hA hLs hbL hcL hn hfl hen
        generalize hg1 : y.pen.l.getD (y.pen.fl - 1) 0 = v at *
        generalize hg2 : y.pen.fl = fl at *
        generalize hg3 : y.pen.l.length = len at *
        have HG := Lib.hid (And.intro hg1 (And.intro hg2 hg3))
        clear hg1 hg2 hg3
        have hne : y.p ≠ qL := by
          intro e
          have h1 := (HD.out.ents y (by rw [HE.out]; simp)).1
          have h2 := HD.out.las.at_ (i := n) (v := .int .u64 (dk.las.getD n 0)) (by simp [u64s, HAL.out.2.2])
          obtain ⟨q', o', cs', hA', _, hb', _⟩ := h2
          rw [HAL.out.1] at hA'
          simp only [Option.some.injEq, Addr.mk.injEq, and_true] at hA'
          rw [← hA'.1, ← e, h1] at hb'
          simp at hb'
        have hrq : w1.heap.size ≠ qL := fun e => HR.out.far H.out qL (by simp [Lay.foot, HAL.out.2.1]) e.symm
        have hrp : w1.heap.size ≠ y.p := fun e => HR.out.far H.out y.p (by simp [Lay.foot, (mem_ents (show y ∈ gk.es by rw [HE.out]; simp)).1]) e.symm
        have P0 : (W.setCell ⟨qL, offL + n, none⟩ (.int .u64 v)).cell? ⟨y.p, 0, none⟩ = some (.slice (some ⟨y.q, y.off, none⟩) len y.cap) := (World.cell?_setCell_other _ _ _ _ (by intro e; simp only [Addr.mk.injEq] at e; exact hne e.1.symm)).trans p0
        have P1 : (W.setCell ⟨qL, offL + n, none⟩ (.int .u64 v)).cell? ⟨y.p, 1, none⟩ = some (.int .i64 fl) := (World.cell?_setCell_other _ _ _ _ (by intro e; simp only [Addr.mk.injEq] at e; exact hne e.1.symm)).trans p1
        have F0 : (W.setCell ⟨qL, offL + n, none⟩ (.int .u64 v)).frozen? ⟨y.p, 0, none⟩ = false := by rw [World.frozen?_setCell]; exact q0
        have F1 : (W.setCell ⟨qL, offL + n, none⟩ (.int .u64 v)).frozen? ⟨y.p, 1, none⟩ = false := by rw [World.frozen?_setCell]; exact q1
        have D2 : DevIs (W.setCell ⟨qL, offL + n, none⟩ (.int .u64 v)) b { dk with las := dk.las.set n v } gk := (dev_las HD.out HAL.out.1 HAL.out.2.1 HAL.out.2.2 v (wf_las HD.out.wf n v)).1
        obtain ⟨d0, d1, d2, C3, d4, d5⟩ := dev_cells D2
        have HP := Lib.hid (And.intro P0 (And.intro P1 (And.intro F0 (And.intro F1 C3))))
        have HD2 := Lib.hid D2
        clear P0 P1 F0 F1 d0 d1 d2 C3 d4 d5 D2
        go_wp2_with fail
        go_region
        clear p0 p1 q0 q1 c2 hrow hen' hflz hcellL hfrL
        obtain ⟨P0, P1, F0, F1, C3⟩ := HP.out
        generalize hW2 : W.setCell ⟨qL, offL + n, none⟩ (.int .u64 v) = W2 at *
        have HW2 := Lib.hid hW2
        clear hW2
        by_cases hlt : fl < len
        · have hcp : ¬ y.cap = fl := by omega
          go_wp2_with fail
          go_region
          go_wp2_with fail
          obtain ⟨hg1, hg2, hg3⟩ := HG.out
          have hD2 := HD2.out.ents y (by rw [HE.out]; simp)
          obtain ⟨k1, cs, k2, k3, k4, k5⟩ := hD2
          have hWW := HW2.out
          subst hg1
          have hT := fe_turn (W3 := ((W2.setCell ⟨y.p, 0, none⟩ (.slice (some ⟨y.q, y.off + fl, none⟩) (len - fl) (y.cap - fl))).setCell ⟨y.p, 1, none⟩ (.int .i64 0)).drew.drew) HR.out H.out HHW.out HE.out HN.out (by rw [hg2]; exact HZ.out) HAL.out.1 HAL.out.2.1 HAL.out.2.2 HK.out [_]
            (.inr ⟨_, rfl, rfl, by omega, by
              rw [hg2, hWW]
              exact (((Upd.refl _ _).setCell (by simp) _).setCell (by simp) _).drew.drew, by
              refine ⟨?_, cs, ?_, ?_, ?_, ?_⟩
              · have e1 : (y.pen.l.drop y.pen.fl).length = len - fl := by simp; omega
                simp only [e1]
                rw [hg2]
                exact set_b (set_b k1 0 _ rfl) 1 _ rfl
              · exact set_other (set_other k2 (fun e => ne_pq HD.out (by rw [HE.out]; simp) e.symm) _) (fun e => ne_pq HD.out (by rw [HE.out]; simp) e.symm) _
              · simp only; omega
              · simp only [List.length_drop]; omega
              · intro j u hj
                simp only [List.getElem?_drop] at hj
                simp only
                rw [Nat.add_assoc]
                exact k5 _ u hj⟩)
            (by
              have : W2.heap[w1.heap.size]? = some (.mapIter (some gk.M) gk.clock (seen.push y.born) gk.clock) := by
                rw [← hWW]
                exact set_other HHW.out.here hrq _
              exact set_other (set_other this hrp _) hrp _)
          obtain ⟨dk', gk', r1, r2⟩ := hT
          exact ⟨⟨dk', gk', _, r1⟩, r2⟩
        · obtain rfl : fl = len := by omega
          have hgo : ∀ (S : Value) (W3 : World), W3 = ((W2.setCell ⟨y.p, 0, none⟩ S).setCell ⟨y.p, 1, none⟩ (.int .i64 0)).drew.drew →
              (W3.cell? ⟨b, 3, none⟩ = some (.map (some gk.M)) ∧ W3.cell? ⟨y.p, 0, none⟩ = some S ∧ W3.heap[gk.M]? = some (obj (kInt .i64) (gk.es.map Ent.en) gk.clock) ∧
               ∀ W4, Only gk.M (obj (kInt .i64) ((pre ++ post).map Ent.en) gk.clock) W3 W4 → ∃ dk' gk', FeRel w b d g w1.heap.size W4 dk' gk' (seen.push y.born) ∧ W4.rangeLeft g.M w1.heap.size < wr.rangeLeft g.M w1.heap.size) := by
            rintro S W3 rfl
            obtain ⟨hg1, hg2, hg3⟩ := HG.out
            have hWW := HW2.out
            obtain ⟨nb1, nb2, nb3, nb4, nb5⟩ := ne_foot HD.out (x := y) (by rw [HE.out]; simp)
            obtain ⟨k1, cs, k2, k3, k4, k5⟩ := HD2.out.ents y (by rw [HE.out]; simp)
            have km := HD2.out.map
            have kb := HD2.out.blk
            have hm3 := set_other (set_other km (a := ⟨y.p, 0, none⟩) nb3 S) (a := ⟨y.p, 1, none⟩) nb3 (.int .i64 0)
            refine ⟨?_, ?_, hm3, fun W4 hW4 => ?_⟩
            · have := set_other (set_other kb (a := ⟨y.p, 0, none⟩) nb1 S) (a := ⟨y.p, 1, none⟩) nb1 (.int .i64 0)
              exact (cell_of this 3)
            · have := set_same (set_same k1 0 S) 1 (.int .i64 0)
              exact (cell_of this 0)
            · refine fe_turn (W3 := W4) HR.out H.out HHW.out HE.out HN.out (by rw [hg2]; exact HZ.out) HAL.out.1 HAL.out.2.1 HAL.out.2.2 HK.out []
                (.inl ⟨rfl, by omega, hW4.here, ?_⟩) ?_
              · rw [hg2, hg1, hWW]
                exact ((((Upd.refl _ _).setCell (by simp) _).setCell (by simp) _).drew.drew).trans (hW4.upd [gk.M] (by simp)) (by simp)
              · have : W2.heap[w1.heap.size]? = some (.mapIter (some gk.M) gk.clock (seen.push y.born) gk.clock) := by
                  rw [← hWW]
                  exact set_other HHW.out.here hrq _
                refine hW4.blk (set_other (set_other this hrp _) hrp _) (fun e => ?_)
                exact HR.out.far H.out gk.M (by simp [Lay.foot]) e.symm
          have HGO := Lib.hid hgo
          clear hgo hrq hrp
          by_cases hcp : y.cap = fl
          · go_wp2_with fail
            go_region
            obtain ⟨M0, M1, M2, M3⟩ := HGO.out (.slice (some ⟨y.q, y.off, none⟩) 0 0) _ rfl
            have HM := Lib.hid (And.intro M2 M3)
            clear M2 M3 P0 P1 F0 F1 C3
            generalize ((W2.setCell ⟨y.p, 0, none⟩ (.slice (some ⟨y.q, y.off, none⟩) 0 0)).setCell ⟨y.p, 1, none⟩ (.int .i64 0)).drew.drew = W3 at *
            go_wp2_with (at_delete; refine wpl_delete_some (kInt .i64) (pre.map Ent.en) (post.map Ent.en) (.pointer (some ⟨y.p, 0, none⟩)) y.born rfl _ _ _ _ rfl Tryz.underlying144 Tryz.underlying3 rfl (n : Int) rfl (by have := HM.out.1; rw [HE.out, List.map_append, List.map_cons, show y.en = ((n : Int), Value.pointer (some ⟨y.p, 0, none⟩), y.born) from by rw [← HK.out]; rfl] at this; exact this) (by have := HR.out.dev.wf.keys; rw [HR.out.dev.opn, HE.out, List.map_map, List.map_append, List.map_cons] at this; have := (List.nodup_append.1 this).2.2; simp only [List.mem_map]; rintro _ ⟨z, hz, rfl⟩; rw [← HK.out]; exact this _ (List.mem_map.2 ⟨z, hz, rfl⟩) _ (by simp)) ?_; intro W4 hW4; (have HW4 := Lib.hid hW4); clear hW4)
            obtain ⟨dk', gk', r1, r2⟩ := HM.out.2 W4 (by rw [List.map_append]; exact HW4.out)
            go_frame
            go_roundw
            case rel => exact ⟨dk', gk', _, r1⟩
            case measure => exact r2
          · go_wp2_with fail
            go_region
            obtain ⟨M0, M1, M2, M3⟩ := HGO.out (.slice (some ⟨y.q, y.off + fl, none⟩) 0 (y.cap - fl)) _ rfl
            have HM := Lib.hid (And.intro M2 M3)
            clear M2 M3 P0 P1 F0 F1 C3
            generalize ((W2.setCell ⟨y.p, 0, none⟩ (.slice (some ⟨y.q, y.off + fl, none⟩) 0 (y.cap - fl))).setCell ⟨y.p, 1, none⟩ (.int .i64 0)).drew.drew = W3 at *
            go_wp2_with (at_delete; refine wpl_delete_some (kInt .i64) (pre.map Ent.en) (post.map Ent.en) (.pointer (some ⟨y.p, 0, none⟩)) y.born rfl _ _ _ _ rfl Tryz.underlying144 Tryz.underlying3 rfl (n : Int) rfl (by have := HM.out.1; rw [HE.out, List.map_append, List.map_cons, show y.en = ((n : Int), Value.pointer (some ⟨y.p, 0, none⟩), y.born) from by rw [← HK.out]; rfl] at this; exact this) (by have := HR.out.dev.wf.keys; rw [HR.out.dev.opn, HE.out, List.map_map, List.map_append, List.map_cons] at this; have := (List.nodup_append.1 this).2.2; simp only [List.mem_map]; rintro _ ⟨z, hz, rfl⟩; rw [← HK.out]; exact this _ (List.mem_map.2 ⟨z, hz, rfl⟩) _ (by simp)) ?_; intro W4 hW4; (have HW4 := Lib.hid hW4); clear hW4)
            obtain ⟨dk', gk', r1, r2⟩ := HM.out.2 W4 (by rw [List.map_append]; exact HW4.out)
            go_frame
            go_roundw
            case rel => exact ⟨dk', gk', _, r1⟩
            case measure => exact r2

theorem fence_any {w : World} {b : Nat} {d : Dev} {g : Lay} (h : DevIs w b d g) (hlim : d.steps < 1099511627776) :
    Calls Tryz.prog 165 #[.pointer (some ⟨b, 0, none⟩)] w fun e w' => e = .returned (.bool !d.down) ∧ DevTo w w' b g d.fenced := by
  cases hd : d.down with
  | false => exact fence_go h hd hlim
  | true =>
    have hs := step_down h hd false
    have hf : d.fenced = d := by unfold Dev.fenced; rw [if_pos hd]
    rw [hf]
    have H := Lib.hid h
    have HS := Lib.hid hs
    clear h hs hd hf
    go_enter Tryz.func165, Tryz.ntmps165
    go_wp2_with (go_at_call 184; refine HS.out.mono ?_; rintro e w1 ⟨rfl, rfl⟩)
    go_ret
    exact ⟨rfl, g, H.out, fun k hk => .inl hk, Upd.refl _ _⟩

end Go.Proofs.YtgnagbbdnlmgeaaGreat.Pm
end
