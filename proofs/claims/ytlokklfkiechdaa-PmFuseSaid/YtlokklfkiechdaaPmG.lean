/- A device's flush of a line. -/
import Derived.Test.YtlokklfkiechdaaPmF
import Derived.LoopTactic
set_option linter.unusedVariables false
set_option linter.unusedSimpArgs false
set_option maxHeartbeats 400000
namespace Go.Proofs.Ytlokklfkiechdaa.Pm
open Go Go.RowKit
open Go.ChangeMaps (setBlock)
open Go.Proofs.Ytlokklfkiechdaa.Ob Go.Proofs.Ytlokklfkiechdaa.Mp Go.Proofs.Ytlokklfkiechdaa.Dv Go.Proofs.Ytlokklfkiechdaa.Wl

/-- the pending word k turned by f -/
def atKey (k : Int) (f : Pen → Pen) (y : Int × Pen) : Int × Pen := if y.1 = k then (y.1, f y.2) else y

theorem atKey_split {d : Dev} {g : Lay} (ho : d.opn = g.es.map fun x => (x.key, x.pen)) (hk : (d.opn.map (·.1)).Nodup) {pre post : List Ent} {x : Ent} (he : g.es = pre ++ x :: post) (f : Pen → Pen) (x' : Ent) (h1 : x'.key = x.key) (h2 : x'.pen = f x.pen) :
    d.opn.map (atKey x.key f) = (pre ++ x' :: post).map fun x => (x.key, x.pen) := by
  rw [ho, he] at hk ⊢
  simp only [List.map_append, List.map_cons, List.map_map, List.nodup_append, List.nodup_cons, List.mem_map, List.mem_cons, Function.comp] at hk
  obtain ⟨_, ⟨h3, _⟩, h4⟩ := hk
  simp only [List.map_append, List.map_cons, atKey, if_true]
  rw [h1, h2]
  congr 1
  · rw [List.map_map]
    apply List.map_congr_left
    intro y hy
    simp only [Function.comp, atKey]
    rw [if_neg]
    exact fun e => h4 y.key ⟨y, hy, rfl⟩ x.key (.inl rfl) e
  · congr 1
    rw [List.map_map]
    apply List.map_congr_left
    intro y hy
    simp only [Function.comp, atKey]
    rw [if_neg]
    exact fun e => h3 ⟨y, hy, e⟩

theorem atKey_none {d : Dev} {g : Lay} (ho : d.opn = g.es.map fun x => (x.key, x.pen)) {k : Int} (hn : ∀ x ∈ g.es, x.key ≠ k) (f : Pen → Pen) : d.opn.map (atKey k f) = d.opn := by
  rw [ho, List.map_map]
  apply List.map_congr_left
  intro y hy
  simp only [Function.comp, atKey]
  rw [if_neg (hn y hy)]

def flushP (p : Pen) : Pen := ⟨p.l, p.l.length⟩
/-- the words from lo to below k are flushed -/
def flPart (lo k : Int) (y : Int × Pen) : Int × Pen := if lo ≤ y.1 ∧ y.1 < k then (y.1, flushP y.2) else y

theorem flPart_succ (lo k : Int) (h : lo ≤ k) (l : List (Int × Pen)) : l.map (flPart lo (k + 1)) = (l.map (flPart lo k)).map (atKey k flushP) := by
  rw [List.map_map]
  apply List.map_congr_left
  intro y _
  show flPart lo (k + 1) y = atKey k flushP (flPart lo k y)
  by_cases h1 : lo ≤ y.1 ∧ y.1 < k
  · have e1 : flPart lo k y = (y.1, flushP y.2) := if_pos h1
    have e2 : flPart lo (k + 1) y = (y.1, flushP y.2) := if_pos (by omega)
    have e3 : atKey k flushP (y.1, flushP y.2) = (y.1, flushP y.2) := if_neg (by show ¬ y.1 = k; omega)
    rw [e1, e2, e3]
  · have e1 : flPart lo k y = y := if_neg h1
    rw [e1]
    by_cases h2 : y.1 = k
    · have e2 : flPart lo (k + 1) y = (y.1, flushP y.2) := if_pos (by omega)
      have e3 : atKey k flushP y = (y.1, flushP y.2) := if_pos h2
      rw [e2, e3]
    · have e2 : flPart lo (k + 1) y = y := if_neg (by omega)
      have e3 : atKey k flushP y = y := if_neg h2
      rw [e2, e3]
theorem flPart_zero (lo : Int) (l : List (Int × Pen)) : l.map (flPart lo lo) = l := by
  conv => rhs; rw [← List.map_id l]
  apply List.map_congr_left
  intro y _
  simp only [flPart, id]
  rw [if_neg (by omega)]
theorem flPart_all (line : Int) (h : 0 ≤ line) (l : List (Int × Pen)) (hl : ∀ x ∈ l, 0 ≤ x.1) : l.map (flPart (line * 8) (line * 8 + 8)) = l.map (flushPen line) := by
  apply List.map_congr_left
  intro y hy
  have := hl y hy
  simp only [flPart, flushPen, flushP]
  by_cases h1 : y.1 / 8 = line
  · rw [if_pos (by omega), if_pos h1]
  · rw [if_neg (by omega), if_neg h1]

theorem same_keys_wf {d d' : Dev} (h : d.Wf) {f : Int × Pen → Int × Pen} (h1 : ∀ y, (f y).1 = y.1) (h2 : ∀ y, (f y).2.l = y.2.l) (h3 : ∀ y, y.2.fl ≤ y.2.l.length → (f y).2.fl ≤ y.2.l.length)
    (ho : d'.opn = d.opn.map f) (hl : d'.las = d.las) (hs : d'.steps = d.steps) (hst : d'.stores = d.stores) (hfu : d'.fuse = d.fuse) : d'.Wf := by
  have hm : ∀ x ∈ d'.opn, ∃ y ∈ d.opn, x = f y := by
    intro x hx
    rw [ho] at hx
    simp only [List.mem_map] at hx
    obtain ⟨y, hy, rfl⟩ := hx
    exact ⟨y, hy, rfl⟩
  refine ⟨by rw [hl]; exact h.len, ?_, fun x hx => ?_, fun x hx => ?_, fun x hx => ?_, fun x hx => ?_, fun x hx => ?_, by rw [hs, hst]; exact h.st, by rw [hs]; exact h.lim, by rw [hfu]; exact h.fuse⟩
  · rw [ho, List.map_map, show ((fun x : Int × Pen => x.1) ∘ f) = (fun x => x.1) from funext h1]
    exact h.keys
  all_goals
    obtain ⟨y, hy, rfl⟩ := hm x hx
  · rw [h1]; exact h.lo y hy
  · rw [h1, hl]; exact h.hi y hy
  · rw [h2]; exact h.ne y hy
  · rw [h2]; exact h3 y (h.fl y hy)
  · rw [h2, hst]; exact h.few y hy

def _root_.Go.Proofs.Ytlokklfkiechdaa.Dv.Dev.withOpn (d : Dev) (l : List (Int × Pen)) : Dev := { d with opn := l }

theorem flush_wf {d : Dev} (h : d.Wf) (lo k : Int) : (d.withOpn (d.opn.map (flPart lo k))).Wf :=
  same_keys_wf h (f := flPart lo k) (fun y => by unfold flPart; split <;> rfl) (fun y => by unfold flPart; split <;> rfl) (fun y hy => by unfold flPart flushP; split <;> simp [hy]) rfl rfl rfl rfl rfl

theorem flush_no {w : World} {b : Nat} {d : Dev} {g : Lay} (h : DevIs w b d g) (line : Int) (hn : d.flushOk line = false) :
    Calls Try.prog 15 #[.pointer (some ⟨b, 0, none⟩), .int .i64 line] w fun e w' => e = .returned (.bool false) ∧ w = w' := by
  obtain ⟨c0, c1, c2, c3, c4, c5⟩ := dev_cells h
  have hlen := h.wf.len
  have HH := Lib.hid h
  clear c0 c1 c3 c4 c5 h
  by_cases h0 : line < 0
  · clear hn
    go_enter Try.func15, Try.ntmps15
    go_wp2_with fail
    go_ret
    exact ⟨rfl, rfl⟩
  · by_cases hz : d.las.length = 0
    · have hz' : ((d.las.length : Int) == 0) = true := by simp [hz]
      have HZ := Lib.hid hz
      by_cases h1 : line = 0
      · subst h1
        rw [hz] at c2
        clear hn hz hz'
        go_enter Try.func15, Try.ntmps15
        go_wp2_with fail
        go_ret
        exact ⟨rfl, rfl⟩
      · rw [hz] at c2
        clear hn hz hz'
        have h2 : 0 < line := by omega
        clear h1
        go_enter Try.func15, Try.ntmps15
        go_wp2_with fail
        go_ret
        exact ⟨rfl, rfl⟩
    · have hz0 : 1 ≤ d.las.length := by omega
      by_cases h1 : 8 * line < d.las.length
      · have hd : d.down = true := by
          simp only [Dev.flushOk, Bool.and_eq_false_iff, decide_eq_false_iff_not, Bool.not_eq_false'] at hn
          rcases hn with (hn | hn) | hn
          · omega
          · omega
          · exact hn
        have hs := step_down HH.out hd false
        have HS := Lib.hid hs
        have h2 : line ≤ ((d.las.length : Int) - 1) / 8 := by omega
        have h3 : ((d.las.length : Int) == 0) = false := beq_eq_false_iff_ne.2 (by omega)
        clear hs hn hd
        go_enter Try.func15, Try.ntmps15
        go_wp2_with (go_at_call 36; refine HS.out.mono ?_; rintro e w' ⟨rfl, rfl⟩)
        go_ret
        exact ⟨rfl, rfl⟩
      · have h2 : ((d.las.length : Int) - 1) / 8 < line := by omega
        clear hn
        go_enter Try.func15, Try.ntmps15
        go_wp2_with fail
        go_ret
        exact ⟨rfl, rfl⟩

/-- where the loop of a flush stands -/
def FlRel (w : World) (b : Nat) (d : Dev) (g : Lay) (line : Int) (wr : World) (k : Int) : Prop :=
  ∃ gk, DevIs wr b ((d.stepped false).withOpn (d.opn.map (flPart (line * 8) k))) gk ∧ (∀ x ∈ gk.foot b, x ∈ g.foot b) ∧ Upd (g.foot b) w wr

theorem fl_none {w wr : World} {b : Nat} {d : Dev} {g gk : Lay} {line k : Int} (hk : line * 8 ≤ k) (h : DevIs wr b ((d.stepped false).withOpn (d.opn.map (flPart (line * 8) k))) gk) (hf : ∀ x ∈ gk.foot b, x ∈ g.foot b) (hu : Upd (g.foot b) w wr)
    (hn : ∀ x ∈ gk.es, x.key ≠ k) : FlRel w b d g line wr (k + 1) := by
  refine ⟨gk, ?_, hf, hu⟩
  rw [flPart_succ _ _ hk]
  have := atKey_none h.opn hn flushP
  simp only [Dev.withOpn] at this ⊢
  rw [this]
  exact h

theorem fl_some {w wr W : World} {b : Nat} {d : Dev} {g gk : Lay} {line k : Int} (hk : line * 8 ≤ k) (h : DevIs wr b ((d.stepped false).withOpn (d.opn.map (flPart (line * 8) k))) gk) (hf : ∀ x ∈ gk.foot b, x ∈ g.foot b) (hu : Upd (g.foot b) w wr)
    (hw : d.Wf) (hlim : d.steps < 1099511627776)
    {pre post : List Ent} {x : Ent} (he : gk.es = pre ++ x :: post) (hp : ∀ y ∈ pre, y.key ≠ x.key) (hxk : x.key = k) (hW : W = wr.setCell ⟨x.p, 1, none⟩ (.int .i64 x.pen.l.length)) : FlRel w b d g line W (k + 1) := by
  have hxm : x ∈ gk.es := by rw [he]; simp
  obtain ⟨h1, cs, h2, h3, h4, h5⟩ := h.ents x hxm
  have hpq := ne_pq h hxm
  subst hxk hW
  have hu2 : Upd [x.p, x.q] wr (wr.setCell ⟨x.p, 1, none⟩ (.int .i64 x.pen.l.length)) := (Upd.refl _ _).setCell (by simp) _
  obtain ⟨r1, r2⟩ := dev_ent (d' := (d.stepped false).withOpn (d.opn.map (flPart (line * 8) (x.key + 1)))) h he hu2 (x' := { x with pen := flushP x.pen })
    ⟨set_b h1 1 _ rfl, cs, set_other h2 (fun e => hpq e.symm) _, h3, h4, h5⟩ rfl rfl rfl (.inl rfl) rfl rfl
    (by rw [flPart_succ _ _ hk]; exact atKey_split h.opn h.wf.keys he flushP _ rfl rfl) (flush_wf (stepped_wf hw false hlim) _ _)
  refine ⟨_, r1, fun y hy => ?_, hu.trans hu2 fun y hy => ?_⟩
  · have hin := (mem_ents hxm)
    simp only [Lay.foot, Lay.ents, List.mem_cons, List.mem_append, List.flatMap_append, List.flatMap_cons] at hy
    apply hf
    simp only [Lay.foot, Lay.ents, he, List.mem_cons, List.mem_append, List.flatMap_append, List.flatMap_cons]
    exact hy
  · left
    have hin := (mem_ents hxm)
    simp only [List.mem_cons, List.not_mem_nil, or_false] at hy
    rcases hy with rfl | rfl
    · exact hf _ (by simp [Lay.foot, hin.1])
    · exact hf _ (by simp [Lay.foot, hin.2])

set_option maxRecDepth 100000 in
theorem flush_go {w : World} {b : Nat} {d : Dev} {g : Lay} (h : DevIs w b d g) (line : Int) (hok : d.flushOk line = true) (hlim : d.steps < 1099511627776) :
    Calls Try.prog 15 #[.pointer (some ⟨b, 0, none⟩), .int .i64 line] w fun e w' => e = .returned (.bool true) ∧ DevTo w w' b g (d.flushed line) := by
  obtain ⟨c0, c1, c2, c3, c4, c5⟩ := dev_cells h
  have hlen := h.wf.len
  have hfin : d.flushed line = (d.stepped false).withOpn (d.opn.map (flPart (line * 8) (line * 8 + 8))) := by
    simp only [Dev.flushOk, Bool.and_eq_true, decide_eq_true_eq] at hok
    unfold Dev.flushed
    rw [if_pos (by simp only [Dev.flushOk, Bool.and_eq_true, decide_eq_true_eq]; exact hok), flPart_all line hok.1.1 _ h.wf.lo]
    rfl
  have hok2 := hok
  simp only [Dev.flushOk, Bool.and_eq_true, decide_eq_true_eq, Bool.not_eq_true'] at hok2
  obtain ⟨⟨h0, h1⟩, hd⟩ := hok2
  have hs := step_go h hd hlim false
  have h2 : line ≤ ((d.las.length : Int) - 1) / 8 := by omega
  have h3 : ((d.las.length : Int) == 0) = false := beq_eq_false_iff_ne.2 (by omega)
  have h4 : 1 ≤ d.las.length := by omega
  have H := Lib.hid h
  have HS := Lib.hid hs
  have HF := Lib.hid hfin
  clear c0 c1 c3 c4 c5 h hok hfin hs hd
  go_enter Try.func15, Try.ntmps15
  go_wp2_with (go_at_call 36; refine HS.out.mono ?_; rintro e w1 ⟨rfl, hu1, hd1⟩; (have HU1 := Lib.hid hu1); (have HD1 := Lib.hid hd1); clear hu1 hd1 c2)
  go_loopw [5] (fun c wr => ∃ k : Int, line * 8 ≤ k ∧ k ≤ line * 8 + 8 ∧ c = .int .i64 k ∧ FlRel w b d g line wr k) (fun c _ => (line * 8 + 8 - intOf c).toNat)
  case atStart =>
    refine ⟨line * 8, by omega, by omega, rfl, g, ?_, fun _ hx => hx, HU1.out.mono fun x hx => ?_⟩
    · rw [flPart_zero]; exact HD1.out
    · simp at hx; subst hx; simp [Lay.foot]
  case round =>
    obtain ⟨k, hk0, hk1, rfl, gk, hdk, hfk, huk⟩ := hrel
    obtain ⟨c0, c1, c2, c3, c4, c5⟩ := dev_cells hdk
    clear c0 c1 c2 c4 c5
    by_cases hlt : k < line * 8 + 8
    · rcases find_split gk.es k with hn | ⟨pre, x, post, he, hxk, hp⟩
      · have hl := look_none hdk hn
        have HR := Lib.hid (fl_none (g := g) hk0 hdk hfk huk hn)
        clear hdk hfk huk hn
        go_wp2_with fail
        go_roundw
        case rel => exact ⟨k + 1, by omega, by omega, rfl, HR.out⟩
        case measure => simp [intOf]; omega
      · have hl := look_some hdk he (by rw [hxk]; exact hp)
        have hxm : x ∈ gk.es := by rw [he]; simp
        obtain ⟨p0, p1, f0, f1, po, ps, pc⟩ := ent_facts (hdk.ents x hxm)
        have hpl := pen_len hdk hxm
        rw [hxk] at hl
        have HR := Lib.hid (fun W => fl_some (g := g) (W := W) hk0 hdk hfk huk H.out.wf hlim he (by rw [hxk]; exact hp) hxk)
        clear hdk hfk huk hp he hxk po ps
        go_wp2_with fail
        go_roundw
        case rel => exact ⟨k + 1, by omega, by omega, rfl, HR.out _ rfl⟩
        case measure => simp [intOf]; omega
    · obtain rfl : k = line * 8 + 8 := by omega
      have HR := Lib.hid (And.intro hdk (And.intro hfk huk))
      clear hdk hfk huk
      go_wp2_with fail
      go_ret
      exact ⟨rfl, gk, by rw [HF.out]; exact HR.out.1, fun x hx => .inl (HR.out.2.1 x hx), HR.out.2.2⟩

theorem flush_any {w : World} {b : Nat} {d : Dev} {g : Lay} (h : DevIs w b d g) (line : Int) (hlim : d.steps < 1099511627776) :
    Calls Try.prog 15 #[.pointer (some ⟨b, 0, none⟩), .int .i64 line] w fun e w' => e = .returned (.bool (d.flushOk line)) ∧ DevTo w w' b g (d.flushed line) := by
  cases hok : d.flushOk line with
  | false =>
    refine (flush_no h line hok).mono ?_
    rintro e w' ⟨rfl, rfl⟩
    refine ⟨rfl, g, ?_, fun k hk => .inl hk, Upd.refl _ _⟩
    unfold Dev.flushed
    rw [if_neg (by simp [hok])]
    exact h
  | true => exact flush_go h line hok hlim

end Go.Proofs.Ytlokklfkiechdaa.Pm
