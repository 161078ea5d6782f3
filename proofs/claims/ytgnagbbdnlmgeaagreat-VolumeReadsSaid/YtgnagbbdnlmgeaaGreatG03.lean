/- Parts of the proof, one behind the other: We, Mp, Wl, Su, Sv, In. -/
import Derived.Test.YtgnagbbdnlmgeaaGreatG02
import Derived.BigRegion
import Derived.Carry
import Derived.ChangeMaps5
import Derived.Maps.RangeRun
import Derived.Maps.OwnOps
import Derived.Maps.RangeWalk
import Derived.Maps.OwnSet
import Derived.Test.YtgnagbbdnlmgeaaGreatG01
import Derived.OwnWalk
import Derived.ArgAppend
import Derived.Laws.MakeOwn
import Derived.Lib.SlBytesConst
import Derived.Deep.QuietTactic
import Derived.BigQuiet

/- Bytes in words: the third chapter's function. -/
section
set_option linter.unusedVariables false
set_option linter.unusedSimpArgs false
set_option maxHeartbeats 2000000
set_option maxRecDepth 100000
namespace Go.Proofs.YtgnagbbdnlmgeaaGreat.Pk
open Go Go.RowKit
open Go.Proofs.YtgnagbbdnlmgeaaGreat.Ob Go.Proofs.YtgnagbbdnlmgeaaGreat.Ba Go.Proofs.YtgnagbbdnlmgeaaGreat.Oc

theorem info_u64 : (Tryz.prog.info? 94).map (fun i => (i.zero, i.size, i.bytes)) = some (some (.int .u64 0), 1, 8) := by kernel_rfl

theorem own_at {k : IntKind} {W : World} {B T n c : Nat} {A : Option Addr} {l : List Int} (h : W.ownsRow B T 1 (.slice A n c) n (ivs k l)) {i : Nat} {x : Int} (hx : l[i]? = some x) :
    ∃ q, A = some ⟨q, 0, none⟩ ∧ W.cell? ⟨q, i, none⟩ = some (.int k x) ∧ W.frozen? ⟨q, i, none⟩ = false := by
  obtain ⟨h1, ⟨h2, h3⟩ | ⟨g, cap, cur, hv, hg, hb, hn, hm, hs, ht⟩⟩ := h
  · have := (List.getElem?_eq_some_iff.1 hx).1
    rw [ivs_length] at h1
    omega
  · simp only [Value.slice.injEq, true_and] at hv
    obtain ⟨rfl, rfl⟩ := hv
    refine ⟨g, rfl, ?_, free_of hb i⟩
    rw [cell_of hb]
    have := ivs_get (k := k) hx
    rw [← ht, List.getElem?_take] at this
    split at this
    · simpa using this
    · cases this

theorem words_ {w : World} {A : Option Addr} {b : List Nat} (h : Rk .u8 w A (ints b)) (hl : ∀ x ∈ b, x < 256) (c : Nat) (hn : b.length ≤ 1000000000) :
    Calls Tryz.prog 162 #[.slice A b.length c] w fun e w' => ∃ v, e = .returned v ∧ w'.ownsRow w.heap.size 94 1 v (wds b).length (ivs .u64 (ints (wds b))) ∧ Below w.heap.size w w' := by
  have H := Lib.hid h
  have HL := Lib.hid hl
  obtain ⟨n, hnn⟩ : ∃ n, n = b.length := ⟨_, rfl⟩
  rw [← hnn]
  rw [← hnn] at hn
  have HN := Lib.hid hnn
  clear h hl hnn
  obtain ⟨i0, hinf, hz0, hz1, hz2⟩ := info_parts info_u64
  go_enter Tryz.func162, Tryz.ntmps162
  go_wp2_with fail
  go_loopw [8, 3] (fun c8 c3 wr => ∃ i : Nat, i ≤ n ∧ c8 = .int .i64 i ∧ Hid (Below w.heap.size w wr ∧ wr.ownsRow w.heap.size 94 1 c3 ((i + 7) / 8) (ivs .u64 (ints (wds (b.take i)))))) (fun c8 _ _ => n - (intOf c8).toNat)
  case atStart => exact ⟨0, Nat.zero_le _, rfl, Below.refl _ _, by have := own_nil0 w w.heap.size 94 1; simpa [wds, ints, ivs] using this⟩
  case round =>
    obtain ⟨i, hi, rfl, HR⟩ := hrel
    by_cases hlt : i < n
    · obtain ⟨x, hx⟩ := some_at (l := b) (i := i) (by rw [← HN.out]; exact hlt)
      obtain ⟨a, rfl, -, ha⟩ := (H.out.below HR.out.1) i x (ints_get hx)
      have hx8 := HL.out x (List.mem_of_getElem? hx)
      obtain ⟨q, r, hqr, hr⟩ : ∃ q r, i = 8 * q + r ∧ r < 8 := ⟨i / 8, i % 8, by omega, by omega⟩
      have HX := Lib.hid (And.intro hx hqr)
      have hshl : IntKind.u64.wrap ((x : Int) * 2 ^ (8 * r)) = ((2 ^ (8 * r) * x : Nat) : Int) := by
        have e : (x : Int) * 2 ^ (8 * r) = ((2 ^ (8 * r) * x : Nat) : Int) := by rw [Nat.mul_comm (2 ^ (8 * r)) x]; norm_cast
        rw [e]
        refine wu64 _ (by omega) ?_
        have h1 : 2 ^ (8 * r) * x < 2 ^ (8 * r) * 2 ^ 8 := Nat.mul_lt_mul_of_pos_left (by omega) (Nat.two_pow_pos _)
        rw [← Nat.pow_add] at h1
        have h2 : 2 ^ (8 * r + 8) ≤ 2 ^ 64 := Nat.pow_le_pow_right (by omega) (by omega)
        have h3 : (2 : Nat) ^ 64 = 18446744073709551616 := rfl
        omega
      have HSH := Lib.hid hshl
      clear hx hqr hshl
      by_cases hr0 : r = 0
      · subst hr0
        have hq : i = 8 * q := by have := HX.out.2; omega
        have e0 : ((i : Int) % 8 == 0) = true := beq_iff_eq.2 (by omega)
        have HQ := Lib.hid hq
        have hown0 := HR.out.2
        rw [show (i + 7) / 8 = q from by omega] at hown0
        have HOW := Lib.hid (fun o => own_kp (W' := wr.alloc o) hown0 (fun k _ hk => Below.heap_alloc _ _ k hk))
        have hqb : q ≤ 1000000000 := by omega
        clear hq hown0
        go_wp2_with (at_builtin; refine wpList_append_own _ rfl (.tmp 16) (.tmp 17) 22 rfl w.heap.size 94 i0 (.int .u64 0) 1 8 Tryz.underlying22 hinf hz0 hz1 hz2 rfl (by decide) _ q _ rfl (HOW.out _) ⟨wr.heap.size, 0, none⟩ 1 1 [.int .u64 0] rfl rfl (one_at _ _ _) (by intro u hu; simp at hu; subst hu; rfl) (by unfold maxLen; omega) (by omega) (by have h1 := HR.out.1.size; simp; omega) ?_; intro v' w7 hown' hgrow _; (obtain ⟨A7, c7, rfl⟩ := own_slice hown'); (have HO := Lib.hid hown'); (have HG := Lib.hid hgrow); clear hown' hgrow)
        have hz : ints (wds (b.take i)) ++ [0] = ints (wds (b.take i)) ++ [0] := rfl
        have hlen : (wds (b.take i)).length = q := by rw [wds_len, List.length_take, ← HN.out]; have := HQ.out; omega
        obtain ⟨g, rfl, hc, hf⟩ := own_at (l := ints (wds (b.take i)) ++ [0]) (i := q) (x := 0) (by rw [ivs_append]; exact HO.out) (by rw [List.getElem?_append_right (by rw [ints_length]; omega), ints_length, hlen]; simp)
        have hsh : Hid (Go.bits .or .u64 0 (IntKind.u64.wrap ((x : Int) * 2 ^ (8 * (i % 8)))) = (x : Int)) := by
          show _ = _
          rw [show i % 8 = 0 from by have := HQ.out; omega]
          have h1 := HSH.out
          rw [h1]
          have := or_add 0 x 0 (by decide) (by simp; omega)
          simpa using this
        have HZ : Hid (w7.ownsRow w.heap.size 94 1 (.slice (some ⟨g, 0, none⟩) (q + 1) c7) (q + 1) (ivs .u64 (ints (wds (b.take i)) ++ [0])) ∧ (ivs .u64 (ints (wds (b.take i)) ++ [0])).set q (.int .u64 x) = ivs .u64 (ints (wds (b.take (i + 1)))) ∧ w.heap.size ≤ g ∧ (i + 1 + 7) / 8 = q + 1) := by
          refine ⟨by rw [ivs_append]; exact HO.out, ?_, own_lo HO.out g rfl, by have := HQ.out; omega⟩
          have h1 := HX.out.1
          rw [HQ.out] at h1
          rw [HQ.out, wds_first HL.out q x h1, ints_append, ivs_append, ivs_append]
          rw [HQ.out] at hlen
          rw [List.set_append, if_neg (by rw [ivs_length, ints_length, hlen]; omega), ivs_length, ints_length, hlen]
          simp [ivs, ints]
        go_region
        go_wp2
        rw [hsh.out]
        go_roundw
        case rel =>
          refine ⟨i + 1, by omega, by go_num, bl_drew (bl_set (bl_grown (bl_alloc HR.out.1 _) HG.out (own_lo HR.out.2)) HZ.out.2.2.1 _), ?_⟩
          have := own_set HZ.out.1 (i := q) (by omega) (.int .u64 x)
          rw [HZ.out.2.1] at this
          rw [HZ.out.2.2.2]
          exact this
        case measure => simp [intOf]; omega
      · have hk : (i + 7) / 8 = q + 1 := by have := HX.out.2; omega
        have e0 : ((i : Int) % 8 == 0) = false := beq_eq_false_iff_ne.2 (by have := HX.out.2; omega)
        have hown0 := HR.out.2
        rw [hk] at hown0
        obtain ⟨A7, c7, rfl⟩ := own_slice hown0
        have hqb : q ≤ 1000000000 := by have := HX.out.2; omega
        have h1 := HX.out.1
        rw [HX.out.2] at h1
        obtain ⟨n1, n2⟩ := wd8_new HL.out q r x hr h1
        rw [← HX.out.2] at n1 n2
        have hlen : (wds (b.take i)).length = q + 1 := by rw [wds_len, List.length_take, ← HN.out, ← hk]; omega
        have hget : (wds (b.take i))[q]? = some (wd8 (b.take i) q) := by rw [wds_get, if_pos (by rw [wds_len] at hlen; omega)]
        obtain ⟨g, rfl, hc, hf⟩ := own_at (l := ints (wds (b.take i))) (i := q) (x := ((wd8 (b.take i) q : Nat) : Int)) hown0 (ints_get hget)
        have hsh : Hid (Go.bits .or .u64 ((wd8 (b.take i) q : Nat) : Int) (IntKind.u64.wrap ((x : Int) * 2 ^ (8 * (i % 8)))) = ((wd8 (b.take i) q + 2 ^ (8 * r) * x : Nat) : Int)) := by
          show _ = _
          rw [show i % 8 = r from by have := HX.out.2; omega, HSH.out]
          exact or_add _ x (8 * r) n2 (by rw [← n1]; exact wd8_lt (fun y hy => HL.out y (List.mem_of_mem_take hy)) q)
        have HZ : Hid (wr.ownsRow w.heap.size 94 1 (.slice (some ⟨g, 0, none⟩) (q + 1) c7) (q + 1) (ivs .u64 (ints (wds (b.take i)))) ∧ (ivs .u64 (ints (wds (b.take i)))).set q (.int .u64 ((wd8 (b.take i) q + 2 ^ (8 * r) * x : Nat) : Int)) = ivs .u64 (ints (wds (b.take (i + 1)))) ∧ w.heap.size ≤ g ∧ (i + 1 + 7) / 8 = q + 1) := by
          refine ⟨hown0, ?_, own_lo hown0 g rfl, by have := HX.out.2; omega⟩
          have hw := wds_next HL.out q r x hr (by omega) h1
          rw [← HX.out.2] at hw
          rw [hw]
          simp [ivs, ints, List.map_set]
        generalize wd8 (b.take i) q = y at *
        clear hown0 n1 n2 hget h1 hk hlen
        go_wp2_with fail
        go_region
        go_wp2
        rw [hsh.out]
        go_roundw
        case rel =>
          refine ⟨i + 1, by omega, by go_num, bl_drew (bl_set HR.out.1 HZ.out.2.2.1 _), ?_⟩
          have := own_set HZ.out.1 (i := q) (by omega) (.int .u64 ((y + 2 ^ (8 * r) * x : Nat) : Int))
          rw [HZ.out.2.1] at this
          rw [HZ.out.2.2.2]
          exact this
        case measure => simp [intOf]; omega
    · obtain rfl : i = n := by omega
      go_wp2_with fail
      go_ret
      have h2 := HR.out.2
      rw [List.take_of_length_le (by rw [← HN.out]; omega)] at h2
      refine ⟨_, rfl, ?_, HR.out.1⟩
      rw [wds_len, ← HN.out]
      exact h2

end Go.Proofs.YtgnagbbdnlmgeaaGreat.Pk
end

/- Map blocks written out: a map's block as a list of keys, values and stamps, and what look-up, store, delete and clear do to it. Plain laws of the model's runs; no program is named. -/
section
set_option linter.unusedVariables false
set_option linter.unusedSimpArgs false
set_option linter.unusedSectionVars false
namespace Go.Proofs.YtgnagbbdnlmgeaaGreat.Mp
open Go
open Go.ChangeMaps (setBlock)

/-- A kind of keys: how a key is a value, and that two of them are told apart. -/
structure Kk (α : Type) [DecidableEq α] where mk0 ::
  mk : α → Value
  kd : TypeDesc
  same : ∀ a b, Instr.sameNow kd (mk a) (mk b) = some (decide (a = b))
  bits : ∀ a, Instr.sameBits 10000 (mk a) (mk a) = true
  chk : ∀ (P : Program) (t : TypeId) (em : Bool) (a : α) (w : World), P.underlying t = some kd → (Instr.checkKey em 10000 t (mk a)).run P w = .ok () w

theorem run_underlying {P : Program} {t : TypeId} {d : TypeDesc} (h : P.underlying t = some d) (w : World) : (underlying t).run P w = .ok d w := by
  unfold underlying
  simp [Sem.run_bind, Sem.run, h, program, Result.andThen]

theorem run_pure {α : Type} {P : Program} (a : α) (w : World) : (pure a : Sem α).run P w = .ok a w := rfl

def kInt (k : IntKind) : Kk Int where
  mk a := .int k a
  kd := .int k
  same a b := by
    simp only [Instr.sameNow, if_true]
    exact congrArg some (by by_cases h : a = b <;> simp [h])
  bits a := by simp [Instr.sameBits]
  chk P t em a w h := by
    unfold Instr.checkKey
    simp only [Sem.run_bind, run_underlying h, Result.andThen]
    rfl

theorem bytes_beq (a b : ByteArray) : (a == b) = decide (a = b) := by
  by_cases h : a = b
  · subst h
    rw [decide_eq_true rfl]
    show (a.data == a.data) = true
    simp
  · rw [decide_eq_false h]
    show (a.data == b.data) = false
    rw [beq_eq_false_iff_ne]
    exact fun e => h (by cases a; cases b; simp_all)

def kStr : Kk ByteArray where
  mk a := .string a
  kd := .string
  same a b := by
    simp only [Instr.sameNow, bytes_beq]
  bits a := by simp [Instr.sameBits, bytes_beq]
  chk P t em a w h := by
    unfold Instr.checkKey
    simp only [Sem.run_bind, run_underlying h, Result.andThen]
    rfl

section
variable {α : Type} [DecidableEq α]

abbrev En (α : Type) := α × Value × Nat
def ent (K : Kk α) (x : En α) : MapEntry := ⟨K.mk x.1, x.2.1, x.2.2⟩
def obj (K : Kk α) (es : List (En α)) (clock : Nat) : Obj := .map (es.map (ent K)).toArray clock

theorem find_none (K : Kk α) (k : α) : ∀ (es : List (En α)) (i : Nat), (∀ x ∈ es, x.1 ≠ k) → Instr.findNow K.kd (K.mk k) (es.map (ent K)) i = some none
  | [], _, _ => rfl
  | x :: es, i, h => by
    have hx : ¬ k = x.1 := fun e => h x (by simp) e.symm
    simp only [List.map_cons, Instr.findNow, ent, K.same, hx, decide_false]
    exact find_none K k es (i + 1) (fun y hy => h y (by simp [hy]))

theorem find_some (K : Kk α) (k : α) (v : Value) (b : Nat) (post : List (En α)) : ∀ (pre : List (En α)) (i : Nat), (∀ x ∈ pre, x.1 ≠ k) →
    Instr.findNow K.kd (K.mk k) ((pre ++ (k, v, b) :: post).map (ent K)) i = some (some (i + pre.length, v))
  | [], i, _ => by simp [Instr.findNow, ent, K.same]
  | x :: pre, i, h => by
    have hx : ¬ k = x.1 := fun e => h x (by simp) e.symm
    simp only [List.cons_append, List.map_cons, Instr.findNow, ent, K.same, hx, decide_false]
    have := find_some K k v b post pre (i + 1) (fun y hy => h y (by simp [hy]))
    rw [this]
    simp only [List.length_cons]
    congr 3
    omega

theorem run_find {P : Program} {K : Kk α} {t : TypeId} {k : α} {es : List (En α)} {r : Option (Nat × Value)} (ht : P.underlying t = some K.kd) (h : Instr.findNow K.kd (K.mk k) (es.map (ent K)) 0 = some r) (w : World) :
    (Instr.findKey t (K.mk k) (es.map (ent K))).run P w = .ok r w := by
  unfold Instr.findKey
  simp only [Sem.run_bind, run_underlying ht, Result.andThen, h]
  rfl

variable {P : Program} {t kt et : TypeId} {K : Kk α} {w : World} {M clock : Nat} {es pre post : List (En α)} {k : α} {v v' : Value} {b : Nat}

theorem run_lookup_none (hm : P.underlying t = some (.map kt et)) (hk : P.underlying kt = some K.kd) (hb : w.heap[M]? = some (obj K es clock)) (hn : ∀ x ∈ es, x.1 ≠ k) {z : Value} (hz : (zeroValue et).run P w = .ok z w) :
    (Instr.lookup t (.map (some M)) (K.mk k) false).run P w = .ok z w := by
  unfold Instr.lookup
  simp only [Sem.run_bind, run_underlying hm, Result.andThen, getObj, Sem.run, run_pure, hb, obj, K.chk _ _ _ _ _ hk, run_find hk (find_none K k es 0 hn), hz]
  rfl

theorem run_lookup_some (hm : P.underlying t = some (.map kt et)) (hk : P.underlying kt = some K.kd) (hb : w.heap[M]? = some (obj K (pre ++ (k, v, b) :: post) clock)) (hn : ∀ x ∈ pre, x.1 ≠ k) :
    (Instr.lookup t (.map (some M)) (K.mk k) false).run P w = .ok v w := by
  unfold Instr.lookup
  simp only [Sem.run_bind, run_underlying hm, Result.andThen, getObj, Sem.run, run_pure, hb, obj, K.chk _ _ _ _ _ hk, run_find hk (find_some K k v b post pre 0 hn)]
  rfl

theorem run_setObj {o : Obj} (hb : w.heap[M]? = some (obj K es clock)) : (setObj M o).run P w = .ok () (setBlock w M o) := by
  simp [setObj, Sem.run, hb, setBlock, obj]

theorem run_update_new (hm : P.underlying t = some (.map kt et)) (hk : P.underlying kt = some K.kd) (hb : w.heap[M]? = some (obj K es clock)) (hn : ∀ x ∈ es, x.1 ≠ k) :
    (Instr.mapUpdate t (.map (some M)) (K.mk k) v).run P w = .ok () (setBlock w M (obj K (es ++ [(k, v, clock)]) (clock + 1))) := by
  have hb' := hb
  unfold obj at hb'
  unfold Instr.mapUpdate
  simp only [Sem.run_bind, run_underlying hm, Result.andThen, getObj, Sem.run, run_pure, hb', K.chk _ _ _ _ _ hk, run_find hk (find_none K k es 0 hn), run_setObj hb]
  congr 2
  simp [obj, ent]

theorem run_update_old (hm : P.underlying t = some (.map kt et)) (hk : P.underlying kt = some K.kd) (hb : w.heap[M]? = some (obj K (pre ++ (k, v, b) :: post) clock)) (hn : ∀ x ∈ pre, x.1 ≠ k) :
    (Instr.mapUpdate t (.map (some M)) (K.mk k) v').run P w = .ok () (setBlock w M (obj K (pre ++ (k, v', b) :: post) clock)) := by
  have hb' := hb
  unfold obj at hb'
  have hget : ((pre ++ (k, v, b) :: post).map (ent K)).toArray[0 + pre.length]? = some ⟨K.mk k, v, b⟩ := by simp [ent]
  unfold Instr.mapUpdate
  simp only [Sem.run_bind, run_underlying hm, Result.andThen, getObj, Sem.run, run_pure, hb', K.chk _ _ _ _ _ hk, run_find hk (find_some K k v b post pre 0 hn), hget, Option.map_some, Option.getD_some, Instr.keyThatStays, K.bits, if_true]
  simp only [run_pure, run_setObj hb]
  congr 2
  simp only [obj]
  congr 1
  apply Array.ext'
  simp [List.modify_eq_take_drop, ent]

theorem run_delete_none {ts : Array TypeId} {ty : TypeId} (hts : ts = #[t, kt]) (hm : P.underlying t = some (.map kt et)) (hk : P.underlying kt = some K.kd) (hb : w.heap[M]? = some (obj K es clock)) (hn : ∀ x ∈ es, x.1 ≠ k) :
    (Builtin.delete_ ts ty #[.map (some M), K.mk k]).run P w = .ok (.tuple #[]) (setBlock w M (obj K es clock)) := by
  subst hts
  have hb' := hb
  unfold obj at hb'
  unfold Builtin.delete_
  simp only [List.getElem?_toArray, List.getElem?_cons_zero, List.getElem?_cons_succ, Sem.run_bind, run_underlying hm, Result.andThen, getObj, Sem.run, run_pure, hb', K.chk _ _ _ _ _ hk, run_find hk (find_none K k es 0 hn), run_setObj hb]
  rfl

theorem run_delete_some {ts : Array TypeId} {ty : TypeId} (hts : ts = #[t, kt]) (hm : P.underlying t = some (.map kt et)) (hk : P.underlying kt = some K.kd) (hb : w.heap[M]? = some (obj K (pre ++ (k, v, b) :: post) clock)) (hn : ∀ x ∈ pre, x.1 ≠ k) :
    (Builtin.delete_ ts ty #[.map (some M), K.mk k]).run P w = .ok (.tuple #[]) (setBlock w M (obj K (pre ++ post) clock)) := by
  subst hts
  have hb' := hb
  unfold obj at hb'
  unfold Builtin.delete_
  simp only [List.getElem?_toArray, List.getElem?_cons_zero, List.getElem?_cons_succ, Sem.run_bind, run_underlying hm, Result.andThen, getObj, Sem.run, run_pure, hb', K.chk _ _ _ _ _ hk, run_find hk (find_some K k v b post pre 0 hn), run_setObj hb]
  have e : ((pre ++ (k, v, b) :: post).map (ent K)).toArray.eraseIdxIfInBounds (0 + pre.length) = ((pre ++ post).map (ent K)).toArray := by
    apply Array.ext'
    simp [Array.eraseIdxIfInBounds]
    rw [List.eraseIdx_append_of_length_le (by simp)]
    simp
  rw [e]
  rfl

theorem run_clear {ts : Array TypeId} {ty : TypeId} (hts : ts = #[t]) (hm : P.underlying t = some (.map kt et)) (hb : w.heap[M]? = some (obj K es clock)) :
    (Builtin.clear_ ts ty #[.map (some M)]).run P w = .ok (.tuple #[]) (setBlock w M (obj K [] clock)) := by
  subst hts
  have hb' := hb
  unfold obj at hb'
  unfold Builtin.clear_
  simp only [List.getElem?_toArray, List.getElem?_cons_zero, Sem.run_bind, run_underlying hm, Result.andThen, getObj, Sem.run, run_pure, hb', run_setObj hb]
  rfl

theorem run_len {ts : Array TypeId} {ty : TypeId} (hts : ts = #[t]) (hm : P.underlying t = some (.map kt et)) (hb : w.heap[M]? = some (obj K es clock)) :
    (Builtin.len_ ts ty #[.map (some M)]).run P w = .ok (.int .i64 es.length) w := by
  subst hts
  unfold obj at hb
  unfold Builtin.len_
  simp [Sem.run_bind, run_underlying hm, Result.andThen, getObj, Sem.run, run_pure, hb, goInt]

theorem run_range (hm : P.underlying t = some (.map kt et)) (hb : w.heap[M]? = some (obj K es clock)) :
    (Instr.range t (.map (some M))).run P w = .ok (.pointer (some ⟨w.heap.size, 0, none⟩)) (w.alloc (.mapIter (some M) clock #[] clock)) := by
  unfold obj at hb
  unfold Instr.range
  simp only [Sem.run_bind, run_underlying hm, Result.andThen, getObj, Sem.run, run_pure, hb, newObj]
  rfl

/-- The round's head: nothing is left, or one entry comes. -/
theorem run_next {r : Nat} {seen : Array Nat} (ty : TypeId) (hr : w.heap[r]? = some (.mapIter (some M) clock seen clock)) (hb : w.heap[M]? = some (obj K es clock)) (hold : ∀ x ∈ es, x.2.2 < clock) :
    ((∀ x ∈ es, x.2.2 ∈ seen) ∧ (Instr.next (.pointer (some ⟨r, 0, none⟩)) false ty).run P w = .ok (.tuple #[.bool false]) w) ∨
    ∃ x ∈ es, x.2.2 ∉ seen ∧ ∃ w1 : World, (w1 = w ∨ w1 = w.drew) ∧ (Instr.next (.pointer (some ⟨r, 0, none⟩)) false ty).run P w = .ok (.tuple #[.bool true, K.mk x.1, x.2.1]) (setBlock w1 r (.mapIter (some M) clock (seen.push x.2.2) clock)) := by
  rcases run_next_at (P := P) w ty r M clock clock seen _ clock hr hb (fun x hx => by
      simp only [List.mem_map] at hx
      obtain ⟨y, hy, rfl⟩ := hx
      exact hold y hy) (Nat.le_refl _) with ⟨h0, hrun⟩ | ⟨e, he, w1, hw1, hrun⟩
  · refine .inl ⟨fun x hx => ?_, hrun⟩
    apply Classical.byContradiction
    intro hn
    have : ent K x ∈ (leftOf (es.map (ent K)).toArray seen) := by
      unfold leftOf
      simp [ent]
      exact ⟨⟨x.1, x.2.1, x.2.2, hx, rfl, rfl, rfl⟩, hn⟩
    have hz : leftOf (es.map (ent K)).toArray seen = #[] := Array.eq_empty_of_size_eq_zero h0
    rw [hz] at this
    simp at this
  · refine .inr ?_
    unfold leftOf at he
    simp at he
    obtain ⟨⟨a, c, d, hx, rfl⟩, hn⟩ := he
    exact ⟨(a, c, d), hx, hn, w1, hw1, hrun⟩

theorem run_entry {r : Nat} {seen : Array Nat} {x : En α} (hr : w.heap[r]? = some (.mapIter (some M) clock (seen.push x.2.2) clock)) (hb : w.heap[M]? = some (obj K es clock)) (hx : x ∈ es) (hnd : (es.map (·.2.2)).Nodup) :
    (Instr.entry (.pointer (some ⟨r, 0, none⟩))).run P w = .ok (.tuple #[K.mk x.1, x.2.1]) w :=
  run_entry_at (P := P) w r M clock seen _ clock (ent K x) hr hb (by simp; exact ⟨x.1, x.2.1, x.2.2, hx, rfl⟩) (by simp [Function.comp_def, ent]; exact hnd)

end
end Go.Proofs.YtgnagbbdnlmgeaaGreat.Mp
end

/- Maps' operations in a walk: laws at the operation, the world behind them a variable. No program is named. -/
section
set_option linter.unusedVariables false
set_option linter.unusedSimpArgs false
set_option linter.unusedSectionVars false
namespace Go.Proofs.YtgnagbbdnlmgeaaGreat.Wl
open Go Go.RowKit
open Go.ChangeMaps (setBlock)
open Go.Proofs.YtgnagbbdnlmgeaaGreat.Ob Go.Proofs.YtgnagbbdnlmgeaaGreat.Mp

variable {α : Type} [DecidableEq α] {P : Program} {w : World} {ops : Array Oper} {rest : List Oper} {o : Oper} {a : Act} {Q : Exit → Act → World → Prop} {t kt et : TypeId} {M clock : Nat}

/-- Block M alone has turned. -/
structure Only (M : Nat) (ob : Obj) (w W : World) : Prop where
  here : W.heap[M]? = some ob
  far : ∀ i, i ≠ M → W.heap[i]? = w.heap[i]?
  upd : ∀ F : List Nat, M ∈ F → Upd F w W
  size : W.heap.size = w.heap.size

theorem only_set {M : Nat} {o' : Obj} (h : w.heap[M]? = some o') (ob : Obj) : Only M ob w (setBlock w M ob) :=
  ⟨setBlock_same h ob, fun i hi => setBlock_other w M ob i hi, fun F hF => (Upd.refl F w).setBlock (.inl hF) ob, setBlock_size w M ob⟩

theorem Only.blk {M : Nat} {ob : Obj} {W : World} (h : Only M ob w W) {i : Nat} {o' : Obj} (hi : w.heap[i]? = some o') (hne : i ≠ M) : W.heap[i]? = some o' := (h.far i hne).trans hi

theorem wpl_put_new (K : Kk α) (es : List (En α)) (hg : o.guard = none) (m x v : Operand) (t : TypeId) (hop : o.op = Op.mapUpdate t m x v) (hm : P.underlying t = some (.map kt et)) (hk : P.underlying kt = some K.kd)
    (hmv : a.eval m = .map (some M)) (k : α) (hxv : a.eval x = K.mk k) (val : Value) (hvv : a.eval v = val) (hb : w.heap[M]? = some (obj K es clock)) (hn : ∀ x ∈ es, x.1 ≠ k)
    (hK : ∀ W, Only M (obj K (es ++ [(k, val, clock)]) (clock + 1)) w W → wpList P ops Q rest (a.put o.dst undef) W) : wpList P ops Q (o :: rest) a w := by
  refine wpList_plain hg fun K' hK' => ?_
  unfold Oper.wp
  simp [execOp, hop, hmv, hxv, hvv, run_update_new hm hk hb hn (v := val), Result.andThen]
  exact hK' _ _ (hK _ (only_set hb _))

theorem wpl_put_old (K : Kk α) (pre post : List (En α)) (old : Value) (b : Nat) (hg : o.guard = none) (m x v : Operand) (t : TypeId) (hop : o.op = Op.mapUpdate t m x v) (hm : P.underlying t = some (.map kt et)) (hk : P.underlying kt = some K.kd)
    (hmv : a.eval m = .map (some M)) (k : α) (hxv : a.eval x = K.mk k) (val : Value) (hvv : a.eval v = val) (hb : w.heap[M]? = some (obj K (pre ++ (k, old, b) :: post) clock)) (hn : ∀ x ∈ pre, x.1 ≠ k)
    (hK : ∀ W, Only M (obj K (pre ++ (k, val, b) :: post) clock) w W → wpList P ops Q rest (a.put o.dst undef) W) : wpList P ops Q (o :: rest) a w := by
  refine wpList_plain hg fun K' hK' => ?_
  unfold Oper.wp
  simp [execOp, hop, hmv, hxv, hvv, run_update_old hm hk hb hn (v' := val), Result.andThen]
  exact hK' _ _ (hK _ (only_set hb _))

theorem wpl_delete_some (K : Kk α) (pre post : List (En α)) (old : Value) (b : Nat) (hg : o.guard = none) (m x : Operand) (t kt : TypeId) (hop : o.op = Op.call { callee := Callee.builtin Builtin.delete, args := #[m, x], argTypes := #[t, kt] })
    (hm : P.underlying t = some (.map kt et)) (hk : P.underlying kt = some K.kd)
    (hmv : a.eval m = .map (some M)) (k : α) (hxv : a.eval x = K.mk k) (hb : w.heap[M]? = some (obj K (pre ++ (k, old, b) :: post) clock)) (hn : ∀ x ∈ pre, x.1 ≠ k)
    (hK : ∀ W, Only M (obj K (pre ++ post) clock) w W → wpList P ops Q rest (a.put o.dst (.tuple #[])) W) : wpList P ops Q (o :: rest) a w := by
  refine wpList_plain hg fun K' hK' => ?_
  unfold Oper.wp
  simp [execOp, hop, resolve, invoke, builtin, hmv, hxv, run_delete_some (ts := #[t, kt]) (ty := o.type) rfl hm hk hb hn, Result.andThen]
  exact hK' _ _ (hK _ (only_set hb _))

theorem wpl_clear (K : Kk α) (es : List (En α)) (hg : o.guard = none) (m : Operand) (t : TypeId) (hop : o.op = Op.call { callee := Callee.builtin Builtin.clear, args := #[m], argTypes := #[t] })
    (hm : P.underlying t = some (.map kt et)) (hmv : a.eval m = .map (some M)) (hb : w.heap[M]? = some (obj K es clock))
    (hK : ∀ W, Only M (obj K [] clock) w W → wpList P ops Q rest (a.put o.dst (.tuple #[])) W) : wpList P ops Q (o :: rest) a w := by
  refine wpList_plain hg fun K' hK' => ?_
  unfold Oper.wp
  simp [execOp, hop, resolve, invoke, builtin, hmv, run_clear (ts := #[t]) (ty := o.type) rfl hm hb, Result.andThen]
  exact hK' _ _ (hK _ (only_set hb _))

theorem wpl_range (K : Kk α) (es : List (En α)) (hg : o.guard = none) (m : Operand) (t : TypeId) (hop : o.op = Op.range t m) (hm : P.underlying t = some (.map kt et)) (hmv : a.eval m = .map (some M)) (hb : w.heap[M]? = some (obj K es clock))
    (hK : wpList P ops Q rest (a.put o.dst (.pointer (some ⟨w.heap.size, 0, none⟩))) (w.alloc (.mapIter (some M) clock #[] clock))) : wpList P ops Q (o :: rest) a w := by
  refine wpList_plain hg fun K' hK' => ?_
  unfold Oper.wp
  simp [execOp, hop, hmv, run_range hm hb, Result.andThen]
  exact hK' _ _ hK

/-- The round's head: nothing is left; or an entry has come: the iterator's block alone has turned, but for a draw. -/
theorem wpl_next (K : Kk α) (es : List (En α)) (r : Nat) (seen : Array Nat) (hg : o.guard = none) (it : Operand) (hop : o.op = Op.next it false) (hit : a.eval it = .pointer (some ⟨r, 0, none⟩))
    (hr : w.heap[r]? = some (.mapIter (some M) clock seen clock)) (hb : w.heap[M]? = some (obj K es clock)) (hold : ∀ x ∈ es, x.2.2 < clock) (hnd : (es.map (·.2.2)).Nodup)
    (hDone : (∀ x ∈ es, x.2.2 ∈ seen) → wpList P ops Q rest (a.put o.dst (.tuple #[.bool false])) w)
    (hMore : ∀ x, x ∈ es → x.2.2 ∉ seen → ∀ W, Only r (.mapIter (some M) clock (seen.push x.2.2) clock) w W → (Instr.entry (.pointer (some ⟨r, 0, none⟩))).run P W = .ok (.tuple #[K.mk x.1, x.2.1]) W →
      wpList P ops Q rest (a.put o.dst (.tuple #[.bool true, K.mk x.1, x.2.1])) W) : wpList P ops Q (o :: rest) a w := by
  refine wpList_plain hg fun K' hK' => ?_
  unfold Oper.wp
  rcases run_next (P := P) (K := K) o.type hr hb hold with ⟨h0, hrun⟩ | ⟨x, hx, hn, w1, hw1, hrun⟩
  · simp [execOp, hop, hit, hrun, Result.andThen]
    exact hK' _ _ (hDone h0)
  · simp [execOp, hop, hit, hrun, Result.andThen]
    have hne : M ≠ r := by intro e; subst e; rw [hb] at hr; simp [obj] at hr
    have ho : Only r (.mapIter (some M) clock (seen.push x.2.2) clock) w (setBlock w1 r (.mapIter (some M) clock (seen.push x.2.2) clock)) := by
      rcases hw1 with rfl | rfl
      · exact only_set hr _
      · have := only_set (w := w.drew) hr (.mapIter (some M) clock (seen.push x.2.2) clock)
        exact ⟨this.here, this.far, fun F hF => ⟨(this.upd F hF).os, (this.upd F hF).tape, (this.upd F hF).output, (this.upd F hF).size, (this.upd F hF).block⟩, this.size⟩
    exact hK' _ _ (hMore x hx hn _ ho (run_entry ho.here (ho.blk hb hne) hx hnd))

/-- A row of its own, new. -/
structure NewRow (e : TypeId) (q c : Nat) (vs : List Value) (w W : World) : Prop where
  ex : ∃ cs, W.heap[q]? = some (.cells cs e (0, 0)) ∧ c ≤ cs.size ∧ ∀ (j : Nat) v, vs[j]? = some v → cs[0 + j]? = some v
  cap : vs.length ≤ c
  new : w.heap.size ≤ q
  upd : ∀ F : List Nat, Upd F w W

/-- What is appended doesn't fit: a new row. -/
theorem wpl_append_grow (hg : o.guard = none) (s x : Operand) (t : TypeId) (hop : o.op = Op.call { callee := Callee.builtin Builtin.append, args := #[s, x], argTypes := #[t, t] })
    (e : TypeId) (z : Value) (bytes : Nat) (h1 : P.underlying t = some (.slice e)) (hinf : (P.info? e).map (fun i => (i.zero, i.size, i.bytes)) = some (some z, 1, bytes)) (h6 : z.cells.size = 1)
    (ao : Option Addr) (n cap : Nat) (olds : List Value) (hs : a.eval s = .slice ao n cap) (hnone : ao = none → n = 0 ∧ cap = 0) (hlo : olds.length = n) (holds : ∀ b, ao = some b → ∀ j u, olds[j]? = some u → w.cell? (b.add j) = some u)
    (ad : Addr) (m c : Nat) (news : List Value) (hx : a.eval x = .slice (some ad) m c) (hn : news.length = m) (hc : ∀ j u, news[j]? = some u → w.cell? (ad.add j) = some u) (h1c : ∀ u ∈ news, u.oneCell' = true)
    (hfull : cap < n + m) (b1 : n + m ≤ maxLen) (b2 : (n + m) * bytes ≤ 140737488355328) (hpos : 0 < n + m)
    (hK : ∀ q c W, NewRow e q c (olds ++ news) w W → wpList P ops Q rest (a.put o.dst (.slice (some ⟨q, 0, none⟩) (n + m) c)) W) :
    wpList P ops Q (o :: rest) a w := by
  obtain ⟨i, hi, hz, hsz, hby⟩ := info_parts hinf
  refine wpList_append_grows w hg s x t hop e i z 1 bytes h1 hi hz hsz hby h6 (by decide) ao n cap olds hs hnone (by simpa using hlo) holds ad m c news hx (by simpa using hn) hc h1c hfull b1 b2 ?_
  intro v' w' hown hgr
  obtain ⟨hl, ⟨rfl, h0⟩ | ⟨g, cap', cur, rfl, hge, hb, hnc, _, hsize, ht⟩⟩ := hown
  · omega
  · refine hK g cap' w' ⟨⟨cur, hb, by omega, fun j v hj => ?_⟩, by simp [hlo, hn]; exact hnc, hge, fun F => Upd.of_grown hgr⟩
    rw [← ht, List.getElem?_take] at hj
    split at hj
    · simpa using hj
    · cases hj

theorem made_one (z : Value) (m : Nat) : madeCells #[z] m = Array.replicate m z := by
  unfold madeCells
  apply Array.ext (by simp)
  intro i h1 h2
  simp [Nat.mod_one]

/-- 'make([]T, n)', T of one cell. -/
theorem wpl_make (hg : o.guard = none) (l : Operand) (t e : TypeId) (hop : o.op = Op.makeSlice t l l) (z : Value) (bytes : Nat) (ht : P.underlying t = some (.slice e)) (hinf : (P.info? e).map (fun i => (i.zero, i.size, i.bytes)) = some (some z, 1, bytes)) (hz : z.cells = #[z])
    (m : Nat) (k : IntKind) (c : Int) (hl : a.eval l = .int k c) (hc : c = m) (hb : bytes * m ≤ 281474976710656) (hm : m ≤ 9223372036854775807)
    (hK : wpList P ops Q rest (a.put o.dst (.slice (some ⟨w.heap.size, 0, none⟩) m m)) (w.alloc (.cells (Array.replicate m z) e (0, 0)))) : wpList P ops Q (o :: rest) a w := by
  subst hc
  obtain ⟨i, hi, hzi, hsz, hby⟩ := info_parts hinf
  have hb' : (i.bytes : Int) * (m : Int) ≤ 281474976710656 := by
    rw [hby]
    have h : ((bytes * m : Nat) : Int) ≤ 281474976710656 := by omega
    rwa [Int.natCast_mul] at h
  have hr := run_make (P := P) w t e i z ht hi hzi k k m m (by omega) (Int.le_refl _) hb' (by omega)
  rw [hz, hsz, Nat.mul_one, Int.toNat_natCast, made_one] at hr
  refine wpList_plain hg fun K' hK' => ?_
  unfold Oper.wp
  simp [execOp, hop, hl, hr, Result.andThen]
  exact hK' _ _ hK

theorem only_freeze {g : Nat} {C : Array Value} {e : TypeId} (h : w.heap[g]? = some (.cells C e (0, 0))) (k : Nat) : Only g (.cells C e (k, k + 1)) w (w.freeze ⟨g, k, none⟩ 1) := by
  have hf : ∀ i, (w.freeze ⟨g, k, none⟩ 1).heap[i]? = if g = i then (w.heap[i]?).map (fun o => match o with | .cells c elem (lo, hi) => .cells c elem (if lo == hi then (k, k + 1) else (min lo k, max hi (k + 1))) | o => o) else w.heap[i]? := by
    intro i
    unfold World.freeze
    rw [if_neg (by decide)]
    simp only [Array.getElem?_modify]
    rfl
  have hs : (w.freeze ⟨g, k, none⟩ 1).heap.size = w.heap.size := by
    unfold World.freeze
    rw [if_neg (by decide)]
    simp
  refine ⟨?_, fun i hi => ?_, fun F hF => ⟨?_, ?_, ?_, by rw [hs]; exact Nat.le_refl _, fun i _ hi => ?_⟩, hs⟩
  · rw [hf, if_pos rfl, h]
    rfl
  · rw [hf, if_neg (fun e => hi e.symm)]
  · unfold World.freeze; rw [if_neg (by decide)]
  · unfold World.freeze; rw [if_neg (by decide)]
  · unfold World.freeze; rw [if_neg (by decide)]
  · rw [hf, if_neg (fun (e' : g = i) => hi (e' ▸ hF))]

/-- '[]byte("..")' of a constant: the row is marked behind its end, and the slice goes on. -/
theorem wpl_conv (hg : o.guard = none) (x : Operand) (t e : TypeId) (hop : o.op = Op.convert t t x) (ht : P.underlying t = some (.slice e)) (he : P.underlying e = some (.int .u8)) (g n c : Nat) (C : Array Value)
    (hx : a.eval x = .slice (some ⟨g, 0, none⟩) n c) (hb : w.heap[g]? = some (.cells C e (0, 0)))
    (hK : ∀ W, Only g (.cells C e (C.size, C.size + 1)) w W → wpList P ops Q rest (a.put o.dst (.slice (some ⟨g, 0, none⟩) n c)) W) : wpList P ops Q (o :: rest) a w := by
  have hsh : w.shape? g = some (e, C.size) := by unfold World.shape?; rw [hb]
  have hrun : (convert t t (.slice (some ⟨g, 0, none⟩) n c)).run P w = .ok (.slice (some ⟨g, 0, none⟩) n c) (w.freeze ⟨g, C.size, none⟩ 1) := by
    simp [convert, run_underlying ht, run_underlying he, markStringish, hsh]
  refine wpList_plain hg fun K' hK' => ?_
  unfold Oper.wp
  simp [execOp, hop, hx, hrun, Result.andThen]
  exact hK' _ _ (hK _ (only_freeze hb _))

end Go.Proofs.YtgnagbbdnlmgeaaGreat.Wl
end

/- The fifth chapter's functions: a superblock's words. -/
section
set_option linter.unusedVariables false
set_option linter.unusedSimpArgs false
set_option maxHeartbeats 2000000
set_option maxRecDepth 100000
namespace Go.Proofs.YtgnagbbdnlmgeaaGreat.Su
open Go Go.RowKit
open Go.Proofs.YtgnagbbdnlmgeaaGreat.Ob Go.Proofs.YtgnagbbdnlmgeaaGreat.Ba Go.Proofs.YtgnagbbdnlmgeaaGreat.Ko Go.Proofs.YtgnagbbdnlmgeaaGreat.Ge Go.Proofs.YtgnagbbdnlmgeaaGreat.Cr Go.Proofs.YtgnagbbdnlmgeaaGreat.Cc Go.Proofs.YtgnagbbdnlmgeaaGreat.Oc Go.Proofs.YtgnagbbdnlmgeaaGreat.Pk

/-- a line: two numbers, and the sum behind noughts -/
def head7 (a b : Nat) : List Nat := [a, b, 0, 0, 0, 0, 0]
def sum7 (a b : Nat) : Nat := 4294967295 - sumB 4294967295 (octs (head7 a b))
def line (a b : Nat) : List Nat := [a, b, 0, 0, 0, 0, 0, sum7 a b]
theorem sum7_lt (a b : Nat) : sum7 a b < 4294967296 := by unfold sum7; omega
theorem sumB_le (l : List Nat) : sumB 4294967295 (octs l) < 4294967296 := sumB_lt _ _ (by decide) (octs_lt l)
theorem sum7_int (a b : Nat) : (4294967295 - (sumB 4294967295 (octs (head7 a b)) : Nat) : Int) = (sum7 a b : Nat) := by
  have := sumB_le (head7 a b)
  unfold sum7
  omega

def magic : Nat := 3544409100874826051
def word1 (n m s : Nat) : Nat := n + 65536 * m + 4294967296 * s
def enc (n m s : Nat) : List Nat := line magic (word1 n m s)

theorem geo_small {n m s : Int} (h : geoOk n m s = true) : ∃ a b c : Nat, n = a ∧ m = b ∧ s = c ∧ a < 65536 ∧ b < 65536 ∧ c < 65536 := by
  obtain ⟨h1, h2, h3⟩ := ok_out h
  obtain ⟨i1, i2, i3, i4⟩ := inB_out h1
  obtain ⟨p1, p2, _⟩ := pows_in h2
  exact ⟨n.toNat, m.toNat, s.toNat, by omega, by omega, by omega, by omega, by omega, by omega⟩

/-- the block of a line that is filled -/
theorem fill_line {W : World} {k T : Nat} {a b : Nat} (h : W.heap[k]? = some (.cells #[.int .u64 a, .int .u64 b, .int .u64 0, .int .u64 0, .int .u64 0, .int .u64 0, .int .u64 0, .int .u64 0] T (0, 0))) : Rk .u64 W (some ⟨k, 0, none⟩) (ints (head7 a b)) := by
  refine blk_rk h fun i x hx => ?_
  match i with
  | 0 => simpa [ints, head7] using hx
  | 1 => simpa [ints, head7] using hx
  | 2 => simpa [ints, head7] using hx
  | 3 => simpa [ints, head7] using hx
  | 4 => simpa [ints, head7] using hx
  | 5 => simpa [ints, head7] using hx
  | 6 => simpa [ints, head7] using hx
  | i + 7 => simp [ints, head7] at hx

theorem head7_lt {a b : Nat} (ha : a < 18446744073709551616) (hb : b < 18446744073709551616) : ∀ x ∈ head7 a b, x < 18446744073709551616 := by
  intro x hx
  simp only [head7, List.mem_cons, List.not_mem_nil, or_false] at hx
  omega

theorem fields_at {W : World} {q T : Nat} {l : List (Nat × Nat)} {fr : Nat × Nat} (h : W.heap[q]? = some (.cells ((l.flatMap fun p => [Value.int .i64 p.1, Value.int .u64 p.2])).toArray T fr)) (ho : ∀ p ∈ l, FOk p.1 p.2) : FsAt W (some ⟨q, 0, none⟩) l := by
  have key : ∀ (l : List (Nat × Nat)) (i : Nat) p, l[i]? = some p → (l.flatMap fun p => [Value.int .i64 p.1, Value.int .u64 p.2])[i * 2]? = some (.int .i64 p.1) ∧ (l.flatMap fun p => [Value.int .i64 p.1, Value.int .u64 p.2])[i * 2 + 1]? = some (.int .u64 p.2) := by
    intro l
    induction l with
    | nil => intro i p h; simp at h
    | cons a l ih =>
      intro i p h
      cases i with
      | zero => simp at h; subst h; simp
      | succ i =>
        rw [List.getElem?_cons_succ] at h
        obtain ⟨h1, h2⟩ := ih i p h
        rw [List.flatMap_cons]
        rw [show (i + 1) * 2 = i * 2 + 2 from by omega, show i * 2 + 2 + 1 = (i * 2 + 1) + 2 from by omega]
        simp only [List.cons_append, List.nil_append, List.getElem?_cons_succ]
        exact ⟨h1, h2⟩
  intro i p hi
  obtain ⟨k1, k2⟩ := key l i p hi
  refine ⟨ho p (List.mem_of_getElem? hi), q, 0, rfl, lt_of h, ?_, ?_⟩
  · rw [cell_of h, Nat.zero_add]; simpa using k1
  · rw [cell_of h, Nat.zero_add]; simpa using k2

theorem magic_wds : wds [67, 65, 78, 84, 76, 69, 48, 49] = [magic] := by decide

theorem f16 {v : Nat} (h : v < 65536) : FOk 16 v := ⟨by omega, by omega, h⟩

end Go.Proofs.YtgnagbbdnlmgeaaGreat.Su
end

/- super.Encode. -/
section
set_option linter.unusedVariables false
set_option linter.unusedSimpArgs false
set_option maxHeartbeats 2000000
set_option maxRecDepth 100000
namespace Go.Proofs.YtgnagbbdnlmgeaaGreat.Su
open Go Go.RowKit
open Go.Proofs.YtgnagbbdnlmgeaaGreat.Ob Go.Proofs.YtgnagbbdnlmgeaaGreat.Ba Go.Proofs.YtgnagbbdnlmgeaaGreat.Ko Go.Proofs.YtgnagbbdnlmgeaaGreat.Ge Go.Proofs.YtgnagbbdnlmgeaaGreat.Cr Go.Proofs.YtgnagbbdnlmgeaaGreat.Cc Go.Proofs.YtgnagbbdnlmgeaaGreat.Oc Go.Proofs.YtgnagbbdnlmgeaaGreat.Pk

theorem encode_no (n m s : Int) (h : geoOk n m s = false) (w : World) :
    Calls Tryz.prog 125 #[.agg #[.int .i64 n, .int .i64 m, .int .i64 s]] w fun e w' => e = .returned (.tuple #[.slice none 0 0, .int .i64 1]) ∧ Below w.heap.size w w' := by
  have hu := Tryz.underlying34
  have hm := may_ n m s
  rw [h] at hm
  have HM := Lib.hid hm
  clear h hm
  go_enter Tryz.func125, Tryz.ntmps125
  go_wp2_with (go_at_call 140; refine (HM.out _).mono ?_; rintro e w1 ⟨rfl, hb⟩; (have HB := Lib.hid hb); clear hb)
  go_ret2
  exact ⟨rfl, bl_then (bl_alloc (Below.refl _ _) _) HB.out⟩

theorem encode_yes (n m s : Nat) (h : geoOk n m s = true) (hn : n < 65536) (hm : m < 65536) (hs : s < 65536) (w : World) :
    Calls Tryz.prog 125 #[.agg #[.int .i64 n, .int .i64 m, .int .i64 s]] w fun e w' => ∃ v, e = .returned (.tuple #[v, .int .i64 0]) ∧ w'.ownsRow w.heap.size 94 1 v 8 (ivs .u64 (ints (enc n m s))) ∧ Below w.heap.size w w' := by
  have hu := Tryz.underlying34
  have hmay := may_ n m s
  rw [h] at hmay
  have HM := Lib.hid hmay
  have q1 : IntKind.u64.wrap (n : Int) = n := wu64 _ (by omega) (by omega)
  have q2 : IntKind.u64.wrap (m : Int) = m := wu64 _ (by omega) (by omega)
  have q3 : IntKind.u64.wrap (s : Int) = s := wu64 _ (by omega) (by omega)
  have HF := Lib.hid (And.intro (f16 hn) (And.intro (f16 hm) (f16 hs)))
  have hw1 : word1 n m s < 18446744073709551616 := by unfold word1; omega
  have hpv : pv [(16, n), (16, m), (16, s)] = word1 n m s := by simp [pv, word1]; omega
  have HPV := Lib.hid hpv
  have kc := fun (w : World) (C : Array Value) (n c : Nat) => Lib.run_convert_bytes_const (P := Tryz.prog) w 59 5 C n c Tryz.underlying59 Tryz.underlying5
  clear h hmay hpv
  go_enter Tryz.func125, Tryz.ntmps125
  go_wp2_with (go_at_call 140; refine (HM.out _).mono ?_; rintro e w1 ⟨rfl, hb⟩; (obtain ⟨hc, hf⟩ := bcell hb); (have HB := Lib.hid hb); clear hb hf)
  have hfs : FsAt (w1.alloc (.cells #[.int .i64 16, .int .u64 n, .int .i64 16, .int .u64 m, .int .i64 16, .int .u64 s] 215)) (some ⟨w1.heap.size, 0, none⟩) [(16, n), (16, m), (16, s)] := by
    refine fields_at (T := 215) (fr := (0, 0)) (alloc_new _ _) ?_
    intro p hp
    simp only [List.mem_cons, List.not_mem_nil, or_false] at hp
    rcases hp with rfl | rfl | rfl
    · exact HF.out.1
    · exact HF.out.2.1
    · exact HF.out.2.2
  have hpk := pack_ hfs 3 (by simp [wid]) (by simp)
  rw [HPV.out] at hpk
  have HPK := Lib.hid hpk
  clear hfs hpk hc
  generalize hzw : word1 n m s = z at *
  have HZW := Lib.hid hzw
  clear hzw
  go_wp2_with fail
  refine HPK.out.mono ?_
  rintro e w2 ⟨rfl, hb⟩
  have HB2 := Lib.hid hb
  have hz2 := hb.size
  simp only [World.size_alloc] at hz2
  clear hb
  have kc2 := kc (w2.alloc (.cells (Array.replicate 8 (.int .u64 0)) 94 (0, 0))) #[.int .u8 67, .int .u8 65, .int .u8 78, .int .u8 84, .int .u8 76, .int .u8 69, .int .u8 48, .int .u8 49] 8 8
  rw [World.size_alloc] at kc2
  clear kc
  go_wp2_with (at_make; refine Go.Proofs.YtgnagbbdnlmgeaaGreat.Wl.wpl_make rfl _ 22 94 rfl (.int .u64 0) 8 Tryz.underlying22 info_u64 rfl 8 .i64 _ rfl rfl (by decide) (by decide) ?_)
  clear kc2
  have hblk := alloc_new (w2.alloc (.cells (Array.replicate 8 (.int .u64 0)) 94 (0, 0))) (.cells #[.int .u8 67, .int .u8 65, .int .u8 78, .int .u8 84, .int .u8 76, .int .u8 69, .int .u8 48, .int .u8 49] 5 (8, 9))
  rw [World.size_alloc] at hblk
  have hrk : Rk .u8 ((w2.alloc (.cells (Array.replicate 8 (.int .u64 0)) 94 (0, 0))).alloc (.cells #[.int .u8 67, .int .u8 65, .int .u8 78, .int .u8 84, .int .u8 76, .int .u8 69, .int .u8 48, .int .u8 49] 5 (8, 9))) (some ⟨w2.heap.size + 1, 0, none⟩) (ints [67, 65, 78, 84, 76, 69, 48, 49]) := by
    refine blk_rk hblk fun i x hx => ?_
    match i with
    | 0 => simpa [ints] using hx
    | 1 => simpa [ints] using hx
    | 2 => simpa [ints] using hx
    | 3 => simpa [ints] using hx
    | 4 => simpa [ints] using hx
    | 5 => simpa [ints] using hx
    | 6 => simpa [ints] using hx
    | 7 => simpa [ints] using hx
    | i + 8 => simp [ints] at hx
  refine (words_ hrk (by decide) 8 (by decide)).mono ?_
  rintro e w3 ⟨v3, rfl, hown, hb3⟩
  rw [magic_wds, show [magic].length = 1 from rfl] at hown
  obtain ⟨y, hy⟩ : ∃ y, y = magic := ⟨_, rfl⟩
  rw [← hy] at hown
  have hy9 : y < 18446744073709551616 := by rw [hy]; decide
  have HY := Lib.hid hy
  clear hy
  obtain ⟨A3, c3, rfl⟩ := own_slice hown
  obtain ⟨g3, rfl, hcell3, _⟩ := own_at (i := 0) (x := (y : Nat)) hown rfl
  have hz4 := hb3.size
  simp only [World.size_alloc] at hz4
  have hL3 : w3.heap[w2.heap.size]? = some (.cells (Array.replicate 8 (.int .u64 0)) 94 (0, 0)) := by
    rw [hb3.block _ (by simp; omega)]
    exact alloc_old (alloc_new _ _) _
  have l0 := cell_of hL3 0
  have l1 := cell_of hL3 1
  have f0 := free_of hL3 0
  have f1 := free_of hL3 1
  simp only [Array.getElem?_replicate] at l0 l1
  have hL4 := set_same (set_same hL3 0 (.int .u64 y)) 1 (.int .u64 z)
  have hu4 : Upd [w2.heap.size] w3 ((w3.setCell ⟨w2.heap.size, 0, none⟩ (.int .u64 y)).setCell ⟨w2.heap.size, 1, none⟩ (.int .u64 z)) := ((Upd.refl _ _).setCell (by simp) _).setCell (by simp) _
  have hr4 := fill_line hL4
  have HB3 := Lib.hid hb3
  have HL4 := Lib.hid hL4
  have HU4 := Lib.hid hu4
  have hr5 := words32_ hr4 (head7_lt (a := y) (b := z) hy9 hw1) 8 (by simp [head7])
  rw [show (head7 y z).length = 7 from rfl] at hr5
  have HR4 := Lib.hid hr5
  clear hown hb3 hL3 hL4 hu4 hr4 hr5 hz4 hblk hrk
  go_wp2_with fail
  generalize (w3.setCell ⟨w2.heap.size, 0, none⟩ (.int .u64 y)).setCell ⟨w2.heap.size, 1, none⟩ (.int .u64 z) = w4 at *
  refine HR4.out.mono ?_
  rw [sum7_int]
  rintro e w5 ⟨rfl, hb5⟩
  have hL5 := (hb5.block _ (lt_of HL4.out)).trans HL4.out
  have l7 : w5.cell? ⟨w2.heap.size, 7, none⟩ = some (.int .u64 0) := cell_of hL5 7
  have f7 := free_of hL5 7
  have hs7 := sum7_lt y z
  have HL5 := Lib.hid hL5
  have HB5 := Lib.hid hb5
  clear hL5 hb5 l0 l1 f0 f1
  go_wp2_with fail
  go_ret2
  have hfin := set_same HL5.out 7 (.int .u64 (sum7 y z : Nat))
  refine ⟨_, rfl, ?_, ?_⟩
  · have he : enc n m s = line y z := by unfold enc; rw [HZW.out, HY.out]
    rw [he]
    exact own_new (q := w2.heap.size) hfin (by have h1 := HB.out.size; simp at h1; omega) rfl (by unfold maxLen; omega)
  · have u1 : Below w.heap.size w w2 := bl_then (bl_alloc (bl_then (bl_alloc (Below.refl _ _) _) HB.out) _) HB2.out
    have u2 : Upd [] w w3 := (((Upd.of_below u1).alloc _).alloc _).trans (Upd.of_below (F := []) HB3.out) (by simp)
    have u3 := u2.trans HU4.out (by intro k hk; simp at hk; subst hk; right; exact u1.size)
    have u4 := u3.trans (Upd.of_below (F := []) HB5.out) (by simp)
    exact (u4.setCell (a := ⟨w2.heap.size, 7, none⟩) (.inr u1.size) _).below (by simp)

end Go.Proofs.YtgnagbbdnlmgeaaGreat.Su
end

/- package inode: what a file is, in a line. -/
section
set_option linter.unusedVariables false
set_option linter.unusedSimpArgs false
set_option maxHeartbeats 2000000
set_option maxRecDepth 100000
namespace Go.Proofs.YtgnagbbdnlmgeaaGreat.In
open Go Go.RowKit
open Go.Proofs.YtgnagbbdnlmgeaaGreat.Ob Go.Proofs.YtgnagbbdnlmgeaaGreat.Ba Go.Proofs.YtgnagbbdnlmgeaaGreat.Oc Go.Proofs.YtgnagbbdnlmgeaaGreat.Pk Go.Proofs.YtgnagbbdnlmgeaaGreat.Su Go.Proofs.YtgnagbbdnlmgeaaGreat.Cc Go.Proofs.YtgnagbbdnlmgeaaGreat.Cr

/-- a file or a directory may be -/
def iOk (k h z : Int) : Prop := (k = 1 ∨ k = 2) ∧ 0 ≤ z ∧ z ≤ 268435456 ∧ -1 ≤ h ∧ h < 65534 ∧ (h < 0 ↔ z = 0) ∧ (k = 1 ∨ z % 64 = 0)

theorem may_yes (k h z : Int) (hk : iOk k h z) (w : World) : Calls Tryz.prog 156 #[.agg #[.int .i64 k, .int .i64 h, .int .i64 z]] w fun e w' => e = .returned (.bool true) ∧ Below w.heap.size w w' := by
  have hu := Tryz.underlying42
  obtain ⟨h1, h2, h3, h4, h5, h6, h7⟩ := hk
  have he : ((decide (h < 0)) == (z == 0)) = true := by
    by_cases hn : h < 0
    · have := h6.1 hn; simp [hn, this]
    · have h8 : ¬ z = 0 := fun e => hn (h6.2 e)
      simp [hn, h8]
  rcases h1 with rfl | rfl
  · clear h7 h6
    go_enter Tryz.func156, Tryz.ntmps156
    go_wp2
    go_ret
    exact ⟨rfl, bl_alloc (Below.refl _ _) _⟩
  · have h8 : z % 64 = 0 := by omega
    clear h7 h6
    go_enter Tryz.func156, Tryz.ntmps156
    go_wp2
    go_ret
    exact ⟨rfl, bl_alloc (Below.refl _ _) _⟩

theorem encode_file (k p z : Nat) (h : Int) (hp : (p : Int) = h + 1) (hk : iOk k h z) (w : World) :
    Calls Tryz.prog 108 #[.agg #[.int .i64 k, .int .i64 h, .int .i64 z]] w fun e w' => ∃ v, e = .returned (.tuple #[v, .int .i64 0]) ∧ w'.ownsRow w.heap.size 94 1 v 8 (ivs .u64 (ints (line (k + 65536 * p) z))) ∧ Below w.heap.size w w' := by
  have hu := Tryz.underlying42
  have HM := Lib.hid (may_yes k h z hk)
  obtain ⟨h1, h2, h3, h4, h5, h6, h7⟩ := hk
  have hk9 : k < 65536 := by omega
  have hp9 : p < 65536 := by omega
  have hz9 : z < 18446744073709551616 := by omega
  have e0 : ((k : Int) == 0) = false := by rw [beq_eq_false_iff_ne]; omega
  have HF := Lib.hid (And.intro (f16 hk9) (f16 hp9))
  obtain ⟨x, hx⟩ : ∃ x, x = k + 65536 * p := ⟨_, rfl⟩
  have hpv : pv [(16, k), (16, p)] = x := by simp [pv, hx]
  have hx9 : x < 18446744073709551616 := by omega
  have HPV := Lib.hid hpv
  have HP := Lib.hid hp
  rw [← hx]
  have hzz : (z : Int) ≤ 268435456 := h3
  clear h1 h2 h6 h7 hpv hx
  go_enter Tryz.func108, Tryz.ntmps108
  go_wp2_with (first | (at_make; refine Go.Proofs.YtgnagbbdnlmgeaaGreat.Wl.wpl_make rfl _ 22 94 rfl (.int .u64 0) 8 Tryz.underlying22 info_u64 rfl 8 .i64 _ rfl rfl (by decide) (by decide) ?_) | (go_at_call 156; refine (HM.out _).mono ?_; rintro e w1 ⟨rfl, hb⟩; (have hq := blk_bl (alloc_new w (.cells #[.int .i64 k, .int .i64 h, .int .i64 z] 42)) hb); (have HQ := Lib.hid hq); (have k0 := cell_of hq 0); (have k1 := cell_of hq 1); (have k2 := cell_of hq 2); (have hlt := lt_of hq); (have HB := Lib.hid (bl_then (bl_alloc (Below.refl _ _) _) hb)); clear hb hq))
  rw [← HP.out]
  have hfs : FsAt ((w1.alloc (.cells (Array.replicate 8 (.int .u64 0)) 94)).alloc (.cells #[.int .i64 16, .int .u64 k, .int .i64 16, .int .u64 p] 215)) (some ⟨w1.heap.size + 1, 0, none⟩) [(16, k), (16, p)] := by
    have := alloc_new (w1.alloc (.cells (Array.replicate 8 (.int .u64 0)) 94)) (.cells #[.int .i64 16, .int .u64 k, .int .i64 16, .int .u64 p] 215)
    rw [World.size_alloc] at this
    refine fields_at (T := 215) (fr := (0, 0)) this ?_
    intro u hu
    simp only [List.mem_cons, List.not_mem_nil, or_false] at hu
    rcases hu with rfl | rfl
    · exact HF.out.1
    · exact HF.out.2
  have hpk := pack_ hfs 2 (by simp [wid]) (by simp)
  rw [HPV.out] at hpk
  refine (show Calls _ _ #[.slice (some ⟨w1.heap.size + 1, 0, none⟩) 2 2] _ _ from hpk).mono ?_
  rintro e w3 ⟨rfl, hb3⟩
  have hL3 : w3.heap[w1.heap.size]? = some (.cells (Array.replicate 8 (.int .u64 0)) 94 (0, 0)) := blk_bl (alloc_old (alloc_new w1 _) _) hb3
  have hz3 := hb3.size
  simp only [World.size_alloc] at hz3
  have HB3 := Lib.hid (bl_then (bl_alloc (bl_alloc (Below.refl _ _) _) _) hb3)
  have hq3 := blk_bl HQ.out HB3.out
  clear k0 k1 k2
  have k0 := cell_of hq3 0
  have k1 := cell_of hq3 1
  have k2 := cell_of hq3 2
  have l0 := cell_of hL3 0
  have l1 := cell_of hL3 1
  have f0 := free_of hL3 0
  have f1 := free_of hL3 1
  simp only [Array.getElem?_replicate] at l0 l1
  have hL4 := set_same (set_same hL3 0 (.int .u64 x)) 1 (.int .u64 z)
  have hr4 := fill_line hL4
  have hr5 := words32_ hr4 (head7_lt (a := x) (b := z) hx9 hz9) 8 (by simp [head7])
  rw [show (head7 x z).length = 7 from rfl] at hr5
  have HR4 := Lib.hid hr5
  have HL4 := Lib.hid hL4
  have HB := Lib.hid HB.out
  clear hfs hpk hb3 hL3 hL4 hr4 hr5 hq3
  go_wp2_with fail
  refine HR4.out.mono ?_
  rw [sum7_int]
  rintro e w5 ⟨rfl, hb5⟩
  have hL5 := (hb5.block _ (lt_of HL4.out)).trans HL4.out
  have l7 : w5.cell? ⟨w1.heap.size, 7, none⟩ = some (.int .u64 0) := cell_of hL5 7
  have f7 := free_of hL5 7
  have hs7 := sum7_lt x z
  have HL5 := Lib.hid hL5
  have HB5 := Lib.hid hb5
  clear hL5 hb5 l0 l1 f0 f1
  go_wp2_with fail
  go_ret2
  have hfin := set_same HL5.out 7 (.int .u64 (sum7 x z : Nat))
  have h1 := HB.out.size
  refine ⟨_, rfl, own_new (q := w1.heap.size) hfin h1 rfl (by unfold maxLen; omega), ?_⟩
  have u1 : Below w.heap.size w w3 := bl_then HB.out HB3.out
  have u2 := bl_set (o := 1) (bl_set (o := 0) u1 h1 (.int .u64 x)) h1 (.int .u64 z)
  exact bl_set (o := 7) (bl_then u2 HB5.out) h1 _

end Go.Proofs.YtgnagbbdnlmgeaaGreat.In
end
