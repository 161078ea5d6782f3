/- SuperReads: for all arguments the law returns true, and its arguments read as they did. No conditions. -/
import Derived.Test.YtlokklfkiechdaaRows
import Derived.Test.YtlokklfkiechdaaRv
import Derived.WalkKit
import Derived.ProofKit
import Derived.OpenShut
import Derived.ShutString
import Derived.ChangeOld
import Derived.Below
import Derived.SizedLaws
namespace Go.Proofs.Ytlokklfkiechdaa.superReads
open Go.ChangeShapes Go.WideShapes Go.ChangeAt Go.RowKit
open Go.ChangeMaps (open_string shut_string)
open Go.Proofs.YtlokklfkiechdaaW Go.Proofs.Ytlokklfkiechdaa.PF Go.Proofs.Ytlokklfkiechdaa.Rd Go.Proofs.Ytlokklfkiechdaa.Fb Go.Proofs.Ytlokklfkiechdaa.Dv Go.Proofs.Ytlokklfkiechdaa.Ob
open Go.Proofs.YtlokklfkiechdaaW.PrintWords Go.Proofs.YtlokklfkiechdaaW.PrintLast Go.Proofs.YtlokklfkiechdaaW.PrintMore
open Go.Proofs.Ytlokklfkiechdaa.Ko (pows up8 tot pows_in)
set_option linter.unusedVariables false
set_option maxRecDepth 100000

theorem read_dv (L : List Nat) (n : Nat) (q1 q2 q3 q4 : Int) (h : ∃ r1 r2 r3 r4 wd, super_Decode.f 1000 (loads (dv L n 8) (min 8 n)) = some (r1, r2, r3, r4) ∧ geometry_Geometry_Words.f r1 r2 r3 = some wd ∧
      ((r4 = 0 ∧ wd = n ∧ Hid (r1 = q1 ∧ r2 = q2 ∧ r3 = q3 ∧ 0 = q4)) ∨ (r4 = 0 ∧ wd ≠ n ∧ Hid (0 = q1 ∧ 0 = q2 ∧ 0 = q3 ∧ 2 = q4)) ∨ (r4 = 2 ∧ Hid (wd = wd) ∧ Hid (0 = q1 ∧ 0 = q2 ∧ 0 = q3 ∧ 2 = q4)))) :
    ∀ W b g, DevIs W b (dv L n 8) g → Calls Try.prog 23 #[.pointer (some ⟨b, 0, none⟩)] W fun e w' => e = .returned (.tuple #[.agg #[.int .i64 q1, .int .i64 q2, .int .i64 q3], .int .i64 q4]) ∧ Below W.heap.size W w' := by
  intro W b g hd
  obtain ⟨r1, r2, r3, r4, wd, h1, h2, h3⟩ := h
  by_cases h8 : 8 ≤ n
  · exact read_at hd 1000 r1 r2 r3 r4 wd q1 q2 q3 q4 (min 8 n) n 8 (by rw [dv_len]) (.inl ⟨by omega, rfl⟩) (by omega) h1 h2 h3
  · exact read_at hd 1000 r1 r2 r3 r4 wd q1 q2 q3 q4 (min 8 n) n n (by rw [dv_len]) (.inr ⟨by omega, rfl⟩) (by omega) h1 h2 h3

theorem of_small (N M S : Nat) (hg : geoOk N M S = true) : cantleref04_Of.f N M S = some (16, 16 + 8 * (M : Int), 16 + 8 * (M : Int) + up8 N, 16 + 8 * (M : Int) + up8 N + up8 (((N : Int) + 63) / 64), tot N M S, true) := by
  have h : Ko.geoOk N M S = true := by rw [ko_geo]; exact hg
  unfold cantleref04_Of.f Ko.parts
  rw [h]
  rfl

/-- what a device answers behind an unspoilt superblock -/
theorem ans_lo (N M S : Nat) (hn : 1 ≤ N ∧ N ≤ 30) (hm : 1 ≤ M ∧ M ≤ 30) (hs : S = 64 ∨ S = 128) (n : Nat) (mr q1 q2 q3 q4 : Int) (h : (n : Int) = tot N M S + mr)
    (hq : (mr = 0 ∧ Hid ((N : Int) = q1 ∧ (M : Int) = q2 ∧ (S : Int) = q3 ∧ 0 = q4)) ∨ (mr ≠ 0 ∧ Hid (0 = q1 ∧ 0 = q2 ∧ 0 = q3 ∧ 2 = q4))) :
    ∀ W b g, DevIs W b (dv (enc N M S) n 8) g → Calls Try.prog 23 #[.pointer (some ⟨b, 0, none⟩)] W fun e w' => e = .returned (.tuple #[.agg #[.int .i64 q1, .int .i64 q2, .int .i64 q3], .int .i64 q4]) ∧ Below W.heap.size W w' := by
  apply read_dv
  obtain ⟨hg, h16, _⟩ := small_geo N M S hn hm hs
  obtain ⟨r1, r2, r3, r4, wd, h1, h2, h3⟩ := reads_good N M S hn hm hs n (min 8 n) rfl
  refine ⟨r1, r2, r3, r4, wd, h1, h2, ?_⟩
  rcases h3 with ⟨h4, h5, h6, h7, h8⟩ | ⟨h4, h5⟩
  · rcases hq with ⟨h9, hq⟩ | ⟨h9, hq⟩
    · refine .inl ⟨h4, by omega, ?_⟩
      have := hq.out
      show r1 = q1 ∧ r2 = q2 ∧ r3 = q3 ∧ 0 = q4
      rw [h6, h7, h8]
      exact this
    · exact .inr (.inl ⟨h4, by omega, hq⟩)
  · rcases hq with ⟨h9, hq⟩ | ⟨h9, hq⟩
    · omega
    · exact .inr (.inr ⟨h4, rfl, hq⟩)

theorem ans_hit (N M S : Nat) (hn : 1 ≤ N ∧ N ≤ 30) (hm : 1 ≤ M ∧ M ≤ 30) (hs : S = 64 ∨ S = 128) (n i b : Nat) (hi : i < 8) (hb : b < 64) :
    ∀ W c g, DevIs W c (dv ((enc N M S).set i ((enc N M S).getD i 0 ^^^ 2 ^ b)) n 8) g → Calls Try.prog 23 #[.pointer (some ⟨c, 0, none⟩)] W fun e w' => e = .returned (.tuple #[.agg #[.int .i64 0, .int .i64 0, .int .i64 0], .int .i64 2]) ∧ Below W.heap.size W w' := by
  apply read_dv
  exact ⟨0, 0, 0, 2, 0, reads_bad N M S hn hm hs n (min 8 n) i b hi hb rfl, words_none, .inr (.inr ⟨rfl, rfl, ⟨rfl, rfl, rfl, rfl⟩⟩)⟩

theorem walk (a0 a1 a2 more sp : Int) (w : World) (h0 : (Lit.int .u8 a0).wf = true) (h1 : (Lit.int .u8 a1).wf = true) (h2 : (Lit.int .u8 a2).wf = true) (h3 : (Lit.int .i64 more).wf = true) (h4 : (Lit.int .u16 sp).wf = true) :
    Calls Try.prog 7 #[.int .u8 a0, .int .u8 a1, .int .u8 a2, .int .i64 more, .int .u16 sp] w fun e w' => e = .returned (.bool true) ∧ Below w.heap.size w w' := by
  simp [Lit.wf, IntKind.min, IntKind.max, IntKind.bits, IntKind.signed] at h0 h1 h2 h3 h4
  have e1 := Int.tmod_eq_emod_of_nonneg (b := 30) h0.1
  have e4 := Int.tmod_eq_emod_of_nonneg (b := 30) h1.1
  have e7 := Int.tmod_eq_emod_of_nonneg (b := 2) h2.1
  obtain ⟨N, hN⟩ : ∃ N : Nat, 1 + a0.tmod 30 = N := ⟨(1 + a0.tmod 30).toNat, by omega⟩
  obtain ⟨M, hM⟩ : ∃ M : Nat, 1 + a1.tmod 30 = M := ⟨(1 + a1.tmod 30).toNat, by omega⟩
  obtain ⟨S, hS, hS2, hs⟩ : ∃ S : Nat, IntKind.i64.wrap (64 * 2 ^ min (a2.tmod 2).toNat 64) = S ∧ IntKind.i64.wrap (64 * 2 ^ (a2.tmod 2).toNat) = S ∧ (S = 64 ∨ S = 128) := by
    rcases (by omega : a2.tmod 2 = 0 ∨ a2.tmod 2 = 1) with e | e <;> rw [e]
    · exact ⟨64, by decide +kernel, by decide +kernel, .inl rfl⟩
    · exact ⟨128, by decide +kernel, by decide +kernel, .inr rfl⟩
  have bN : 1 ≤ N ∧ N ≤ 30 := by omega
  have bM : 1 ≤ M ∧ M ≤ 30 := by omega
  obtain ⟨hg, hT1, hT2⟩ := small_geo N M S bN bM hs
  have hof := of_small N M S hg
  have henc := encode_f N M S 1000 (by decide)
  rw [hg, if_pos rfl, Int.toNat_natCast, Int.toNat_natCast, Int.toNat_natCast] at henc
  obtain ⟨mr, hmr⟩ : ∃ mr, mr = min (max more (-(tot N M S))) 20 := ⟨_, rfl⟩
  obtain ⟨n, hn⟩ : ∃ n : Nat, (n : Int) = tot N M S + mr := ⟨(tot N M S + mr).toNat, by omega⟩
  have x2 : wrap64 (a0.tmod 30) = a0.tmod 30 := w64 _ (by omega) (by omega)
  have x3 : wrap64 (1 + a0.tmod 30) = N := by rw [w64 _ (by omega) (by omega)]; exact hN
  have x5 : wrap64 (a1.tmod 30) = a1.tmod 30 := w64 _ (by omega) (by omega)
  have x6 : wrap64 (1 + a1.tmod 30) = M := by rw [w64 _ (by omega) (by omega)]; exact hM
  by_cases hsp : sp = 0 ∨ 512 < sp
  · by_cases hz : mr = 0
    · refine law_lo a0 a1 a2 more sp w _ _ _ _ mr N M S rfl x2 x3 rfl x5 x6 rfl (by omega) (by omega) hS hS2 _ _ _ _ hof henc ⟨hT1, hT2⟩ N M S 0 _ n hn ?_ (ans_lo N M S bN bM hs n mr N M S 0 hn (.inl ⟨hz, ⟨rfl, rfl, rfl, rfl⟩⟩)) rfl hsp
      exact .inr (.inr (.inl ⟨by omega, hz, ⟨rfl, rfl, rfl, rfl⟩⟩))
    · refine law_lo a0 a1 a2 more sp w _ _ _ _ mr N M S rfl x2 x3 rfl x5 x6 rfl (by omega) (by omega) hS hS2 _ _ _ _ hof henc ⟨hT1, hT2⟩ 0 0 0 2 _ n hn ?_ (ans_lo N M S bN bM hs n mr 0 0 0 2 hn (.inr ⟨hz, ⟨rfl, rfl, rfl, rfl⟩⟩)) rfl hsp
      have z : Hid ((0 : Int) = 0 ∧ (0 : Int) = 0 ∧ (0 : Int) = 0 ∧ (2 : Int) = 2) := ⟨rfl, rfl, rfl, rfl⟩
      by_cases c1 : more < -(tot N M S)
      · exact .inl ⟨c1, by show mr = -(tot N M S); omega, z⟩
      by_cases c2 : more < 0
      · exact .inr (.inl ⟨by omega, c2, by show mr = more; omega, z⟩)
      by_cases c3 : more ≤ 20
      · exact .inr (.inr (.inr (.inl ⟨by omega, c3, by show mr = more; omega, z⟩)))
      · exact .inr (.inr (.inr (.inr ⟨by omega, by show mr = 20; omega, z⟩)))
  · refine law_hit a0 a1 a2 more sp w _ _ _ _ mr N M S rfl x2 x3 rfl x5 x6 rfl (by omega) (by omega) hS hS2 _ _ _ _ hof henc ⟨hT1, hT2⟩ 0 0 0 2 _ n hn ?_ (ans_hit N M S bN bM hs n ((sp - 1) / 64).toNat ((sp - 1) % 64).toNat (by omega) (by omega)) ((sp - 1) / 64).toNat ((sp - 1) % 64).toNat (by show sp = _; omega) (by omega) (by omega) rfl (enc_lt N M S (by omega) (by omega) (by omega))
    have z : Hid ((0 : Int) = 0 ∧ (0 : Int) = 0 ∧ (0 : Int) = 0 ∧ (2 : Int) = 2) := ⟨rfl, rfl, rfl, rfl⟩
    by_cases c1 : more < -(tot N M S)
    · exact .inl ⟨c1, by show mr = -(tot N M S); omega, z⟩
    by_cases c2 : more < 0
    · exact .inr (.inl ⟨by omega, c2, by show mr = more; omega, z⟩)
    by_cases c4 : more = 0
    · exact .inr (.inr (.inl ⟨c4.symm, by show mr = 0; omega, z⟩))
    by_cases c3 : more ≤ 20
    · exact .inr (.inr (.inr (.inl ⟨by omega, c3, by show mr = more; omega, z⟩)))
    · exact .inr (.inr (.inr (.inr ⟨by omega, by show mr = 20; omega, z⟩)))

theorem own : ownKnob Try.prog.godebug = none := by kernel_rfl
theorem lifted (os : Os) (started : os.Started) (H : Type) (enc : TypeId × Value → H) :
    ReturnsInHanded {} Try.checked os 7 .any (Rows.superReadsSpec.pre6 enc Try.prog Try.f7 Rows.superReadsRow.domain false) (Rows.superReadsSpec.post enc Try.prog Try.f7 false true false false) := by
  refine returnsInHanded_of_change (C := Try.checked) own started (by kernel_rfl) Try.func7
    (ChangeSpec.witness6 (enc := enc) (C := Try.checked) false ⟨#[], #[.int .u8 0, .int .u8 0, .int .u8 0, .int .i64 0, .int .u16 0], []⟩ 8 (by kernel_rfl) (by kernel_rfl) (by kernel_rfl) (by kernel_rfl)) ?_
  intro W base args ds gs before hval0 hW hcnd _
  have hval : ∀ (j : Nat) t v, Try.f7.params[j]? = some t → args[j]? = some v → Value.okWide Try.prog W .any base t v := hval0
  have hW' := hW
  obtain ⟨p, q, hA0, hV, rfl, hfz, hnd⟩ := hW
  have hA : DataW.TrodAll enc Try.prog W 0 (fun _ => true) true Try.f7.params.toList args.toList ds p := hA0
  rw [Try.params7] at hA hval
  obtain ⟨v0, vs0, d0, ds0, p0, q0, hargs, rfl, rfl, h0, r0⟩ := trodAll_cons hA
  obtain ⟨v1, vs1, d1, ds1, p1, q1, rfl, rfl, rfl, h1, r1⟩ := trodAll_cons r0
  obtain ⟨v2, vs2, d2, ds2, p2, q2, rfl, rfl, rfl, h2, r2⟩ := trodAll_cons r1
  obtain ⟨v3, vs3, d3, ds3, p3, q3, rfl, rfl, rfl, h3, r3⟩ := trodAll_cons r2
  obtain ⟨v4, vs4, d4, ds4, p4, q4, rfl, rfl, rfl, h4, r4⟩ := trodAll_cons r3
  obtain ⟨rfl, rfl, rfl⟩ := trodAll_nil r4
  obtain rfl : args = #[v0, v1, v2, v3, v4] := by cases args; simp_all
  obtain ⟨rfl, rfl⟩ := trodVars_none hV
  obtain ⟨a0, rfl, rfl, rfl, w0⟩ := open_int Try.underlying5 (hval 0 5 v0 rfl rfl) h0
  obtain ⟨a1, rfl, rfl, rfl, w1⟩ := open_int Try.underlying5 (hval 1 5 v1 rfl rfl) h1
  obtain ⟨a2, rfl, rfl, rfl, w2⟩ := open_int Try.underlying5 (hval 2 5 v2 rfl rfl) h2
  obtain ⟨a3, rfl, rfl, rfl, w3⟩ := open_int Try.underlying3 (hval 3 3 v3 rfl rfl) h3
  obtain ⟨a4, rfl, rfl, rfl, w4⟩ := open_int Try.underlying45 (hval 4 45 v4 rfl rfl) h4
  clear hA0 hval0
  refine (walk a0 a1 a2 a3 a4 W w0 w1 w2 w3 w4).mono fun e W' ⟨he, bel⟩ => ?_
  subst he
  exact ⟨_, rfl, _, _, _, [], _, [], hW', trodAll_mk1 (shut_bool Try.underlying4 _), (trodAll_cons_mk (shut_int Try.underlying5 w0) (trodAll_cons_mk (shut_int Try.underlying5 w1) (trodAll_cons_mk (shut_int Try.underlying5 w2) (trodAll_cons_mk (shut_int Try.underlying3 w3) (trodAll_cons_mk (shut_int Try.underlying45 w4) trodAll_mk0))))), rfl, bel.frame _, fun h => by cases h⟩

theorem over : Rows.superReadsRow.holds Try.pinned (OpenSpec.ofChange Rows.superReadsSpec) :=
  OpenClaim.holds_of_wide 7 Try.f7 rfl rfl rfl rfl rfl rfl rfl ⟨rfl, rfl, rfl, rfl, rfl⟩ rfl rfl rfl rfl rfl (by kernel_rfl) Try.func7 (by kernel_rfl)
    (of_decide_eq_true (by kernel_rfl)) (by unfold Func.isWrapper; first | (rw [if_pos (by decide +kernel)]; kernel_rfl) | (rw [if_neg (by decide +kernel)]; exact ⟨rfl, rfl⟩))
    (fun os started H enc _ => lifted os started H enc)

/-- SuperReads holds. -/
theorem proved : Rows.SuperReadsSaid := over
#print axioms proved

end Go.Proofs.Ytlokklfkiechdaa.superReads
