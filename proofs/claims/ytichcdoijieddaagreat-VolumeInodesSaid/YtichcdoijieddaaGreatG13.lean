/- Parts of the proof, one behind the other: Iq, Ir, Vi, Ao. -/
import Derived.Test.YtichcdoijieddaaGreatG12
import Derived.Test.YtichcdoijieddaaGreatG08
import Derived.Test.YtichcdoijieddaaGreatG01
import Derived.Test.YtichcdoijieddaaGreatRows
import Derived.ProofKit
import Derived.OpenShut
import Derived.ShutString
import Derived.ChangeOld
import Derived.Below
import Derived.Lib.SmallJoins
import Derived.Deep.Slices
import Derived.Deep.Fields
import Derived.ChangeSame

/- The document's inode: may, line (cantleref06). -/
section
set_option linter.unusedVariables false
set_option linter.unusedSimpArgs false
set_option maxHeartbeats 2000000
set_option maxRecDepth 100000
namespace Go.Proofs.YtichcdoijieddaaGreat.Iq
open Go Go.RowKit
open Go.Proofs.YtichcdoijieddaaGreat.Ob Go.Proofs.YtichcdoijieddaaGreat.Ba Go.Proofs.YtichcdoijieddaaGreat.Oc Go.Proofs.YtichcdoijieddaaGreat.Pk Go.Proofs.YtichcdoijieddaaGreat.Su Go.Proofs.YtichcdoijieddaaGreat.Cc Go.Proofs.YtichcdoijieddaaGreat.Cr Go.Proofs.YtichcdoijieddaaGreat.Ge Go.Proofs.YtichcdoijieddaaGreat.In

theorem rmay_yes (k h z : Int) (hb : iAll k h z) (w : World) : Calls Tryz.prog 53 #[.agg #[.int .i64 k, .int .i64 h, .int .i64 z]] w fun e w' => e = .returned (.bool true) ∧ Below w.heap.size w w' := by
  have hu := Tryz.underlying39
  rcases hb with ⟨rfl, rfl, rfl⟩ | ⟨h1, h2, h3, h4, h5, h6, h7⟩
  · go_enter Tryz.func53, Tryz.ntmps53
    go_wp2
    go_ret
    exact ⟨rfl, bl_alloc (Below.refl _ _) _⟩
  · have hc : (h = -1 ∧ z = 0) ∨ (0 ≤ h ∧ 0 < z) := by
      by_cases c : h < 0
      · exact .inl ⟨by omega, h6.1 c⟩
      · exact .inr ⟨by omega, by have := fun e => c (h6.2 e); omega⟩
    clear h6
    rcases h1 with rfl | rfl <;> rcases hc with ⟨rfl, rfl⟩ | ⟨c1, c2⟩
    all_goals
      (try have e1 : (h == -1) = false := beq_eq_false_iff_ne.2 (by omega))
      (try have e2 : (z % 64 != 0) = false := by rw [bne_eq_false_iff_eq]; omega)
      clear h7
      go_enter Tryz.func53, Tryz.ntmps53
      go_wp2
      go_ret
      exact ⟨rfl, bl_alloc (Below.refl _ _) _⟩

theorem rmay_no (k h z : Int) (hb : ¬ iAll k h z) (w : World) : Calls Tryz.prog 53 #[.agg #[.int .i64 k, .int .i64 h, .int .i64 z]] w fun e w' => e = .returned (.bool false) ∧ Below w.heap.size w w' := by
  have hu := Tryz.underlying39
  have hc : (k = 0 ∧ h ≠ -1) ∨ (k = 0 ∧ h = -1 ∧ z ≠ 0) ∨ (k < 0) ∨ (2 < k) ∨ (1 ≤ k ∧ k ≤ 2 ∧ z < 0) ∨ (1 ≤ k ∧ k ≤ 2 ∧ 268435456 < z) ∨ (1 ≤ k ∧ k ≤ 2 ∧ 0 ≤ z ∧ z ≤ 268435456 ∧ h < -1) ∨ (1 ≤ k ∧ k ≤ 2 ∧ 0 ≤ z ∧ z ≤ 268435456 ∧ 65533 < h) ∨
      (k = 2 ∧ 0 ≤ z ∧ z ≤ 268435456 ∧ -1 ≤ h ∧ h ≤ 65533 ∧ z % 64 ≠ 0) ∨ (k = 1 ∧ 0 < z ∧ z ≤ 268435456 ∧ h = -1) ∨ (k = 2 ∧ z % 64 = 0 ∧ 0 < z ∧ z ≤ 268435456 ∧ h = -1) ∨ (k = 1 ∧ z = 0 ∧ 0 ≤ h ∧ h ≤ 65533) ∨ (k = 2 ∧ z = 0 ∧ 0 ≤ h ∧ h ≤ 65533) := by
    unfold iAll iOk at hb
    by_cases c0 : k = 0
    · by_cases c1 : h = -1
      · exact .inr (.inl ⟨c0, c1, fun c2 => hb (.inl ⟨c0, c1, c2⟩)⟩)
      · exact .inl ⟨c0, c1⟩
    by_cases c1 : k < 0
    · exact .inr (.inr (.inl c1))
    by_cases c2 : 2 < k
    · exact .inr (.inr (.inr (.inl c2)))
    by_cases c3 : z < 0
    · exact .inr (.inr (.inr (.inr (.inl ⟨by omega, by omega, c3⟩))))
    by_cases c4 : 268435456 < z
    · exact .inr (.inr (.inr (.inr (.inr (.inl ⟨by omega, by omega, c4⟩)))))
    by_cases c5 : h < -1
    · exact .inr (.inr (.inr (.inr (.inr (.inr (.inl ⟨by omega, by omega, by omega, by omega, c5⟩))))))
    by_cases c6 : 65533 < h
    · exact .inr (.inr (.inr (.inr (.inr (.inr (.inr (.inl ⟨by omega, by omega, by omega, by omega, c6⟩)))))))
    by_cases c7 : k = 2 ∧ z % 64 ≠ 0
    · exact .inr (.inr (.inr (.inr (.inr (.inr (.inr (.inr (.inl ⟨c7.1, by omega, by omega, by omega, by omega, c7.2⟩))))))))
    have c7' : k = 1 ∨ z % 64 = 0 := by omega
    by_cases c8 : h = -1
    · have c9 : z ≠ 0 := fun c9 => hb (.inr ⟨by omega, by omega, by omega, by omega, by omega, by omega, c7'⟩)
      by_cases c10 : k = 1
      · exact .inr (.inr (.inr (.inr (.inr (.inr (.inr (.inr (.inr (.inl ⟨c10, by omega, by omega, c8⟩)))))))))
      · exact .inr (.inr (.inr (.inr (.inr (.inr (.inr (.inr (.inr (.inr (.inl ⟨by omega, by omega, by omega, by omega, c8⟩))))))))))
    · have c9 : z = 0 := by
        by_cases c9 : z = 0
        · exact c9
        · exact absurd (.inr ⟨by omega, by omega, by omega, by omega, by omega, by omega, c7'⟩) hb
      by_cases c10 : k = 1
      · exact .inr (.inr (.inr (.inr (.inr (.inr (.inr (.inr (.inr (.inr (.inr (.inl ⟨c10, c9, by omega, by omega⟩)))))))))))
      · exact .inr (.inr (.inr (.inr (.inr (.inr (.inr (.inr (.inr (.inr (.inr (.inr ⟨by omega, c9, by omega, by omega⟩)))))))))))
  clear hb
  rcases hc with ⟨rfl, c⟩ | ⟨rfl, rfl, c⟩ | c | c | ⟨c1, c2, c3⟩ | ⟨c1, c2, c3⟩ | ⟨c1, c2, c3, c4, c5⟩ | ⟨c1, c2, c3, c4, c5⟩ | ⟨rfl, c1, c2, c3, c4, c5⟩ | ⟨rfl, c1, c2, rfl⟩ | ⟨rfl, c1, c2, c3, rfl⟩ | ⟨rfl, rfl, c1, c2⟩ | ⟨rfl, rfl, c1, c2⟩
  all_goals
    (try have e0 : (k == 0) = false := beq_eq_false_iff_ne.2 (by omega))
    (try have e1 : (h == -1) = false := beq_eq_false_iff_ne.2 (by omega))
    (try have e3 : (z == 0) = false := beq_eq_false_iff_ne.2 (by omega))
    (try have e2 : (z % 64 != 0) = true := by rw [bne_iff_ne]; exact c5)
    (try have e4 : (z % 64 != 0) = false := by rw [bne_eq_false_iff_eq]; exact c1)
    go_enter Tryz.func53, Tryz.ntmps53
    go_wp2
    go_ret
    exact ⟨rfl, bl_alloc (Below.refl _ _) _⟩

end Go.Proofs.YtichcdoijieddaaGreat.Iq
end

/- The document's line of an inode (cantleref06.Encode). -/
section
set_option linter.unusedVariables false
set_option linter.unusedSimpArgs false
set_option maxHeartbeats 2000000
set_option maxRecDepth 100000
namespace Go.Proofs.YtichcdoijieddaaGreat.Iq
open Go Go.RowKit
open Go.Proofs.YtichcdoijieddaaGreat.Ob Go.Proofs.YtichcdoijieddaaGreat.Ba Go.Proofs.YtichcdoijieddaaGreat.Oc Go.Proofs.YtichcdoijieddaaGreat.Pk Go.Proofs.YtichcdoijieddaaGreat.Su Go.Proofs.YtichcdoijieddaaGreat.Cc Go.Proofs.YtichcdoijieddaaGreat.Cr Go.Proofs.YtichcdoijieddaaGreat.Ge Go.Proofs.YtichcdoijieddaaGreat.In

theorem renc_no (k h z : Int) (hn : ¬ iAll k h z) (w : World) : Calls Tryz.prog 8 #[.agg #[.int .i64 k, .int .i64 h, .int .i64 z]] w fun e w' => e = .returned (.tuple #[.slice none 0 0, .bool false]) ∧ Below w.heap.size w w' := by
  have hu := Tryz.underlying39
  have HM := Lib.hid (rmay_no k h z hn)
  clear hn
  go_enter Tryz.func8, Tryz.ntmps8
  go_wp2_with fail
  refine (HM.out _).mono ?_
  rintro e w1 ⟨rfl, hb⟩
  have HB := Lib.hid (bl_then (bl_alloc (Below.refl _ _) _) hb)
  clear hb
  go_wp2_with fail
  go_ret2
  exact ⟨rfl, HB.out⟩

theorem renc_free (w : World) : Calls Tryz.prog 8 #[.agg #[.int .i64 0, .int .i64 (-1), .int .i64 0]] w fun e w' => ∃ v, e = .returned (.tuple #[v, .bool true]) ∧ w'.ownsRow w.heap.size 60 1 v 8 (ivs .u64 (ints (List.replicate 8 0))) ∧ Below w.heap.size w w' := by
  have hu := Tryz.underlying39
  go_enter Tryz.func8, Tryz.ntmps8
  go_wp2_with fail
  refine (rmay_yes 0 (-1) 0 (.inl ⟨rfl, rfl, rfl⟩) _).mono ?_
  rintro e w1 ⟨rfl, hb⟩
  have hq := blk_bl (alloc_new w (.cells #[.int .i64 0, .int .i64 (-1), .int .i64 0] 39)) hb
  have k0 := cell_of hq 0
  have hlt := lt_of hq
  have HB := Lib.hid (bl_then (bl_alloc (Below.refl _ _) _) hb)
  clear hb hq
  go_wp2_with (at_make; refine Go.Proofs.YtichcdoijieddaaGreat.Wl.wpl_make rfl _ 22 60 rfl (.int .u64 0) 8 Tryz.underlying22 info_u64 rfl 8 .i64 _ rfl rfl (by decide) (by decide) ?_)
  go_ret2
  refine ⟨_, rfl, own_new (k := .u64) (l := ints (List.replicate 8 0)) (q := w1.heap.size) ?_ HB.out.size rfl (by unfold maxLen; omega), bl_alloc HB.out _⟩
  exact alloc_new w1 _

theorem renc_file (k p z : Nat) (h : Int) (hp : (p : Int) = h + 1) (hk : iOk k h z) (w : World) :
    Calls Tryz.prog 8 #[.agg #[.int .i64 k, .int .i64 h, .int .i64 z]] w fun e w' => ∃ v, e = .returned (.tuple #[v, .bool true]) ∧ w'.ownsRow w.heap.size 60 1 v 8 (ivs .u64 (ints (line (k + 65536 * p) z))) ∧ Below w.heap.size w w' := by
  have hu := Tryz.underlying39
  have HM := Lib.hid (rmay_yes k h z (.inr hk))
  obtain ⟨h1, h2, h3, h4, h5, h6, h7⟩ := hk
  have hk9 : k < 65536 := by omega
  have hp9 : p < 65536 := by omega
  have hz9 : z < 18446744073709551616 := by omega
  have e0 : ((k : Int) == 0) = false := by rw [beq_eq_false_iff_ne]; omega
  obtain ⟨i0, hinf, hz0, hz1, hz2⟩ := info_parts info_u64
  obtain ⟨y, hy⟩ : ∃ y, y = k + 65536 * p := ⟨_, rfl⟩
  have hy9 : y < 18446744073709551616 := by omega
  have hyi : (k : Int) + 65536 * (p : Int) = (y : Int) := by omega
  rw [← hy]
  have hh1 : h = (p : Int) - 1 := by omega
  subst hh1
  clear h1 h2 h6 h7 hy hp h4
  go_enter Tryz.func8, Tryz.ntmps8
  go_wp2_with fail
  refine (HM.out _).mono ?_
  rintro e w2 ⟨rfl, hb⟩
  have hq := blk_bl (alloc_new w (.cells #[.int .i64 k, .int .i64 ((p : Int) - 1), .int .i64 z] 39)) hb
  have k0 := cell_of hq 0
  have k1 := cell_of hq 1
  have k2 := cell_of hq 2
  have hlt := lt_of hq
  have HB2 := Lib.hid (bl_then (bl_alloc (Below.refl _ _) _) hb)
  clear hb hq
  go_wp2_with fail
  have hrb := rbytes_ (rhead (w := w2) y z) (head7_lt hy9 hz9) 7 (by simp [head7])
  rw [show (head7 y z).length = 7 from rfl] at hrb
  have HSM : Hid (∀ w, Calls Tryz.prog 54 #[.string (txt (octs (head7 y z)))] w fun e w' => e = .returned (.int .u32 (sum7 y z : Nat)) ∧ w = w') := fun w => rsum32_ (octs_lt _) (by rw [octs_length]; simp [head7]) w
  have hrow : (w2.alloc (.cells #[.int .u64 y, .int .u64 z, .int .u64 0, .int .u64 0, .int .u64 0, .int .u64 0, .int .u64 0] 60)).ownsRow w.heap.size 60 1 (.slice (some ⟨w2.heap.size, 0, none⟩) 7 7) 7 (ivs .u64 (ints (head7 y z))) :=
    own_new (k := .u64) (l := ints (head7 y z)) (alloc_new w2 _) HB2.out.size rfl (by unfold maxLen; omega)
  have HROW := Lib.hid hrow
  have hs9 := sum7_lt y z
  have HBA := Lib.hid (bl_alloc HB2.out (.cells #[.int .u64 y, .int .u64 z, .int .u64 0, .int .u64 0, .int .u64 0, .int .u64 0, .int .u64 0] 60))
  clear hrow k0 k1 k2
  generalize txt (octs (head7 y z)) = S at *
  have HSE : Hid (line y z = head7 y z ++ [sum7 y z]) := rfl
  generalize sum7 y z = t at *
  refine hrb.mono ?_
  clear hrb
  rintro e w3 ⟨rfl, hb3⟩
  have hrow3 := own_bl HROW.out hb3
  have HB3 := Lib.hid (bl_then HBA.out hb3)
  have HOW := Lib.hid (fun o => own_kp (W' := w3.alloc o) hrow3 (fun k _ hk => Below.heap_alloc _ _ k hk))
  have HR3 := Lib.hid hrow3
  clear hb3 hrow3
  go_wp2_with (first | (go_at_call 54; refine (HSM.out _).mono ?_; rintro e w4 ⟨rfl, rfl⟩) |
    (at_builtin; refine wpList_append_own _ rfl (.tmp 25) (.tmp 30) 22 rfl w.heap.size 60 i0 (.int .u64 0) 1 8 Tryz.underlying22 hinf hz0 hz1 hz2 rfl (by decide) _ 7 _ rfl (HOW.out _) ⟨w3.heap.size, 0, none⟩ 1 1 [.int .u64 t] rfl rfl (one_at _ _ _) (by intro u hu; simp at hu; subst hu; rfl) (by unfold maxLen; omega) (by omega) (by have h1 := HB3.out.size; simp; omega) ?_; intro v' w7 hown' hgrow _; (have HO := Lib.hid hown'); (have HG := Lib.hid hgrow); clear hown' hgrow))
  go_ret2
  refine ⟨_, rfl, ?_, bl_grown (bl_alloc HB3.out _) HG.out (own_lo HR3.out)⟩
  rw [HSE.out, ints_append, ivs_append]
  exact HO.out

theorem renc_yes (k h z : Int) (hn : iAll k h z) (w : World) : Calls Tryz.prog 8 #[.agg #[.int .i64 k, .int .i64 h, .int .i64 z]] w fun e w' => ∃ v, e = .returned (.tuple #[v, .bool true]) ∧ w'.ownsRow w.heap.size 60 1 v 8 (ivs .u64 (ints (iLine k h z))) ∧ Below w.heap.size w w' := by
  rcases hn with ⟨rfl, rfl, rfl⟩ | hk
  · exact renc_free w
  · have hk' := hk
    obtain ⟨h1, h2, h3, h4, h5, h6, h7⟩ := hk'
    obtain ⟨kk, rfl⟩ : ∃ kk : Nat, k = kk := ⟨k.toNat, by omega⟩
    obtain ⟨zz, rfl⟩ : ∃ zz : Nat, z = zz := ⟨z.toNat, by omega⟩
    have := renc_file kk (h + 1).toNat zz h (by omega) hk w
    unfold iLine
    rw [if_neg (by omega)]
    exact this

theorem ref_ (k h z : Int) (w : World) : Calls Tryz.prog 9 #[.agg #[.int .i64 k, .int .i64 h, .int .i64 z]] w fun e w' => e = .returned (.agg #[.int .i64 k, .int .i64 h, .int .i64 z]) ∧ Below w.heap.size w w' := by
  have hu := Tryz.underlying39
  have hu2 := Tryz.underlying27
  have hq := alloc_new (w.alloc (.cells #[.int .i64 k, .int .i64 h, .int .i64 z] 27)) (.cells #[.int .i64 k, .int .i64 h, .int .i64 z] 39)
  rw [World.size_alloc] at hq
  have HQ := Lib.hid hq
  clear hq
  go_enter Tryz.func9, Tryz.ntmps9
  go_wp2
  exact bodyPost_ret (res_c rfl _ _ (w.heap.size + 1) 39 _ (0, 0) _ rfl HQ.out hu rfl (by kernel_rfl)) rfl ⟨rfl, bl_alloc (bl_alloc (Below.refl _ _) _) _⟩

end Go.Proofs.YtichcdoijieddaaGreat.Iq
end

/- VolumeInodes: the walk. -/
section
set_option linter.unusedVariables false
set_option linter.unusedSimpArgs false
set_option maxHeartbeats 2000000
set_option maxRecDepth 100000
namespace Go.Proofs.YtichcdoijieddaaGreat.Vi
open Go Go.RowKit
open Go.Proofs.YtichcdoijieddaaGreat.Ob Go.Proofs.YtichcdoijieddaaGreat.Ba Go.Proofs.YtichcdoijieddaaGreat.Ko Go.Proofs.YtichcdoijieddaaGreat.Ge Go.Proofs.YtichcdoijieddaaGreat.Oc Go.Proofs.YtichcdoijieddaaGreat.Pk Go.Proofs.YtichcdoijieddaaGreat.Su Go.Proofs.YtichcdoijieddaaGreat.Rf Go.Proofs.YtichcdoijieddaaGreat.Dv Go.Proofs.YtichcdoijieddaaGreat.Vo Go.Proofs.YtichcdoijieddaaGreat.Ra Go.Proofs.YtichcdoijieddaaGreat.Lo Go.Proofs.YtichcdoijieddaaGreat.Li Go.Proofs.YtichcdoijieddaaGreat.Vs Go.Proofs.YtichcdoijieddaaGreat.In Go.Proofs.YtichcdoijieddaaGreat.Iq

theorem iLine_lt (k h z : Int) (hb : iB k h z = true) : ∀ x ∈ iLine k h z, x < 18446744073709551616 := by
  intro x hx
  rcases of_decide_eq_true hb with ⟨rfl, rfl, rfl⟩ | ⟨h1, h2, h3, h4, h5, h6, h7⟩
  · simp [iLine] at hx
    omega
  · unfold iLine at hx
    rw [if_neg (by omega)] at hx
    have hs := sum7_lt (k.toNat + 65536 * (h + 1).toNat) z.toNat
    simp only [line, List.mem_cons, List.not_mem_nil, or_false] at hx
    rcases hx with rfl | rfl | rfl | rfl | rfl | rfl | rfl | rfl <;> omega

theorem d6_line (k h z : Int) (hb : iB k h z = true) {e : Ending} (he : D6 (iLine k h z) e) : e = .returned (.tuple #[.agg #[.int .i64 k, .int .i64 h, .int .i64 z], .int .i64 0]) := by
  have key : ok6 (iLine k h z) = true ∧ n6 (iLine k h z) = (k, h, z) := by
    rcases of_decide_eq_true hb with ⟨rfl, rfl, rfl⟩ | ⟨h1, h2, h3, h4, h5, h6, h7⟩
    · exact ⟨by decide, by decide⟩
    · have e0 : (iLine k h z).getD 0 0 = k.toNat + 65536 * (h + 1).toNat := by unfold iLine; rw [if_neg (by omega)]; rfl
      have e1 : (iLine k h z).getD 1 0 = z.toNat := by unfold iLine; rw [if_neg (by omega)]; rfl
      have a1 : (((k.toNat + 65536 * (h + 1).toNat) % 65536 : Nat) : Int) = k := by omega
      have a2 : (((k.toNat + 65536 * (h + 1).toNat) / 65536 : Nat) : Int) - 1 = h := by omega
      have a3 : (z.toNat : Int) = z := by omega
      have hok : ok6 (iLine k h z) = true := by
        unfold ok6
        rw [e0, e1, a1, a2, a3, hb, decide_eq_true (p := k.toNat + 65536 * (h + 1).toNat < 4294967296) (by omega), decide_eq_true (p := z.toNat ≤ 268435456) (by omega), decide_eq_true (rfl : iLine k h z = iLine k h z)]
        rfl
      refine ⟨hok, ?_⟩
      unfold n6
      rw [hok, e0, e1, a1, a2, a3]
      rfl
  unfold D6 at he
  rw [key.1, key.2] at he
  exact he

theorem ienc (x y z : Int) (w : World) : Calls Tryz.prog 8 #[.agg #[.int .i64 x, .int .i64 y, .int .i64 z]] w fun e w' => ∃ A ln c, e = .returned (.tuple #[.slice A ln c, .bool (iB x y z)]) ∧ (iB x y z = true → ln = 8 ∧ Rk .u64 w' A (ints (iLine x y z)) ∧ ∀ p, A = some p → w.heap.size ≤ p.block) ∧ Below w.heap.size w w' := by
  cases h : iB x y z with
  | true =>
    refine (renc_yes x y z (of_decide_eq_true h) w).mono ?_
    rintro e w' ⟨v, rfl, hown, hb⟩
    obtain ⟨A, c, rfl⟩ := own_slice hown
    exact ⟨A, 8, c, rfl, fun _ => ⟨rfl, (own_rk (k := .u64) hown).1, fun p hp => own_lo hown _ (by rw [hp]; rfl)⟩, hb⟩
  | false =>
    refine (renc_no x y z (of_decide_eq_false h) w).mono ?_
    rintro e w' ⟨rfl, hb⟩
    exact ⟨none, 0, 0, rfl, (fun h => (Bool.false_ne_true h).elim), hb⟩

theorem walk (r0 r1 r2 : Nat) (h0 : r0 < 256) (h1 : r1 < 256) (h2 : r2 < 256) {A : Option Addr} {l : List Int} (c : Nat) {w : World} (h : Rk .u64 w A l) (hl9 : l.length ≤ 9223372036854775807) (i x y z : Int) (hi9 : -9223372036854775808 ≤ i ∧ i ≤ 9223372036854775807) :
    Calls Tryz.prog 3 #[.agg #[.int .u8 r0, .int .u8 r1, .int .u8 r2, .slice A l.length c], .int .i64 i, .agg #[.int .i64 x, .int .i64 y, .int .i64 z]] w fun e w' => e = .returned (.bool true) ∧ Below w.heap.size w w' := by
  have hu := Tryz.underlying33
  have hu2 := Tryz.underlying27
  have hu3 := Tryz.underlying24
  obtain ⟨n, hn⟩ : ∃ n, n = gB r0 := ⟨_, rfl⟩
  obtain ⟨m, hm⟩ : ∃ m, m = gB r1 := ⟨_, rfl⟩
  obtain ⟨s, hs⟩ : ∃ s, s = gS r2 := ⟨_, rfl⟩
  have htt := g_tot r0 r1 r2
  rw [← hn, ← hm, ← hs] at htt
  obtain ⟨T, hT⟩ : ∃ T : Nat, (T : Int) = tot n m s := ⟨(tot n m s).toNat, by omega⟩
  have hT1 : Hid (40 ≤ T ∧ T ≤ 1000) := by show _ ∧ _; omega
  have hmm : m ≤ 20 := by have := gB_in r1; omega
  have hfit : Hid (16 + 8 * (m : Int) ≤ T) := by
    show _ ≤ _
    rw [hT]
    unfold tot
    have e1 : 0 ≤ up8 n := by unfold up8; omega
    have e2 : 0 ≤ up8 (((n : Int) + 63) / 64) := by unfold up8; omega
    have e3 : 0 ≤ (n : Int) * ((s : Int) / 8) := Int.mul_nonneg (by omega) (by omega)
    omega
  have HLEN := Lib.hid (dws_length (ints (enc n m s)) l T rfl (by have := hT1.out; omega))
  have HO : Hid (∀ {W : World}, Rk .u64 W A l → _) := fun {W} hW => open_ r0 r1 r2 h0 h1 h2 c (w := W) hW hl9 n m s T hn hm hs hT
  have HV : Hid (∀ v, vcells n m s v = #[.int .i64 n, .int .i64 m, .int .i64 s, .int .i64 16, .int .i64 (16 + 8 * m), .int .i64 (bmAt n m), .int .i64 (bkAt n m), .int .i64 (tot n m s), v]) := fun _ => rfl
  have H := Lib.hid h
  generalize dws (ints (enc n m s)) l T = L at *
  generalize vcells n m s = vc at *
  obtain ⟨len, hle⟩ : ∃ len, len = l.length := ⟨_, rfl⟩
  rw [← hle] at HO
  rw [← hle]
  clear h hl9 hn hm hs hT htt h0 h1 h2 hle
  generalize bmAt n m = p3 at *
  generalize bkAt n m = p4 at *
  generalize tot n m s = p5 at *
  go_enter Tryz.func3, Tryz.ntmps3
  go_wp2_with fail
  refine (lives15 _).mono ?_
  rintro e w1 ⟨rfl, hb1⟩
  have hqr := blk_bl (alloc_old (alloc_new w (.cells #[.int .u8 r0, .int .u8 r1, .int .u8 r2, .slice A len c] 24)) (.cells #[.int .i64 x, .int .i64 y, .int .i64 z] 27)) hb1
  have hqs := alloc_new (w.alloc (.cells #[.int .u8 r0, .int .u8 r1, .int .u8 r2, .slice A len c] 24)) (.cells #[.int .i64 x, .int .i64 y, .int .i64 z] 27)
  rw [World.size_alloc] at hqs
  have HS1 := Lib.hid (blk_bl hqs hb1)
  have hz1 := hb1.size
  simp only [World.size_alloc] at hz1
  have HZ1 : Hid (w.heap.size + 2 ≤ w1.heap.size) := hz1
  have HB1 := Lib.hid (bl_then (bl_alloc (bl_alloc (Below.refl _ _) _) _) hb1)
  have a0 := cell_of hqr 0
  have a1 := cell_of hqr 1
  have a2 := cell_of hqr 2
  have a3 := cell_of hqr 3
  clear hqr hqs hb1 hz1
  go_wp2_with fail
  refine (HO.out (H.out.below HB1.out)).mono ?_
  rintro e w2 ⟨v, b, g, vw, rfl, hop⟩
  obtain ⟨A8, c8, e8⟩ := own_slice hop.row
  subst e8
  rw [HV.out]
  obtain ⟨W2, hW2⟩ : ∃ W2, W2 = w2.alloc (.cells #[.int .i64 n, .int .i64 m, .int .i64 s, .int .i64 16, .int .i64 (16 + 8 * m), .int .i64 p3, .int .i64 p4, .int .i64 p5, .slice A8 T c8] 33) := ⟨_, rfl⟩
  have hbW : Below w2.heap.size w2 W2 := by rw [hW2]; exact bl_alloc (Below.refl _ _) _
  have hsW : W2.heap.size = w2.heap.size + 1 := by rw [hW2]; simp
  have HSV : Hid (Sv w W2 w2.heap.size n m s p3 p4 p5 A8 T c8 L) :=
    ⟨by rw [hW2]; exact alloc_new _ _, (own_rk (k := .u64) hop.row).1.below hbW, bl_then (bl_then HB1.out hop.below) hbW, by have := HZ1.out; have := hop.below.size; omega⟩
  have HVO := Lib.hid (hop.vol.below hbW)
  have HS2 := Lib.hid (blk_bl (blk_bl HS1.out hop.below) hbW)
  have HFT : Hid (∀ k ∈ g.foot b, w.heap.size + 2 ≤ k ∧ k < w2.heap.size) := fun k hk => ⟨by have := HZ1.out; have := hop.foot k hk; omega, hop.vol.dev.lt k hk⟩
  have HAP : Hid (∀ a, A8 = some a → a.block ∉ g.foot b) := fun a ha => hop.apart _ (by rw [ha]; rfl)
  have HSW := Lib.hid hsW
  have s0 := cell_of HS2.out 0
  have s1 := cell_of HS2.out 1
  have s2 := cell_of HS2.out 2
  rw [hW2] at s0 s1 s2
  have HW2 := Lib.hid hW2
  clear hop a0 a1 a2 a3 hbW hsW hW2
  go_wp2_with fail
  rw [← HW2.out]
  refine (ref_ x y z _).mono ?_
  rintro e w3 ⟨rfl, hb3⟩
  have HSV3 := Lib.hid (HSV.out.keep hb3)
  have HVO3 := Lib.hid (HVO.out.below hb3)
  have HS3 := Lib.hid (blk_bl HS2.out hb3)
  have HZ3 : Hid (W2.heap.size ≤ w3.heap.size) := hb3.size
  clear s0 s1 s2 hb3
  go_wp2_with fail
  refine (ienc x y z _).mono ?_
  rintro e w4 ⟨A4, ln, c4, rfl, hln, hb4⟩
  have HLN : Hid (iB x y z = true → ln = 8 ∧ Rk .u64 w4 A4 (ints (iLine x y z)) ∧ ∀ p, A4 = some p → W2.heap.size ≤ p.block) := fun hb => by
    obtain ⟨q1, q2, q3⟩ := hln hb
    exact ⟨q1, q2, fun p hp => Nat.le_trans HZ3.out (q3 p hp)⟩
  have HSV4 := Lib.hid (HSV3.out.keep hb4)
  have HVO4 := Lib.hid (HVO3.out.below hb4)
  have HS4 := Lib.hid (blk_bl HS3.out hb4)
  have s0 := cell_of HS4.out 0
  have s1 := cell_of HS4.out 1
  have s2 := cell_of HS4.out 2
  clear hln hb4
  go_wp2_with fail
  by_cases hi : i < 0 ∨ (m : Int) ≤ i
  · refine (setinode_range HVO4.out i x y z hi).mono ?_
    rintro e w5 ⟨rfl, hb5⟩
    have HSV5 := Lib.hid (HSV4.out.keep hb5)
    have HSY := Lib.hid (HSV5.out.still (HVO4.out.below hb5) HLEN.out (by have := hT1.out; omega))
    have hst5 := HSV5.out
    clear s0 s1 s2 hb5
    have m0 := cell_of hst5.vol 0
    have m1 := cell_of hst5.vol 1
    have m2 := cell_of hst5.vol 2
    have m3 := cell_of hst5.vol 3
    have m4 := cell_of hst5.vol 4
    have m5 := cell_of hst5.vol 5
    have m6 := cell_of hst5.vol 6
    have m7 := cell_of hst5.vol 7
    have m8 := cell_of hst5.vol 8
    clear hst5
    generalize (16 + 8 * (m : Int)) = p2 at *
    rcases hi with hi | hi
    · go_wp2_with (go_at_call 11; refine HSY.out.mono ?_; rintro e w6 ⟨rfl, hb6⟩; (have HB6 := Lib.hid hb6); clear hb6)
      go_ret
      exact ⟨rfl, bl_then HSV5.out.below HB6.out⟩
    · have hi0 : ¬ i < 0 := by omega
      go_wp2_with (go_at_call 11; refine HSY.out.mono ?_; rintro e w6 ⟨rfl, hb6⟩; (have HB6 := Lib.hid hb6); clear hb6)
      go_ret
      exact ⟨rfl, bl_then HSV5.out.below HB6.out⟩
  obtain ⟨hi0, hin⟩ : 0 ≤ i ∧ i < (m : Int) := by omega
  cases hmay : iB x y z with
  | false =>
    refine (setinode_no HVO4.out i x y z ⟨hi0, hin⟩ hmay).mono ?_
    rintro e w5 ⟨rfl, hb5⟩
    have HSV5 := Lib.hid (HSV4.out.keep hb5)
    have HSY := Lib.hid (HSV5.out.still (HVO4.out.below hb5) HLEN.out (by have := hT1.out; omega))
    have hst5 := HSV5.out
    clear s0 s1 s2 hb5 hi
    have m0 := cell_of hst5.vol 0
    have m1 := cell_of hst5.vol 1
    have m2 := cell_of hst5.vol 2
    have m3 := cell_of hst5.vol 3
    have m4 := cell_of hst5.vol 4
    have m5 := cell_of hst5.vol 5
    have m6 := cell_of hst5.vol 6
    have m7 := cell_of hst5.vol 7
    have m8 := cell_of hst5.vol 8
    clear hst5 hmay
    generalize (16 + 8 * (m : Int)) = p2 at *
    go_wp2_with (go_at_call 11; refine HSY.out.mono ?_; rintro e w6 ⟨rfl, hb6⟩; (have HB6 := Lib.hid hb6); clear hb6)
    go_ret
    exact ⟨rfl, bl_then HSV5.out.below HB6.out⟩
  | true =>
    obtain ⟨hln, hrk4, hap4⟩ := HLN.out hmay
    subst hln
    obtain ⟨k, hk⟩ : ∃ k : Nat, (k : Int) = 16 + 8 * i := ⟨(16 + 8 * i).toNat, by omega⟩
    have HKT : Hid (k + 8 ≤ T) := by show _ ≤ _; have := hfit.out; omega
    have h8 : (iLine x y z).length = 8 := iLine_len x y z
    obtain ⟨d', hput, hpt⟩ := Wp.put_many (Pm.devOf L) rfl (ints (iLine x y z)) k (by rw [ints_length, h8]; show k + 8 ≤ L.length; rw [HLEN.out]; exact HKT.out)
    rw [words_devOf] at hpt
    refine (setinode_yes HVO4.out (show (0 : Nat) ≤ 1000000000 from Nat.zero_le _) i x y z ⟨hi0, hin⟩ hmay k hk _ hput).mono ?_
    rintro e w5 ⟨rfl, hto⟩
    obtain ⟨g5, hv5, hf5, hu5⟩ := HVO4.out.to hto (by show d'.las.length = _; rw [hpt.las])
    rw [show ecode (d', some (ints (iLine x y z)).length) = 0 from rfl]
    have hsv5 := HSV4.out.to hu5 (fun k hk => ⟨by have := HFT.out k hk; omega, Nat.ne_of_lt (HFT.out k hk).2⟩) HAP.out (by rw [HLEN.out]; have := hT1.out; omega)
    have hs5 := hu5.blk HS4.out (fun hm => by have := HFT.out _ hm; omega)
    have hrk5 : Rk .u64 w5 A4 (ints (iLine x y z)) := hrk4.keep (fun a ha => by
      have h1 := hap4 a ha
      obtain ⟨u, hu9⟩ := some_at (l := ints (iLine x y z)) (i := 0) (by rw [ints_length, h8]; decide)
      obtain ⟨a', ha', hlt, -⟩ := hrk4 0 u hu9
      rw [ha] at ha'
      cases ha'
      exact hu5.block _ hlt (fun hm => by have := (HFT.out _ hm).2; have := HSW.out; omega)) hu5.size
    have hlds : lds d' k 8 = ints (iLine x y z) := by
      have := Vh.lds_wput hpt.words (by rw [ints_length, h8, HLEN.out]; exact HKT.out)
      rw [ints_length, h8] at this
      exact this
    have hget := inode_get hv5 i ⟨hi0, hin⟩ k hk (iLine x y z) hlds (iLine_lt x y z hmay)
    have HSV5 := Lib.hid hsv5
    have HV5 := Lib.hid hv5
    have HS5 := Lib.hid hs5
    have HGET : Hid (Calls Tryz.prog 12 #[.pointer (some ⟨v, 0, none⟩), .int .i64 i] w5 fun e w' => e = .returned (.tuple #[.agg #[.int .i64 x, .int .i64 y, .int .i64 z], .int .i64 0]) ∧ Below w5.heap.size w5 w') := hget.mono fun e w' ⟨q1, q2⟩ => ⟨d6_line x y z hmay q1, q2⟩
    have HRK5 := Lib.hid hrk5
    have HPT := Lib.hid hpt
    have H8 := Lib.hid h8
    have HHK := Lib.hid hk
    have m1 := cell_of hsv5.vol 1
    clear hsv5 hv5 hs5 hget hrk5 hpt hput h8 hk hrk4 hap4 hto hf5 hu5 hlds s0 s1 s2 hi
    go_wp2_with fail
    refine HGET.out.mono ?_
    rintro e w6 ⟨rfl, hb6⟩
    have HSV6 := Lib.hid (HSV5.out.keep hb6)
    have HV6 := Lib.hid (HV5.out.below hb6)
    have HRK6 := Lib.hid (HRK5.out.below hb6)
    have hst6 := HSV6.out
    have hs6 := blk_bl HS5.out hb6
    clear hb6 hmay m1
    have s0 := cell_of hs6 0
    have s1 := cell_of hs6 1
    have s2 := cell_of hs6 2
    have m0 := cell_of hst6.vol 0
    have m1 := cell_of hst6.vol 1
    have m2 := cell_of hst6.vol 2
    have m3 := cell_of hst6.vol 3
    have m4 := cell_of hst6.vol 4
    have m5 := cell_of hst6.vol 5
    have m6 := cell_of hst6.vol 6
    have m7 := cell_of hst6.vol 7
    have m8 := cell_of hst6.vol 8
    have lt1 := lt_of hs6
    have lt2 := lt_of hst6.vol
    have hb7 : Below w6.heap.size w6 (w6.alloc (.cells #[.int .i64 x, .int .i64 y, .int .i64 z] 27)) := bl_alloc (Below.refl _ _) _
    have hwr := (HSV6.out.keep hb7).wrote (HV6.out.below hb7) HLEN.out (by have := hT1.out; omega) k HPT.out (by rw [ints_length, H8.out]; exact HKT.out) (HRK6.out.below hb7) (c2 := c4)
    rw [ints_length, H8.out] at hwr
    have HWR := Lib.hid hwr
    clear hst6 hs6 hwr hb7
    generalize (16 + 8 * (m : Int)) = p2 at *
    go_wp2_with fail
    rw [← HHK.out]
    refine HWR.out.mono ?_
    rintro e w7 ⟨rfl, hb7⟩
    have HB7 := Lib.hid (bl_then (bl_alloc HSV6.out.below _) hb7)
    clear hb7
    go_wp2_with fail
    go_ret
    exact ⟨rfl, HB7.out⟩

end Go.Proofs.YtichcdoijieddaaGreat.Vi
end

/- Arguments opened: the laws' raw images, numbers, slots. -/
section
namespace Go.Proofs.YtichcdoijieddaaGreat.Ao
open Go Go.RowKit Go.ChangeShapes Go.WideShapes Go.ChangeAt Go.Joins Go.Deep
open Go.Proofs.YtichcdoijieddaaGreat.Ba
set_option linter.unusedVariables false
set_option maxHeartbeats 2000000
set_option maxRecDepth 100000

theorem own : ownKnob Tryz.prog.godebug = none := by kernel_rfl
theorem laidOut : laidOutB Tryz.prog = true := by kernel_rfl

theorem cell_plain {w : World} {a : Addr} {v : Value} (h : w.cell? a = some v) : a = ⟨a.block, a.off, none⟩ ∧ a.block < w.heap.size := by
  obtain ⟨b, o, s⟩ := a
  simp only [World.cell?] at h
  split at h
  · rename_i c e f hb
    refine ⟨?_, (Array.getElem?_eq_some_iff.1 hb).1⟩
    cases s with
    | none => rfl
    | some _ => simp at h
  · cases h

theorem int_wf {k : IntKind} {n : Int} (h : (Lit.int k n).wf = true) : k.min ≤ n ∧ n ≤ k.max := by
  simpa [Lit.wf] using h


theorem words_open {H : Type} {enc : TypeId × Value → H} {w : World} {fuel : Nat} {cs : List Value} {x : DataW H × List MemPlace} (h : DataW.trod enc Tryz.prog w 0 (fun _ => true) true fuel 22 cs = some x) :
    ∃ (A : Option Addr) (l : List Int) (c : Nat), cs = [.slice A l.length c] ∧ Rk .u64 w A l ∧ l.length ≤ 9223372036854775807 := by
  rcases open_ints Tryz.underlying22 Tryz.underlying60 (by kernel_rfl) h with ⟨hcs, _⟩ | ⟨a, l, c, zs, hcs, _, hl, hm, hz, _, hcell, hwz⟩
  · exact ⟨none, [], 0, hcs, Rk.nil _ _ _, by decide⟩
  · simp only [if_true] at hz
    have hlen : (zs.take l).length = l := by rw [List.length_take]; omega
    refine ⟨some a, zs.take l, c, by rw [hlen]; exact hcs, ?_, by rw [hlen]; unfold maxLen at hm; omega⟩
    intro i z hx
    obtain ⟨hi, hz2⟩ := List.getElem?_eq_some_iff.1 hx
    rw [List.getElem_take] at hz2
    simp only [List.length_take] at hi
    have hi2 : i < zs.length := by omega
    have hci := hcell i hi2
    obtain ⟨p1, p2⟩ := cell_plain hci
    refine ⟨a, rfl, by rw [add_block] at p2; exact p2, ?_⟩
    rw [hci, List.getD_eq_getElem?_getD, List.getElem?_eq_getElem hi2, hz2]
    rfl

theorem bytes_open {H : Type} {enc : TypeId × Value → H} {w : World} {fuel : Nat} {cs : List Value} {x : DataW H × List MemPlace} (h : DataW.trod enc Tryz.prog w 0 (fun _ => true) true fuel 95 cs = some x) :
    ∃ (A : Option Addr) (l : List Nat) (c : Nat), cs = [.slice A l.length c] ∧ Rk .u8 w A (l.map fun (x : Nat) => (x : Int)) ∧ (∀ x ∈ l, x < 256) ∧ l.length ≤ 9223372036854775807 := by
  rcases open_ints Tryz.underlying95 Tryz.underlying5 (by kernel_rfl) h with ⟨hcs, _⟩ | ⟨a, l, c, zs, hcs, _, hl, hm, hz, _, hcell, hwz⟩
  · exact ⟨none, [], 0, hcs, Rk.nil _ _ _, by simp, by decide⟩
  · simp only [if_true] at hz
    have hlen : (zs.take l).length = l := by rw [List.length_take]; omega
    have hwf : ∀ z ∈ zs, 0 ≤ z ∧ z ≤ 255 := fun z hz => by
      have h := int_wf (hwz z hz)
      simp [IntKind.min, IntKind.max, IntKind.bits, IntKind.signed] at h
      exact h
    refine ⟨some a, (zs.take l).map Int.toNat, c, by rw [List.length_map, hlen]; exact hcs, ?_, ?_, by rw [List.length_map, hlen]; unfold maxLen at hm; omega⟩
    · intro i z hx
      simp only [List.getElem?_map, Option.map_eq_some_iff, List.map_map, Function.comp] at hx
      obtain ⟨y, hy, rfl⟩ := hx
      obtain ⟨hi, hz2⟩ := List.getElem?_eq_some_iff.1 hy
      rw [List.getElem_take] at hz2
      simp only [List.length_take] at hi
      have hi2 : i < zs.length := by omega
      have hci := hcell i hi2
      obtain ⟨p1, p2⟩ := cell_plain hci
      refine ⟨a, rfl, by rw [add_block] at p2; exact p2, ?_⟩
      rw [hci, List.getD_eq_getElem?_getD, List.getElem?_eq_getElem hi2, hz2]
      have := hwf y (by rw [← hz2]; exact List.getElem_mem _)
      simp only [Option.getD_some]
      rw [Int.toNat_of_nonneg this.1]
    · intro x hx
      simp only [List.mem_map] at hx
      obtain ⟨z, hz, rfl⟩ := hx
      have := hwf z (List.mem_of_mem_take hz)
      omega

theorem u8_open {H : Type} {enc : TypeId × Value → H} {w : World} {fuel : Nat} {v : Value} {x : DataW H × List MemPlace} (h : DataW.trod enc Tryz.prog w 0 (fun _ => true) true fuel 5 [v] = some x) : ∃ n : Nat, v = .int .u8 n ∧ n < 256 := by
  obtain ⟨k, e0, _, w0⟩ := DataW.trod_int Tryz.underlying5 h
  simp only [List.cons.injEq, and_true] at e0
  have b0 := int_wf w0
  simp [IntKind.min, IntKind.max, IntKind.bits, IntKind.signed] at b0
  exact ⟨k.toNat, by rw [e0, Int.toNat_of_nonneg b0.1], by omega⟩
theorem int_open {H : Type} {enc : TypeId × Value → H} {w : World} {fuel : Nat} {v : Value} {x : DataW H × List MemPlace} (h : DataW.trod enc Tryz.prog w 0 (fun _ => true) true fuel 3 [v] = some x) : ∃ n : Int, v = .int .i64 n ∧ -9223372036854775808 ≤ n ∧ n ≤ 9223372036854775807 := by
  obtain ⟨k, e0, _, w0⟩ := DataW.trod_int Tryz.underlying3 h
  simp only [List.cons.injEq, and_true] at e0
  have b0 := int_wf w0
  simp [IntKind.min, IntKind.max, IntKind.bits, IntKind.signed] at b0
  exact ⟨k, e0, b0.1, b0.2⟩

theorem raw_open {H : Type} {enc : TypeId × Value → H} {w : World} {b0 : Nat} {v : Value} {d : DataW H} {p : List MemPlace} (hv : Value.okWide Tryz.prog w .any b0 24 v) (h : DataW.Trod enc Tryz.prog w 0 (fun _ => true) true 24 v d p) :
    ∃ (r0 r1 r2 : Nat) (A : Option Addr) (l : List Int) (c : Nat), v = .agg #[.int .u8 r0, .int .u8 r1, .int .u8 r2, .slice A l.length c] ∧ r0 < 256 ∧ r1 < 256 ∧ r2 < 256 ∧ Rk .u64 w A l ∧ l.length ≤ 9223372036854775807 := by
  obtain ⟨v0, v1, v2, v3, y0, y1, y2, y3, n, rfl, -, -, t0, t1, t2, t3⟩ := open_agg4 Tryz.underlying24 (by kernel_rfl) (by kernel_rfl) hv h
  obtain ⟨r0, rfl, h0⟩ := u8_open t0
  obtain ⟨r1, rfl, h1⟩ := u8_open t1
  obtain ⟨r2, rfl, h2⟩ := u8_open t2
  obtain ⟨A, l, c, e3, hr, hl⟩ := words_open t3
  simp only [List.cons.injEq, and_true] at e3
  subst e3
  exact ⟨r0, r1, r2, A, l, c, rfl, h0, h1, h2, hr, hl⟩

end Go.Proofs.YtichcdoijieddaaGreat.Ao
end
