/- Parts of the proof, one behind the other: Cf, Hr. -/
import Derived.Test.YtgnagbbdnlmgeaaGreatC18
import Derived.Deep.QuietTactic
import Derived.BigQuiet
import Derived.Test.YtgnagbbdnlmgeaaGreatC21
import Derived.Test.YtgnagbbdnlmgeaaGreatC17

/- chain.Find: the k-th block. -/
section
set_option linter.unusedVariables false
set_option linter.unusedSimpArgs false
set_option maxHeartbeats 2000000
set_option maxRecDepth 100000
namespace Go.Proofs.YtgnagbbdnlmgeaaGreat.Tr
open Go Go.RowKit
open Go.Proofs.YtgnagbbdnlmgeaaGreat.Ob Go.Proofs.YtgnagbbdnlmgeaaGreat.Ba Go.Proofs.YtgnagbbdnlmgeaaGreat.Oc Go.Proofs.YtgnagbbdnlmgeaaGreat.Pk

/-- which part the k-th block is in, and which block it is -/
def findF : List Tri → Int → Int → Int × Int
  | [], _, _ => (-1, -1)
  | t :: r, i, k => if 0 ≤ k ∧ k < t.2.1 then (i, t.1 + k) else findF r (i + 1) (k - t.2.1)

theorem find_ {w : World} {A B : Option Addr} {l : List Tri} (h : TR w B l) (ln ca c : Nat) (hl : l.length ≤ 65534) (hc : ∀ t ∈ l, 0 ≤ t.1 ∧ t.1 ≤ 65534 ∧ 0 ≤ t.2.1 ∧ t.2.1 ≤ 65534) (k : Int) (hk : -4611686018427387904 ≤ k ∧ k ≤ 9223372036854775807) :
    Calls Tryz.prog 46 #[.agg #[.slice A ln ca, .slice B l.length c], .int .i64 k] w fun e w' => e = .returned (.tuple #[.int .i64 (findF l 0 k).1, .int .i64 (findF l 0 k).2]) ∧ Below w.heap.size w w' := by
  have hu := Tryz.underlying82
  have hu2 := Tryz.underlying51
  have H := Lib.hid h
  have HC := Lib.hid hc
  obtain ⟨n, hn⟩ : ∃ n, n = l.length := ⟨_, rfl⟩
  rw [← hn] at hl
  rw [← hn]
  have HN := Lib.hid hn
  obtain ⟨R, hR⟩ : ∃ R, R = findF l 0 k := ⟨_, rfl⟩
  rw [← hR]
  have HR0 := Lib.hid hR
  obtain ⟨hk0, hk1⟩ := hk
  clear h hn hc hR
  go_enter Tryz.func46, Tryz.ntmps46
  go_wp2_with fail
  go_loopw [11, 1] (fun c11 c1 wr => ∃ (i : Nat) (q : Int), i ≤ n ∧ c11 = .int .i64 i ∧ c1 = .int .i64 q ∧ q ≤ 9223372036854775807 ∧ -4611686018427387904 - 65534 * (i : Int) ≤ q ∧ Hid (R = findF (l.drop i) i q ∧ Below w.heap.size w wr)) (fun c11 _ _ => n - (intOf c11).toNat)
  case atStart => exact ⟨0, k, Nat.zero_le _, rfl, rfl, hk1, by omega, HR0.out, bl_alloc (Below.refl _ _) _⟩
  case round =>
    obtain ⟨i, q, hi, rfl, rfl, hq1, hq0, HR⟩ := hrel
    by_cases hlt : i < n
    · obtain ⟨p, hp⟩ := some_at (l := l) (i := i) (by rw [← HN.out]; exact hlt)
      obtain ⟨g, off, rfl, -, g1, g2, g3⟩ := (H.out.below HR.out.2) i p hp
      have hpc := HC.out p (List.mem_of_getElem? hp)
      have hdr : l.drop i = p :: l.drop (i + 1) := by
        obtain ⟨h1, h2⟩ := List.getElem?_eq_some_iff.1 hp
        rw [List.drop_eq_getElem_cons h1, h2]
      obtain ⟨x, y, z⟩ := p
      have HF : Hid (R = if 0 ≤ q ∧ q < y then ((i : Int), x + q) else findF (l.drop (i + 1)) ((i : Int) + 1) (q - y)) := by
        show _ = _
        rw [HR.out.1, hdr]
        rfl
      obtain ⟨hx0, hx1, hy0, hy1⟩ := hpc
      simp only at g1 g2 g3 hx0 hx1 hy0 hy1
      clear hp hdr
      by_cases h0 : 0 ≤ q
      · by_cases h1 : q < y
        · rw [if_pos ⟨h0, h1⟩] at HF
          go_wp2_with fail
          go_quiet (fail)
          go_wp2_with fail
          go_ret2
          refine ⟨?_, bl_drewN (bl_alloc HR.out.2 _) _⟩
          rw [HF.out]
          rfl
        · rw [if_neg (fun h => h1 h.2)] at HF
          go_wp2_with fail
          go_roundw
          case rel => exact ⟨i + 1, q - y, by omega, by go_num, rfl, by omega, by omega, HF.out, bl_alloc HR.out.2 _⟩
          case measure => simp [intOf]; omega
      · rw [if_neg (fun h => h0 h.1)] at HF
        go_wp2_with fail
        go_roundw
        case rel => exact ⟨i + 1, q - y, by omega, by go_num, rfl, by omega, by omega, HF.out, bl_alloc HR.out.2 _⟩
        case measure => simp [intOf]; omega
    · obtain rfl : i = n := by omega
      have HF : Hid (R = (-1, -1)) := by
        show _ = _
        rw [HR.out.1, List.drop_of_length_le (by rw [← HN.out]; exact Nat.le_refl _)]
        rfl
      go_wp2_with fail
      go_ret2
      refine ⟨?_, HR.out.2⟩
      rw [HF.out]
      rfl

theorem findF_neg : ∀ (l : List Tri) (i k : Int), (∀ t ∈ l, 0 ≤ t.2.1) → k < 0 → findF l i k = (-1, -1)
  | [], _, _, _, _ => rfl
  | t :: r, i, k, h, hk => by
    have h0 := h t (by simp)
    unfold findF
    rw [if_neg (by omega)]
    exact findF_neg r _ _ (fun x hx => h x (by simp [hx])) (by omega)
theorem find_low {w : World} {A B : Option Addr} {l : List Tri} (h : TR w B l) (ln ca c : Nat) (hl : l.length ≤ 65534) (hc : ∀ t ∈ l, 0 ≤ t.1 ∧ t.1 ≤ 65534 ∧ 0 ≤ t.2.1 ∧ t.2.1 ≤ 65534) (k : Int) (hk : -9223372036854775808 ≤ k ∧ k < 0) :
    Calls Tryz.prog 46 #[.agg #[.slice A ln ca, .slice B l.length c], .int .i64 k] w fun e w' => e = .returned (.tuple #[.int .i64 (-1), .int .i64 (-1)]) ∧ Below w.heap.size w w' := by
  have hu := Tryz.underlying82
  have hu2 := Tryz.underlying51
  have H := Lib.hid h
  have HC := Lib.hid hc
  obtain ⟨n, hn⟩ : ∃ n, n = l.length := ⟨_, rfl⟩
  rw [← hn] at hl
  rw [← hn]
  have HN := Lib.hid hn
  obtain ⟨hk0, hk1⟩ := hk
  clear h hn hc
  go_enter Tryz.func46, Tryz.ntmps46
  go_wp2_with fail
  go_loopw [11, 1] (fun c11 c1 wr => ∃ (i : Nat) (q : Int), i ≤ n ∧ c11 = .int .i64 i ∧ c1 = .int .i64 q ∧ -9223372036854775808 ≤ q ∧ q ≤ 9223372036854775807 ∧ (q < 0 ∨ 9223372036854775807 - 65534 * (i : Int) ≤ q) ∧ Hid (Below w.heap.size w wr)) (fun c11 _ _ => n - (intOf c11).toNat)
  case atStart => exact ⟨0, k, Nat.zero_le _, rfl, rfl, hk0, by omega, .inl hk1, bl_alloc (Below.refl _ _) _⟩
  case round =>
    obtain ⟨i, q, hi, rfl, rfl, hq0, hq1, hq2, HR⟩ := hrel
    by_cases hlt : i < n
    · obtain ⟨p, hp⟩ := some_at (l := l) (i := i) (by rw [← HN.out]; exact hlt)
      obtain ⟨g, off, rfl, -, g1, g2, g3⟩ := (H.out.below HR.out) i p hp
      have hpc := HC.out p (List.mem_of_getElem? hp)
      obtain ⟨x, y, z⟩ := p
      obtain ⟨hx0, hx1, hy0, hy1⟩ := hpc
      simp only at g1 g2 g3 hx0 hx1 hy0 hy1
      clear hp
      by_cases h0 : q < 0
      · clear hq2
        by_cases h1 : -9223372036854775808 ≤ q - y
        · go_wp2_with fail
          go_roundw
          case rel => exact ⟨i + 1, q - y, by omega, by go_num, rfl, by omega, by omega, .inl (by omega), bl_alloc HR.out _⟩
          case measure => simp [intOf]; omega
        · have hw : wrap64 (q - y) = q - y + 18446744073709551616 := by unfold wrap64; omega
          go_wp2_with fail
          go_roundw
          case rel => exact ⟨i + 1, q - y + 18446744073709551616, by omega, by go_num, by first | rfl | rw [hw], by omega, by omega, .inr (by omega), bl_alloc HR.out _⟩
          case measure => simp [intOf]; omega
      · have h1 : ¬ q < y := by omega
        have h2 : 9223372036854775807 - 65534 * (i : Int) ≤ q := by omega
        have h3 : 0 ≤ q := by omega
        clear hq2
        go_wp2_with fail
        go_roundw
        case rel => exact ⟨i + 1, q - y, by omega, by go_num, rfl, by omega, by omega, .inr (by omega), bl_alloc HR.out _⟩
        case measure => simp [intOf]; omega
    · obtain rfl : i = n := by omega
      clear hq2
      go_wp2_with fail
      go_ret2
      exact ⟨rfl, HR.out⟩
theorem find_all {w : World} {A B : Option Addr} {l : List Tri} (h : TR w B l) (ln ca c : Nat) (hl : l.length ≤ 65534) (hc : ∀ t ∈ l, 0 ≤ t.1 ∧ t.1 ≤ 65534 ∧ 0 ≤ t.2.1 ∧ t.2.1 ≤ 65534) (k : Int) (hk : -9223372036854775808 ≤ k ∧ k ≤ 9223372036854775807) :
    Calls Tryz.prog 46 #[.agg #[.slice A ln ca, .slice B l.length c], .int .i64 k] w fun e w' => e = .returned (.tuple #[.int .i64 (findF l 0 k).1, .int .i64 (findF l 0 k).2]) ∧ Below w.heap.size w w' := by
  by_cases h0 : k < 0
  · rw [findF_neg l 0 k (fun t ht => (hc t ht).2.2.1) h0]
    exact find_low h ln ca c hl hc k ⟨hk.1, h0⟩
  · exact find_ h ln ca c hl hc k ⟨by omega, hk.2⟩

end Go.Proofs.YtgnagbbdnlmgeaaGreat.Tr
end

/- ChainReads: the walk. -/
section
set_option linter.unusedVariables false
set_option linter.unusedSimpArgs false
set_option maxHeartbeats 4000000
set_option maxRecDepth 100000
namespace Go.Proofs.YtgnagbbdnlmgeaaGreat.Hr
open Go Go.RowKit
open Go.Proofs.YtgnagbbdnlmgeaaGreat.Rr Go.Proofs.YtgnagbbdnlmgeaaGreat.Ob Go.Proofs.YtgnagbbdnlmgeaaGreat.Ba Go.Proofs.YtgnagbbdnlmgeaaGreat.Ko Go.Proofs.YtgnagbbdnlmgeaaGreat.Ge Go.Proofs.YtgnagbbdnlmgeaaGreat.Oc Go.Proofs.YtgnagbbdnlmgeaaGreat.Pk Go.Proofs.YtgnagbbdnlmgeaaGreat.Su Go.Proofs.YtgnagbbdnlmgeaaGreat.Rf Go.Proofs.YtgnagbbdnlmgeaaGreat.Dv Go.Proofs.YtgnagbbdnlmgeaaGreat.Vo Go.Proofs.YtgnagbbdnlmgeaaGreat.Ra Go.Proofs.YtgnagbbdnlmgeaaGreat.Jh Go.Proofs.YtgnagbbdnlmgeaaGreat.Ho Go.Proofs.YtgnagbbdnlmgeaaGreat.Tr

theorem blocks_len : ∀ (T : List Tri), sumR (runsOf T) = ((blocksOf T).length : Int)
  | [] => rfl
  | t :: r => by
    have h := blocks_len r
    have e1 : blocksOf (t :: r) = run1 t.1 t.2.1.toNat ++ blocksOf r := rfl
    have e2 : sumR (runsOf (t :: r)) = max 0 t.2.1 + sumR (runsOf r) := rfl
    rw [e1, e2, h, List.length_append, run1_len]
    omega
theorem find_out : ∀ (T : List Tri) (i k : Int), (∀ t ∈ T, 0 ≤ t.2.1) → (k < 0 ∨ ((blocksOf T).length : Int) ≤ k) → findF T i k = (-1, -1)
  | [], _, _, _, _ => rfl
  | t :: r, i, k, h, hk => by
    have h0 := h t (by simp)
    have e1 : blocksOf (t :: r) = run1 t.1 t.2.1.toNat ++ blocksOf r := rfl
    rw [e1, List.length_append, run1_len] at hk
    unfold findF
    rw [if_neg (by omega)]
    exact find_out r _ _ (fun x hx => h x (by simp [hx])) (by omega)
theorem find_in : ∀ (T : List Tri) (i : Int) (k : Nat), (∀ t ∈ T, 0 ≤ t.2.1) → k < (blocksOf T).length → ∃ (p : Nat) (t : Tri) (r : Int), T[p]? = some t ∧ findF T i k = (i + p, t.1 + r) ∧ 0 ≤ r ∧ r < t.2.1 ∧ (blocksOf T)[k]? = some (t.1 + r)
  | [], _, _, _, hk => by simp [blocksOf] at hk
  | t :: r, i, k, h, hk => by
    have h0 := h t (by simp)
    have e1 : blocksOf (t :: r) = run1 t.1 t.2.1.toNat ++ blocksOf r := rfl
    rw [e1, List.length_append, run1_len] at hk
    by_cases hlt : (k : Int) < t.2.1
    · refine ⟨0, t, k, rfl, ?_, by omega, hlt, ?_⟩
      · unfold findF
        rw [if_pos ⟨by omega, hlt⟩]
        simp
      · rw [e1, List.getElem?_append_left (by rw [run1_len]; omega)]
        unfold run1
        rw [List.getElem?_map, List.getElem?_range (by omega)]
        rfl
    · obtain ⟨k', hk'⟩ : ∃ k' : Nat, k = t.2.1.toNat + k' := ⟨k - t.2.1.toNat, by omega⟩
      obtain ⟨p, u, x, h1, h2, h3, h4, h5⟩ := find_in r (i + 1) k' (fun x hx => h x (by simp [hx])) (by omega)
      refine ⟨p + 1, u, x, h1, ?_, h3, h4, ?_⟩
      · unfold findF
        rw [if_neg (by omega), show (k : Int) - t.2.1 = (k' : Int) by omega, h2, show i + 1 + (p : Int) = i + ((p + 1 : Nat) : Int) by omega]
      · rw [e1, hk', List.getElem?_append_right (by rw [run1_len]; omega), run1_len, show t.2.1.toNat + k' - t.2.1.toNat = k' by omega]
        exact h5

theorem walk (r0 r1 r2 : Nat) (h0 : r0 < 256) (h1 : r1 < 256) (h2 : r2 < 256) {A : Option Addr} {l : List Nat} (c : Nat) {w : World} (h : Rk .u64 w A (ints l)) (hlw : ∀ x ∈ l, x < 18446744073709551616) (hl9 : l.length ≤ 9223372036854775807) (hd k : Int) (hk9 : -9223372036854775808 ≤ k ∧ k ≤ 9223372036854775807) :
    Calls Tryz.prog 7 #[.agg #[.int .u8 r0, .int .u8 r1, .int .u8 r2, .slice A l.length c], .int .i64 hd, .int .i64 k] w fun e w' => e = .returned (.bool true) ∧ Below w.heap.size w w' := by
  have hu := Tryz.underlying30
  have hu2 := Tryz.underlying82
  have hu3 := Tryz.underlying100
  have hu4 := Tryz.underlying54
  have hu5 := Tryz.underlying93
  obtain ⟨n, m, s, T, p3, p4, p5, ws, hi⟩ := im_ r0 r1 r2 l hlw
  have HO : Hid (∀ {W : World}, Rk .u64 W A (ints l) → _) := fun {W} hW => open16N h0 h1 h2 hi c hl9 (w := W) hW
  obtain ⟨L, hL⟩ : ∃ L, L = (chainF n (slF ws n m) n hd).getD [] := ⟨_, rfl⟩
  obtain ⟨ok, hok⟩ : ∃ ok, ok = (chainF n (slF ws n m) n hd).isSome := ⟨_, rfl⟩
  obtain ⟨e1, he1⟩ : ∃ e1 : Int, e1 = if ok then 0 else 2 := ⟨_, rfl⟩
  obtain ⟨N, hN⟩ : ∃ N, N = L.length := ⟨_, rfl⟩
  obtain ⟨TT, hTT⟩ : ∃ TT, TT = L.map Prod.snd := ⟨_, rfl⟩
  have HRD : Hid (∀ {W : World} {v b : Nat} {g : Lay}, VolIs W v b n m s (Pm.devOf (ints ws)) g → Calls Tryz.prog 34 #[.pointer (some ⟨v, 0, none⟩), .int .i64 hd] W fun o w' => ∃ A c B d, o = .returned (.tuple #[.agg #[.slice A N c, .slice B N d], .int .i64 e1]) ∧ Rk .i64 w' A (L.map Prod.fst) ∧ TR w' B TT ∧ Below W.heap.size W w') := fun {W} {v} {b} {g} hv => by
    refine (read_ hv (Vs.words_devOf _) hi.lt (by rw [hi.len]; exact hi.fit) (by have := hi.n2; omega) hd).mono ?_
    rintro o w' ⟨hso, hno, hb⟩
    cases hc : chainF n (slF ws n m) n hd with
    | none =>
      rw [hc] at hL hok
      obtain rfl : L = [] := hL
      obtain rfl : ok = false := hok
      rw [hno hc, hN, hTT, he1]
      exact ⟨none, 0, none, 0, rfl, Rk.nil _ _ _, fun i p hi => by simp at hi, hb⟩
    | some M =>
      rw [hc] at hL hok
      obtain rfl : L = M := hL
      obtain rfl : ok = true := hok
      obtain ⟨A, c, B, d, he, h1, h2⟩ := hso _ hc
      rw [hN, hTT, he1]
      exact ⟨A, c, B, d, he, (own_rk (k := .i64) h1).1, (own_tr h2).1, hb⟩
  have HRR : Hid (∀ {W : World} {a8 : Addr} {c8 : Nat}, Rk .u64 W (some a8) (ints ws) → T ≤ c8 → Calls Tryz.prog 43 #[.agg #[.int .i64 n, .int .i64 m, .int .i64 s, .int .i64 16, .int .i64 (16 + 8 * (m : Int)), .int .i64 p3, .int .i64 p4, .int .i64 p5, .slice (some a8) T c8], .int .i64 hd] W fun o w' => ∃ A c B d, o = .returned (.tuple #[.agg #[.slice A N c, .slice B N d], .bool ok]) ∧ Rk .i64 w' A (L.map Prod.fst) ∧ TR w' B TT ∧ Below W.heap.size W w') := fun {W} {a8} {c8} hr hc8 => by
    refine (rread_ hr hi.len hc8 hi.lt (by have := hi.T2; omega) hi.fit s p3 p4 p5 hd).mono ?_
    rintro o w' ⟨hso, hno, hb⟩
    cases hc : chainF n (slF ws n m) n hd with
    | none =>
      rw [hc] at hL hok
      obtain rfl : L = [] := hL
      obtain rfl : ok = false := hok
      rw [hno hc, hN, hTT]
      exact ⟨none, 0, none, 0, rfl, Rk.nil _ _ _, fun i p hi => by simp at hi, hb⟩
    | some M =>
      rw [hc] at hL hok
      obtain rfl : L = M := hL
      obtain rfl : ok = true := hok
      obtain ⟨A, c, B, d, he, h1, h2⟩ := hso _ hc
      rw [hN, hTT]
      exact ⟨A, c, B, d, he, (own_rk (k := .i64) h1).1, (own_tr h2).1, hb⟩
  have hN20 : N ≤ 20 := by
    have := hi.n2
    cases hc : chainF n (slF ws n m) n hd with
    | none => rw [hc] at hL; obtain rfl : L = [] := hL; rw [hN]; simp
    | some M => rw [hc] at hL; obtain rfl : L = M := hL; have := chainF_len n hd L hc; omega
  have HTT : Hid (TT.length = N ∧ ∀ t ∈ TT, 0 ≤ t.1 ∧ t.1 ≤ 65534 ∧ 0 ≤ t.2.1 ∧ t.2.1 ≤ 65534) := by
    refine ⟨by rw [hTT, List.length_map, hN], fun t ht => ?_⟩
    rw [hTT] at ht
    obtain ⟨y, hy, rfl⟩ := List.mem_map.1 ht
    cases hc : chainF n (slF ws n m) n hd with
    | none => rw [hc] at hL; obtain rfl : L = [] := hL; cases hy
    | some M =>
      rw [hc] at hL
      obtain rfl : L = M := hL
      obtain ⟨i, hil, rfl⟩ := List.mem_iff_getElem.1 hy
      obtain ⟨-, h2, -, -⟩ := chainF_at n hd L hc i _ (List.getElem?_eq_getElem hil)
      have := of_decide_eq_true (slF_may h2).1
      omega
  have HLF : Hid ((L.map Prod.fst).length = N) := by show _ = _; rw [List.length_map, hN]
  have HE1 : Hid ((ok = true ∧ e1 = 0) ∨ (ok = false ∧ e1 = 2)) := by
    show _ ∨ _
    cases ok with
    | true => exact .inl ⟨rfl, he1⟩
    | false => exact .inr ⟨rfl, he1⟩
  generalize L.map Prod.fst = LF at *
  clear hL hok he1 hN hTT
  have HI := Lib.hid hi
  have H := Lib.hid h
  obtain ⟨len, hle⟩ : ∃ len, len = l.length := ⟨_, rfl⟩
  rw [← hle] at HO
  rw [← hle]
  obtain ⟨BL, hBL⟩ : ∃ BL, BL = blocksOf TT := ⟨_, rfl⟩
  obtain ⟨nb, hnb⟩ : ∃ nb, nb = BL.length := ⟨_, rfl⟩
  obtain ⟨f1, hf1⟩ : ∃ f1, f1 = (findF TT 0 k).1 := ⟨_, rfl⟩
  obtain ⟨f2, hf2⟩ : ∃ f2, f2 = (findF TT 0 k).2 := ⟨_, rfl⟩
  have hnb9 : nb ≤ 1310680 := by
    have h9 := sumR_in (runsOf TT) (fun p hp => by
      simp only [runsOf, List.mem_map] at hp
      obtain ⟨t, ht, rfl⟩ := hp
      exact (HTT.out.2 t ht).2.2.2)
    rw [blocks_len] at h9
    have e9 : (runsOf TT).length = N := by simp [runsOf, HTT.out.1]
    rw [e9, ← hBL, ← hnb] at h9
    omega
  clear h hlw hl9 hi h0 h1 h2 hle
  go_enter Tryz.func7, Tryz.ntmps7
  go_wp2_with fail
  refine (lives16 _).mono ?_
  rintro e w1 ⟨rfl, hb1⟩
  have hqr := blk_bl (alloc_new w (.cells #[.int .u8 r0, .int .u8 r1, .int .u8 r2, .slice A len c] 24)) hb1
  have HB1 := Lib.hid (bl_then (bl_alloc (Below.refl _ _) _) hb1)
  have a0 := cell_of hqr 0
  have a1 := cell_of hqr 1
  have a2 := cell_of hqr 2
  have a3 := cell_of hqr 3
  clear hqr hb1
  go_wp2_with fail
  refine (HO.out (H.out.below HB1.out)).mono ?_
  rintro e w2 ⟨v, b, g, a8, c8, rfl, hop⟩
  unfold volA
  obtain ⟨W2, hW2⟩ : ∃ W2, W2 = w2.alloc (.cells #[.int .i64 n, .int .i64 m, .int .i64 s, .int .i64 16, .int .i64 (16 + 8 * m), .int .i64 p3, .int .i64 p4, .int .i64 p5, .slice (some a8) T c8] 30) := ⟨_, rfl⟩
  have hbw : Below w2.heap.size w2 W2 := by rw [hW2]; exact bl_alloc (Below.refl _ _) _
  have HQ2 : Hid (W2.heap[w2.heap.size]? = some (.cells #[.int .i64 n, .int .i64 m, .int .i64 s, .int .i64 16, .int .i64 (16 + 8 * m), .int .i64 p3, .int .i64 p4, .int .i64 p5, .slice (some a8) T c8] 30 (0, 0))) := by rw [hW2]; exact alloc_new _ _
  have HV2 := Lib.hid (hop.vol.below hbw)
  have HB2 := Lib.hid (bl_then (bl_then HB1.out hop.below) hbw)
  have HR2 := Lib.hid (And.intro (hop.row.below hbw) hop.cap)
  clear a0 a1 a2 a3 hop hbw
  go_wp2_with fail
  rw [← hW2]
  clear hW2
  generalize w2.heap.size = q2 at *
  refine (HRD.out HV2.out).mono ?_
  rintro e w3 ⟨A3, c3, B3, d3, rfl, hr3, ht3, hb3⟩
  obtain ⟨W3, hW3⟩ : ∃ W3, W3 = w3.alloc (.cells #[.slice A3 N c3, .slice B3 N d3] 82) := ⟨_, rfl⟩
  have hbw : Below w3.heap.size w3 W3 := by rw [hW3]; exact bl_alloc (Below.refl _ _) _
  have HQ3 : Hid (W3.heap[w3.heap.size]? = some (.cells #[.slice A3 N c3, .slice B3 N d3] 82 (0, 0))) := by rw [hW3]; exact alloc_new _ _
  have HB3 := Lib.hid (bl_then hb3 hbw)
  have HX3 := Lib.hid (And.intro (hr3.below hbw) (ht3.below hbw))
  have hq2 := blk_bl HQ2.out HB3.out
  rw [hW3] at hq2
  have m0 := cell_of hq2 0
  have m1 := cell_of hq2 1
  have m2 := cell_of hq2 2
  have m3 := cell_of hq2 3
  have m4 := cell_of hq2 4
  have m5 := cell_of hq2 5
  have m6 := cell_of hq2 6
  have m7 := cell_of hq2 7
  have m8 := cell_of hq2 8
  clear hr3 ht3 hb3 hbw hq2
  go_wp2_with fail
  rw [← hW3]
  clear hW3
  generalize w3.heap.size = q3 at *
  refine (HRR.out (HR2.out.1.below HB3.out) HR2.out.2).mono ?_
  rintro e w4 ⟨A4, c4, B4, d4, rfl, hr4, ht4, hb4⟩
  obtain ⟨W4, hW4⟩ : ∃ W4, W4 = w4.alloc (.cells #[.slice A4 N c4, .slice B4 N d4] 100) := ⟨_, rfl⟩
  have hbw : Below w4.heap.size w4 W4 := by rw [hW4]; exact bl_alloc (Below.refl _ _) _
  have hq4 : W4.heap[w4.heap.size]? = some (.cells #[.slice A4 N c4, .slice B4 N d4] 100 (0, 0)) := by rw [hW4]; exact alloc_new _ _
  have HB4 : Hid (Below w.heap.size w W4) := bl_then (bl_then HB2.out HB3.out) (bl_then hb4 hbw)
  have HC4 := Lib.hid (bl_then hb4 hbw)
  have hq3 := blk_bl HQ3.out HC4.out
  have HCL : Hid (∀ {W : World}, Below W4.heap.size W4 W → W.cell? ⟨q3, 0, none⟩ = some (.slice A3 N c3) ∧ W.cell? ⟨q3, 1, none⟩ = some (.slice B3 N d3) ∧ W.cell? ⟨w4.heap.size, 0, none⟩ = some (.slice A4 N c4) ∧ W.cell? ⟨w4.heap.size, 1, none⟩ = some (.slice B4 N d4)) := fun {W} hb =>
    ⟨cell_of (blk_bl hq3 hb) 0, cell_of (blk_bl hq3 hb) 1, cell_of (blk_bl hq4 hb) 0, cell_of (blk_bl hq4 hb) 1⟩
  have HX4 : Hid (Rk .i64 W4 A3 LF ∧ TR W4 B3 TT ∧ Rk .i64 W4 A4 LF ∧ TR W4 B4 TT) := ⟨HX3.out.1.below HC4.out, HX3.out.2.below HC4.out, hr4.below hbw, ht4.below hbw⟩
  have hSM := same16_ HX4.out.1 HX4.out.2.1 HX4.out.2.2.1 HX4.out.2.2.2 c3 d3 c4 d4 (by rw [HLF.out]; omega) (by rw [HTT.out.1]; omega)
  rw [HLF.out, HTT.out.1] at hSM
  have HSM := Lib.hid hSM
  have HRB : Hid (∀ {W : World}, Below W4.heap.size W4 W → Calls Tryz.prog 45 #[.agg #[.slice A4 N c4, .slice B4 N d4]] W fun e w' => ∃ A c, e = .returned (.slice A nb c) ∧ Rk .i64 w' A BL ∧ Below W.heap.size W w') := fun {W} hb => by
    have h9 := rblocks_ (A := A4) (HX4.out.2.2.2.below hb) N c4 d4 (by rw [HTT.out.1]; omega) HTT.out.2
    rw [HTT.out.1, ← hBL, ← hnb] at h9
    refine h9.mono ?_
    rintro e w' ⟨v', rfl, ho, hb'⟩
    obtain ⟨A, c, rfl⟩ := own_slice ho
    exact ⟨A, c, rfl, (own_rk (k := .i64) ho).1, hb'⟩
  have HBK : Hid (∀ {W : World}, Below W4.heap.size W4 W → Calls Tryz.prog 47 #[.agg #[.slice A3 N c3, .slice B3 N d3]] W fun e w' => ∃ A c, e = .returned (.slice A nb c) ∧ Rk .i64 w' A BL ∧ Below W.heap.size W w') := fun {W} hb => by
    have h9 := blocks_ (A := A3) (HX4.out.2.1.below hb) N c3 d3 (by rw [HTT.out.1]; omega) HTT.out.2
    rw [HTT.out.1, ← hBL, ← hnb] at h9
    refine h9.mono ?_
    rintro e w' ⟨v', rfl, ho, hb'⟩
    obtain ⟨A, c, rfl⟩ := own_slice ho
    exact ⟨A, c, rfl, (own_rk (k := .i64) ho).1, hb'⟩
  have HFD : Hid (∀ {W : World}, Below W4.heap.size W4 W → Calls Tryz.prog 46 #[.agg #[.slice A3 N c3, .slice B3 N d3], .int .i64 k] W fun e w' => e = .returned (.tuple #[.int .i64 f1, .int .i64 f2]) ∧ Below W.heap.size W w') := fun {W} hb => by
    have h9 := find_all (A := A3) (HX4.out.2.1.below hb) N c3 d3 (by rw [HTT.out.1]; omega) HTT.out.2 k hk9
    rw [HTT.out.1, ← hf1, ← hf2] at h9
    exact h9
  have HRU : Hid (∀ {W : World}, Below W4.heap.size W4 W → Calls Tryz.prog 40 #[.agg #[.slice A3 N c3, .slice B3 N d3]] W fun e w' => ∃ D cd, e = .returned (.slice D N cd) ∧ RR w' D (runsOf TT) ∧ Below W.heap.size W w') := fun {W} hb => by
    have h9 := runs_ (A := A3) (HX4.out.2.1.below hb) N c3 d3 (by rw [HTT.out.1]; omega)
    rw [HTT.out.1] at h9
    refine h9.mono ?_
    rintro e w' ⟨v', rfl, ho, hb'⟩
    obtain ⟨D, cd, rfl⟩ := own_slice ho
    exact ⟨D, cd, rfl, (own_rr ho).1, hb'⟩
  have HCN : Hid (∀ {W : World}, Below W4.heap.size W4 W → Calls Tryz.prog 42 #[.agg #[.slice A3 N c3, .slice B3 N d3]] W fun e w' => e = .returned (.int .i64 (nb : Int)) ∧ Below W.heap.size W w') := fun {W} hb => by
    have h9 := count_ (A := A3) (HX4.out.2.1.below hb) N c3 d3 (by rw [HTT.out.1]; omega) (fun t ht => (HTT.out.2 t ht).2.2.2)
    rw [HTT.out.1, blocks_len, ← hBL, ← hnb] at h9
    exact h9
  have HS2 : Hid (∀ {W : World} {A A' : Option Addr} (c c' : Nat), Rk .i64 W A BL → Rk .i64 W A' BL → Calls Tryz.prog 35 #[.slice A nb c, .slice A' nb c'] W fun e w' => e = .returned (.bool true) ∧ Below W.heap.size W w') := fun {W} {A} {A'} c c' g1 g2 => by
    have h9 := rsame_ g1 g2 c c' (by omega) (by omega)
    rw [decide_eq_true rfl, ← hnb] at h9
    refine h9.mono ?_
    rintro e w' ⟨rfl, q, rfl⟩
    exact ⟨rfl, bl_drewN (Below.refl _ _) q⟩
  have HFO : Hid ((k < 0 ∨ (nb : Int) ≤ k) → f1 = -1 ∧ f2 = -1) := fun h9 => by
    have := find_out TT 0 k (fun t ht => (HTT.out.2 t ht).2.2.1) (by rw [← hBL, ← hnb]; exact h9)
    rw [hf1, hf2, this]
    exact ⟨rfl, rfl⟩
  have HFN : Hid (∀ k' : Nat, k = (k' : Int) → k' < nb → ∃ (p : Nat) (t : Tri) (r : Int), TT[p]? = some t ∧ f1 = (p : Int) ∧ f2 = t.1 + r ∧ 0 ≤ r ∧ r < t.2.1 ∧ BL[k']? = some (t.1 + r)) := fun k' hk hlt => by
    obtain ⟨p, t, r, g1, g2, g3, g4, g5⟩ := find_in TT 0 k' (fun t ht => (HTT.out.2 t ht).2.2.1) (by rw [← hBL, ← hnb]; exact hlt)
    rw [← hk] at g2
    refine ⟨p, t, r, g1, by rw [hf1, g2]; simp, by rw [hf2, g2], g3, g4, by rw [hBL]; exact g5⟩
  obtain ⟨hk8, hk7⟩ := hk9
  obtain ⟨k0, k1, k2, k3⟩ := HCL.out (Below.refl _ _)
  have k0' := HCL.out (W := w4.alloc (.cells #[.slice A4 N c4, .slice B4 N d4] 100)) (by rw [← hW4]; exact Below.refl _ _)
  obtain ⟨j0, j1, j2, j3⟩ := k0'
  have HBL : Hid (BL.length = nb) := hnb.symm
  clear hr4 ht4 hb4 hbw hq4 hq3 hSM hBL hnb hf1 hf2 m0 m1 m2 m3 m4 m5 m6 m7 m8
  go_wp2_with fail
  rw [← hW4]
  clear hW4 j0 j1 j2 j3 k0 k1 k2 k3
  generalize w4.heap.size = q4 at *
  refine HSM.out.mono ?_
  rintro e w5 ⟨rfl, hb5⟩
  have HB5 := Lib.hid hb5
  clear hb5
  have hnn : ((nb : Int) != (nb : Int)) = false := by simp
  have hNN : ((N : Int) != (N : Int)) = false := by simp
  obtain ⟨k0, k1, k2, k3⟩ := HCL.out HB5.out
  rcases HE1.out with ⟨rfl, rfl⟩ | ⟨rfl, rfl⟩
  all_goals
    go_wp2_with (first | (go_at_call 45; refine (HRB.out HB5.out).mono ?_; rintro e w6 ⟨A6, c6, rfl, hr6, hb6⟩; (have HR6 := Lib.hid hr6); (have HB6 := Lib.hid (bl_then HB5.out hb6)); (obtain ⟨n0, n1, n2, n3⟩ := HCL.out HB6.out); clear hr6 hb6) |
      (go_at_call 46; refine (HFD.out HB6.out).mono ?_; rintro e w7 ⟨rfl, hb7⟩; (have HB7 := Lib.hid (bl_then HB6.out hb7)); (have HR7 := Lib.hid (HR6.out.below hb7)); (obtain ⟨o0, o1, o2, o3⟩ := HCL.out HB7.out); clear hb7) |
      (go_at_call 40; refine (HRU.out HB7.out).mono ?_; rintro e w8 ⟨A8, c8', rfl, hr8, hb8⟩; (have HRU8 := Lib.hid hr8); (have HB8 := Lib.hid (bl_then HB7.out hb8)); (have HR8 := Lib.hid (HR7.out.below hb8)); (obtain ⟨x0, x1, x2, x3⟩ := HCL.out HB8.out); clear hr8 hb8) |
      (go_at_call 47; refine (HBK.out HB8.out).mono ?_; rintro e w9 ⟨A9, c9, rfl, hr9, hb9⟩; (have HRB9 := Lib.hid hr9); (have HB9 := Lib.hid (bl_then HB8.out hb9)); (have HR9 := Lib.hid (HR8.out.below hb9)); (have HRU9 := Lib.hid (HRU8.out.below hb9)); (obtain ⟨y0, y1, y2, y3⟩ := HCL.out HB9.out); clear hr9 hb9) |
      (go_at_call 35; refine (HS2.out _ _ HRB9.out HR9.out).mono ?_; rintro e w10 ⟨rfl, hb10⟩; (have HB10 := Lib.hid (bl_then HB9.out hb10)); (have HR10 := Lib.hid (HR9.out.below hb10)); (have HRU10 := Lib.hid (HRU9.out.below hb10)); (obtain ⟨z0, z1, z2, z3⟩ := HCL.out HB10.out); clear hb10) |
      (go_at_call 42; refine (HCN.out HB10.out).mono ?_; rintro e w11 ⟨rfl, hb11⟩; (have HB11 := Lib.hid (bl_then HB10.out hb11)); (have HR11 := Lib.hid (HR10.out.below hb11)); (have HRU11 := Lib.hid (HRU10.out.below hb11)); (obtain ⟨u0', u1', u2', u3'⟩ := HCL.out HB11.out); clear hb11))
    clear k0 k1 k2 k3 n0 n1 n2 n3 o0 o1 o2 o3 x0 x1 x2 x3 y0 y1 y2 y3 z0 z1 z2 z3 u0' u1' u2' u3' hnn hNN
    go_loopw [91] (fun c91 wr => ∃ i : Nat, i ≤ N ∧ c91 = .int .i64 i ∧ Hid (Below w11.heap.size w11 wr)) (fun c91 _ => N - (intOf c91).toNat)
    case atStart => exact ⟨0, Nat.zero_le _, rfl, Below.refl _ _⟩
    case round =>
      obtain ⟨i, hi, rfl, HB⟩ := hrel
      have HBA : Hid (Below W4.heap.size W4 wr) := bl_then HB11.out HB.out
      by_cases hlt : i < N
      · obtain ⟨t, ht⟩ := some_at (l := TT) (i := i) (by rw [HTT.out.1]; exact hlt)
        have ht2 : (runsOf TT)[i]? = some (t.1, t.2.1) := by unfold runsOf; rw [List.getElem?_map, ht]; rfl
        obtain ⟨qa, oa, rfl, -, a1, a2, a3⟩ := (HX4.out.2.2.2.below HBA.out) i t ht
        obtain ⟨qb, ob, rfl, hqb, b1, b2⟩ := (HRU11.out.below HB.out) i _ ht2
        obtain ⟨x, y, z⟩ := t
        simp only at a1 a2 a3 b1 b2
        clear ht ht2
        have HBW : Hid (Below w11.heap.size w11 (wr.alloc (.cells #[.int .i64 x, .int .i64 y, .int .i64 z] 54))) := bl_alloc HB.out _
        go_wp2_with fail
        go_quiet (fail)
        go_wp2_with fail
        go_roundw
        case rel => exact ⟨i + 1, by omega, by go_num, bl_drewN HBW.out _⟩
        case measure => simp [intOf]; omega
      · have hlt2 : ¬ i < N := hlt
        clear hi hlt
        have HFI : Hid (Below w.heap.size w wr) := bl_then HB4.out HBA.out
        by_cases hk0 : k < 0
        · obtain ⟨rfl, rfl⟩ := HFO.out (.inl hk0)
          have hlt : ¬ i < N := hlt2
          go_wp2_with fail
          go_ret
          exact ⟨rfl, HFI.out⟩
        by_cases hk1 : (nb : Int) ≤ k
        · obtain ⟨rfl, rfl⟩ := HFO.out (.inr hk1)
          have hlt : ¬ i < N := hlt2
          go_wp2_with fail
          go_ret
          exact ⟨rfl, HFI.out⟩
        obtain ⟨k', rfl⟩ : ∃ k' : Nat, k = k' := ⟨k.toNat, by omega⟩
        have hkn : k' < nb := by omega
        obtain ⟨p, t, r, g1, rfl, g3, g4, g5, g6⟩ := HFN.out k' rfl hkn
        obtain ⟨a6, rfl, -, cb⟩ := (HR11.out.below HB.out) k' _ g6
        obtain ⟨qa, oa, rfl, -, a1, a2, -⟩ := (HX4.out.2.2.2.below HBA.out) p t g1
        obtain ⟨-, -, v2, v3⟩ := HCL.out HBA.out
        have hpl : p < N := by
          have := (List.getElem?_eq_some_iff.1 g1).1
          rw [HTT.out.1] at this
          exact this
        have htb := HTT.out.2 t (List.mem_of_getElem? g1)
        obtain ⟨x, y, z⟩ := t
        simp only at a1 a2 cb g3 g4 g5 htb
        obtain ⟨h1, h2, h3, h4⟩ := htb
        rw [← g3] at cb
        have c1 : x ≤ f2 := by omega
        have c2 : f2 - x < y := by omega
        have c3 : IntKind.i64.wrap (f2 - x) = f2 - x := Jd.wi64 _ (by omega) (by omega)
        have c4 : (p : Int) < (N : Int) := by omega
        have c5 : (k' : Int) < (nb : Int) := by omega
        have c6 : (0 : Int) ≤ (k' : Int) := by omega
        have c7 : (0 : Int) ≤ (p : Int) := by omega
        have hlt : ¬ i < N := hlt2
        clear g1 g3 g4 g5 g6 r
        go_wp2_with fail
        go_quiet (fail)
        go_wp2_with fail
        go_ret
        exact ⟨rfl, bl_drewN HFI.out _⟩

end Go.Proofs.YtgnagbbdnlmgeaaGreat.Hr
end
