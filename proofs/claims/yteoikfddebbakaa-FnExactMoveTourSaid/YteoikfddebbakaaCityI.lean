/-
  Cities: the program's checks and the reference's.
-/
import Derived.Test.YteoikfddebbakaaCityP
namespace Go.Proofs.Yteoikfddebbakaa
open Go.RowKit
set_option linter.unusedVariables false
set_option maxRecDepth 100000

def citI (L : Nat) : Int := if root L = 0 then -1 else (root L : Int)
theorem sq_mono {a b : Nat} (h : a ≤ b) : a * a ≤ b * b := Nat.mul_self_le_mul_self h
theorem prod_nat (i n : Nat) : (i : Int) * (n : Int) = ((i * n : Nat) : Int) := by simp
theorem prod_le {i n : Nat} (hi : i ≤ 10) (hn : n ≤ 10) : i * n ≤ 100 := Nat.mul_le_mul hi hn
theorem wrap_nat {q : Nat} (h : q ≤ 1048576) : IntKind.i64.wrap (q : Int) = (q : Int) := IntWalk.i64_in _ (by omega)
theorem wrap_sum {q k : Nat} (h : q ≤ 1048576) (g : k ≤ 1048576) : IntKind.i64.wrap ((q : Int) + (k : Int)) = (q : Int) + (k : Int) := IntWalk.i64_in _ (by omega)
set_option maxHeartbeats 400000 in
set_option maxRecDepth 100000 in
theorem cities_any {l h : Nat} (v : Value) (ws : List Int) (w : World) (hv : Ints w l h v ws) (hz : ws.length ≤ 1048576) :
    Calls Try.prog 73 #[v] w fun e w' => e = .returned (.int .i64 (citI ws.length)) ∧ w = w' := by
  obtain ⟨a, cap, rfl, hc1, hc2, _⟩ := hv.out
  obtain ⟨L, hL⟩ : ∃ L, L = ws.length := ⟨_, rfl⟩
  rw [← hL] at hz hc1 ⊢
  clear hL hv
  go_enter Try.func73, Try.ntmps73
  go_wp2_with fail
  go_loop [3] (fun nv => ∃ m : Nat, 1 ≤ m ∧ m ≤ 11 ∧ nv = .int .i64 m ∧ Hid (∀ j, 1 ≤ j → j < m → j * j ≠ L)) (fun nv => 12 - (intOf nv).toNat)
  case atStart => exact ⟨1, by omega, by omega, rfl, fun j h1 h2 => by omega⟩
  case round =>
    obtain ⟨m, hm1, hm2, rfl, HN⟩ := hrel
    by_cases hlt : m ≤ 10
    · obtain ⟨s, hs⟩ : ∃ s, s = m * m := ⟨_, rfl⟩
      have hsq : (m : Int) * (m : Int) = (s : Int) := by rw [hs, prod_nat]
      have hs1 : s ≤ 100 := by rw [hs]; exact prod_le hlt hlt
      have HS := Lib.hid hs
      clear hs
      by_cases he : L = s
      · have HE : Hid (citI L = (m : Int)) := by
          have : root L = m := root_eq hm1 hlt (by rw [he, HS.out])
          rw [Hid, citI, this, if_neg (by omega)]
        have he1 : ((L : Int) == (s : Int)) = true := by simp; omega
        have he2 : (L == s) = true := by simp; omega
        clear he
        go_wp2_with (refine (size_any _ (by omega) _).mono ?_; rintro e w' ⟨rfl, rfl⟩)
        go_ret
        exact ⟨ret_int HE.out.symm, rfl⟩
      · have he1 : ((L : Int) == (s : Int)) = false := by simp; omega
        have he2 : (L == s) = false := by simp; omega
        go_wp2_with (refine (size_any _ (by omega) _).mono ?_; rintro e w' ⟨rfl, rfl⟩)
        go_round
        case rel =>
          refine ⟨m + 1, by omega, by omega, by go_num, fun j h1 h2 => ?_⟩
          by_cases hj : j = m
          · rw [hj, ← HS.out]; exact fun e => he e.symm
          · exact HN.out j h1 (by omega)
        case measure => (simp [intOf]; try omega)
    · have HE : Hid (citI L = -1) := by rw [Hid, citI, root_none (fun j h1 h2 => HN.out j h1 (by omega)), if_pos rfl]
      go_wp2
      go_ret
      exact ⟨ret_int HE.out.symm, rfl⟩
set_option maxHeartbeats 2000000 in
set_option maxRecDepth 100000 in
theorem areCities_any {l h : Nat} (v : Value) (ws : List Int) (w : World) (hv : Ints w l h v ws) (hz : ws.length ≤ 1048576) :
    Calls Try.prog 72 #[v] w fun e w' => e = .returned (.bool (isCit ws)) ∧ Drew w w' := by
  have HC := Lib.hid (cities_any v ws w hv hz)
  have HA := Lib.hid (allWithin_any l h v ws 0 1000 w hv)
  obtain ⟨va, cap, rfl, hc1, hc2, hd⟩ := hv.out
  by_cases hr : root ws.length = 0
  · have HE : Hid (isCit ws = false) := by rw [Hid, isCit, hr]; rfl
    have e1 : citI ws.length = -1 := by rw [citI, if_pos hr]
    rw [e1] at HC
    clear hv hd e1 hr
    go_enter Try.func72, Try.ntmps72
    go_wp2_with fail
    refine HC.out.mono ?_
    rintro e w' ⟨rfl, rfl⟩
    go_wp2
    go_ret
    exact ⟨ret_bool HE.out.symm, Drew.refl _⟩
  · obtain ⟨hsq, hn1, hn2⟩ := root_sq hr
    have e1 : citI ws.length = (root ws.length : Int) := by rw [citI, if_neg hr]
    rw [e1] at HC
    cases hal : ws.all (inB 0 1000)
    · rw [hal] at HA
      have HE : Hid (isCit ws = false) := by rw [Hid, isCit, hal]; simp
      obtain ⟨n, hn⟩ : ∃ n, n = root ws.length := ⟨_, rfl⟩
      rw [← hn] at HC hn1 hn2
      clear hv hd e1 hr hal hn hsq
      go_enter Try.func72, Try.ntmps72
      go_wp2_with fail
      refine HC.out.mono ?_
      rintro e w' ⟨rfl, rfl⟩
      go_wp2_with fail
      refine HA.out.mono ?_
      rintro e w' ⟨rfl, rfl⟩
      go_wp2
      go_ret
      exact ⟨ret_bool HE.out.symm, Drew.refl _⟩
    · rw [hal] at HA
      have HE : Hid (isCit ws = symW ws (root ws.length)) := by
        have : (root ws.length == 0) = false := by simpa using hr
        rw [Hid, isCit, hal, this]; simp
      rcases hd with hd | ⟨b, off, rfl, hb1, hb2, hb3, hcell⟩
      · exfalso; rw [hd] at hn1; exact absurd hn1 (by decide)
      have HCELL := Lib.hid hcell
      obtain ⟨n, hn⟩ : ∃ n, n = root ws.length := ⟨_, rfl⟩
      rw [← hn] at HC HE hn1 hn2 hsq
      have HSQ := Lib.hid hsq
      clear hv e1 hr hal hn hsq hcell
      go_enter Try.func72, Try.ntmps72
      go_wp2_with fail
      refine HC.out.mono ?_
      rintro e w' ⟨rfl, rfl⟩
      go_wp2_with fail
      refine HA.out.mono ?_
      rintro e w' ⟨rfl, rfl⟩
      go_wp2_with fail
      go_loopw [4] (fun iv wr => ∃ i : Nat, i ≤ n ∧ iv = .int .i64 i ∧ Hid (∀ i' k', i' < i → k' ≤ i' → okP ws n i' k' = true) ∧ Hid (Drew w wr)) (fun iv _ => n - (intOf iv).toNat)
      case atStart => exact ⟨0, Nat.zero_le _, rfl, fun i' k' h1 h2 => by omega, Drew.refl _⟩
      case round =>
        obtain ⟨i, hi, rfl, HI, HD⟩ := hrel
        by_cases hin : i < n
        · obtain ⟨wo, hwo⟩ : ∃ wo : World, wo = wr := ⟨_, rfl⟩
          rw [← hwo] at HD
          rw [← hwo]
          clear hwo
          go_wp2_with fail
          go_loopw [5] (fun kv wr => ∃ k : Nat, k ≤ i + 1 ∧ kv = .int .i64 k ∧ Hid (∀ k', k' < k → okP ws n i k' = true) ∧ Hid (Drew w wr)) (fun kv _ => i + 1 - (intOf kv).toNat)
          case atStart => exact ⟨0, Nat.zero_le _, rfl, fun k' h1 => by omega, HD⟩
          case round =>
            clear HD
            obtain ⟨k, hk, rfl, HK, HD⟩ := hrel
            by_cases hki : k ≤ i
            · have hq := pos_lt (n := n) (i := i) (k := k) hin (by omega)
              have hp := pos_lt (n := n) (i := k) (k := i) (by omega) hin
              rw [HSQ.out] at hq hp
              have c1 : wr.cell? ⟨b, off + (i * n + k), none⟩ = some (.int .i64 (ws.getD (i * n + k) 0)) := by rw [HD.out.cell]; exact HCELL.out _ hq
              have c2 : wr.cell? ⟨b, off + (k * n + i), none⟩ = some (.int .i64 (ws.getD (k * n + i) 0)) := by rw [HD.out.cell]; exact HCELL.out _ hp
              have HOK : Hid (okP ws n i k = ((ws.getD (i * n + k) 0 == ws.getD (k * n + i) 0) && (!(i == k) || ws.getD (i * n + k) 0 == 0))) := rfl
              have hp1 := prod_nat i n
              have hp2 := prod_nat k n
              have hq1 := prod_le (i := i) (n := n) (by omega) hn2
              have hq2 := prod_le (i := k) (n := n) (by omega) hn2
              obtain ⟨x, hx⟩ : ∃ x, x = ws.getD (i * n + k) 0 := ⟨_, rfl⟩
              obtain ⟨y, hy⟩ : ∃ y, y = ws.getD (k * n + i) 0 := ⟨_, rfl⟩
              rw [← hx] at c1 HOK
              rw [← hy] at c2 HOK
              obtain ⟨q, hqq⟩ : ∃ q, q = i * n := ⟨_, rfl⟩
              obtain ⟨p, hpp⟩ : ∃ p, p = k * n := ⟨_, rfl⟩
              rw [← hqq] at hq c1 hp1 hq1
              rw [← hpp] at hp c2 hp2 hq2
              clear hx hy hqq hpp
              have z1 : (q : Int) + (k : Int) < (ws.length : Int) := by omega
              have z2 : (p : Int) + (i : Int) < (ws.length : Int) := by omega
              have z3 : (0 : Int) ≤ (q : Int) + (k : Int) := by omega
              have z4 : (0 : Int) ≤ (p : Int) + (i : Int) := by omega
              by_cases hxy : x = y
              · subst hxy
                by_cases hik : i = k
                · subst hik
                  by_cases hx0 : x = 0
                  · subst hx0
                    have HT : Hid (okP ws n i i = true) := by rw [Hid, HOK.out]; simp
                    have v1 := wrap_sum (q := q) (k := i) (by omega) (by omega)
                    have v2 := wrap_nat (q := q) (by omega)
                    have v3 := wrap_nat (q := p) (by omega)
                    have v4 := wrap_sum (q := p) (k := i) (by omega) (by omega)
                    go_wp2_with fail
                    go_quiet (fail)
                    clear v1 v2 v3 v4 hp1 hp2
                    go_wp2
                    go_roundw
                    case rel =>
                      refine ⟨i + 1, by omega, by go_num, fun k' h' => ?_, HD.out.step _⟩
                      by_cases e : k' = i
                      · rw [e]; exact HT.out
                      · exact HK.out k' (by omega)
                    case measure => (simp [intOf]; try omega)
                  · have hx1 : (x == 0) = false := by simpa using hx0
                    have hx2 : (x != 0) = true := by simpa using hx0
                    have HF : Hid (isCit ws = false) := by
                      rw [Hid, HE.out]
                      cases hs : symW ws n
                      · rfl
                      · have := symW_iff.1 hs i i hin hin
                        rw [HOK.out] at this
                        simp [hx0] at this
                    have v1 := wrap_sum (q := q) (k := i) (by omega) (by omega)
                    have v2 := wrap_nat (q := q) (by omega)
                    have v3 := wrap_nat (q := p) (by omega)
                    have v4 := wrap_sum (q := p) (k := i) (by omega) (by omega)
                    go_wp2_with fail
                    go_quiet (fail)
                    clear v1 v2 v3 v4 hp1 hp2
                    go_wp2
                    go_ret
                    exact ⟨ret_bool HF.out.symm, HD.out.step _⟩
                · have hk1 : ((i : Int) == (k : Int)) = false := by simp; omega
                  have hk2 : (i == k) = false := by simp; omega
                  have HT : Hid (okP ws n i k = true) := by rw [Hid, HOK.out, hk2]; simp
                  have v1 := wrap_sum (q := q) (k := k) (by omega) (by omega)
                  have v2 := wrap_nat (q := q) (by omega)
                  have v3 := wrap_nat (q := p) (by omega)
                  have v4 := wrap_sum (q := p) (k := i) (by omega) (by omega)
                  go_wp2_with fail
                  go_quiet (fail)
                  clear v1 v2 v3 v4 hp1 hp2
                  go_wp2
                  go_roundw
                  case rel =>
                    refine ⟨k + 1, by omega, by go_num, fun k' h' => ?_, HD.out.step _⟩
                    by_cases e : k' = k
                    · rw [e]; exact HT.out
                    · exact HK.out k' (by omega)
                  case measure => (simp [intOf]; try omega)
              · have hx1 : (x == y) = false := by simpa using hxy
                have hx2 : (x != y) = true := by simpa using hxy
                have HF : Hid (isCit ws = false) := by
                  rw [Hid, HE.out]
                  cases hs : symW ws n
                  · rfl
                  · have := symW_iff.1 hs i k hin (by omega)
                    rw [HOK.out] at this
                    simp [hxy] at this
                have v1 := wrap_sum (q := q) (k := k) (by omega) (by omega)
                have v2 := wrap_nat (q := q) (by omega)
                have v3 := wrap_nat (q := p) (by omega)
                have v4 := wrap_sum (q := p) (k := i) (by omega) (by omega)
                go_wp2_with fail
                go_quiet (fail)
                clear v1 v2 v3 v4 hp1 hp2
                go_wp2
                go_ret
                exact ⟨ret_bool HF.out.symm, HD.out.step _⟩
            · go_wp2
              go_roundw
              case rel =>
                refine ⟨i + 1, by omega, by go_num, fun i' k' h1 h2 => ?_, HD⟩
                by_cases e : i' = i
                · rw [e]; exact HK.out k' (by omega)
                · exact HI.out i' k' (by omega) h2
              case measure => (simp [intOf]; try omega)
        · have HF : Hid (isCit ws = true) := by
            rw [Hid, HE.out, symW_iff]
            intro i' k' h1 h2
            by_cases e : k' ≤ i'
            · exact HI.out i' k' (by omega) e
            · rw [okP_comm]; exact HI.out k' i' (by omega) (by omega)
          go_wp2
          go_ret
          exact ⟨ret_bool HF.out.symm, HD.out⟩
set_option maxHeartbeats 2000000 in
set_option maxRecDepth 100000 in
theorem l04Count_any {l h : Nat} (v : Value) (ws : List Int) (w : World) (hv : Ints w l h v ws) (hz : ws.length ≤ 1048576) :
    Calls Try.prog 70 #[v] w fun e w' => e = .returned (.int .i64 (citN ws)) ∧ Drew w w' := by
  obtain ⟨va, cap, rfl, hc1, hc2, hd⟩ := hv.out
  have HRNG := Lib.hid hv.rng
  obtain ⟨L, hL⟩ : ∃ L, L = ws.length := ⟨_, rfl⟩
  have HL := Lib.hid hL
  rw [← hL] at hz hc1 ⊢
  clear hL
  go_enter Try.func70, Try.ntmps70
  go_wp2_with fail
  go_loop [3] (fun nv => ∃ m : Nat, 1 ≤ m ∧ m ≤ 10 ∧ nv = .int .i64 m ∧ Hid (∀ j, 1 ≤ j → j < m → j * j < L)) (fun nv => 11 - (intOf nv).toNat)
  case atStart => exact ⟨1, by omega, by omega, rfl, fun j h1 h2 => by omega⟩
  case round =>
    obtain ⟨m, hm1, hm2, rfl, HN⟩ := hrel
    obtain ⟨s, hs⟩ : ∃ s, s = m * m := ⟨_, rfl⟩
    have hsq : (m : Int) * (m : Int) = (s : Int) := by rw [hs, prod_nat]
    have hs1 : s ≤ 100 := by rw [hs]; exact prod_le hm2 hm2
    have HS := Lib.hid hs
    clear hs
    by_cases hgo : m < 10 ∧ s < L
    · obtain ⟨g1, g2⟩ := hgo
      clear hd hv
      go_wp2
      go_round
      case rel =>
        refine ⟨m + 1, by omega, by omega, by go_num, fun j h1 h2 => ?_⟩
        by_cases hj : j = m
        · rw [hj, ← HS.out]; exact g2
        · exact HN.out j h1 (by omega)
      case measure => (simp [intOf]; try omega)
    · have HX : Hid (s ≠ L → citN ws = 0) := by
        intro hne
        have : root L = 0 := root_none (fun j h1 h2 => by
          by_cases hj : j < m
          · have := HN.out j h1 hj; omega
          · have h3 := sq_mono (show m ≤ j by omega)
            have h4 := sq_mono (show j ≤ 10 by omega)
            have h5 := HS.out
            by_cases hm : m < 10
            · omega
            · obtain rfl : m = 10 := by omega
              obtain rfl : j = 10 := by omega
              omega)
        rw [citN_no]
        rw [isCit, ← HL.out, this]; rfl
      have HY : Hid (s = L → root L = m) := fun e => root_eq hm1 hm2 (by rw [← e, HS.out])
      by_cases he : s = L
      · have HR := Lib.hid (HY.out he)
        have he1 : ((s : Int) == (L : Int)) = true := by (simp; omega)
        have he2 : (s == L) = true := by simpa using he
        have he3 : ((s : Int) != (L : Int)) = false := by (simp; omega)
        have he4 : (s != L) = false := by simpa using he
        have hsL : ¬ s < L := by omega
        have hsLd : decide (s < L) = false := decide_eq_false hsL
        rcases hd with hd | ⟨b, off, rfl, hb1, hb2, hb3, hcell⟩
        · exfalso
          have h1 := HL.out
          rw [hd] at h1
          have h2 := sq_mono hm1
          have h3 := HS.out
          simp at h1; omega
        have HCELL := Lib.hid hcell
        have HNN : Hid (m * m = ws.length) := by rw [Hid, ← HS.out, he, HL.out]
        have hmL : L = ws.length := HL.out
        have HE : Hid (symW ws m = false ∨ ws.all (inB 0 1000) = false → citN ws = 0) := fun h => by
          rw [citN_no]
          rw [isCit, ← HL.out, HR.out]
          rcases h with h | h <;> rw [h] <;> simp
        have HT : Hid (symW ws m = true → ws.all (inB 0 1000) = true → citN ws = m) := fun h1 h2 => by
          have e0 : (m == 0) = false := by simp; omega
          rw [citN_yes]
          · rw [← HL.out, HR.out]
          · rw [isCit, ← HL.out, HR.out, h1, h2, e0]; rfl
        obtain ⟨n, hn⟩ : ∃ n, n = m := ⟨_, rfl⟩
        rw [← hn] at HE HT HNN hsq hm1 hm2 ⊢
        clear hn hgo HX HY HR HN he hcell hv
        by_cases h10 : n < 10
        all_goals
          go_wp2_with fail
          go_loopw [4] (fun iv wr => ∃ i : Nat, i ≤ n ∧ iv = .int .i64 i ∧ Hid (∀ i' k', i' < i → k' < n → okP ws n i' k' = true ∧ inB 0 1000 (ws.getD (i' * n + k') 0) = true) ∧ Hid (Drew w wr)) (fun iv _ => n - (intOf iv).toNat)
          case atStart => exact ⟨0, Nat.zero_le _, rfl, fun i' k' h1 h2 => by omega, Drew.refl _⟩
          case round =>
            obtain ⟨i, hi, rfl, HI, HD⟩ := hrel
            by_cases hin : i < n
            · obtain ⟨wo, hwo⟩ : ∃ wo : World, wo = wr := ⟨_, rfl⟩
              rw [← hwo] at HD
              rw [← hwo]
              clear hwo
              go_wp2_with fail
              go_loopw [5] (fun kv wr => ∃ k : Nat, k ≤ n ∧ kv = .int .i64 k ∧ Hid (∀ k', k' < k → okP ws n i k' = true ∧ inB 0 1000 (ws.getD (i * n + k') 0) = true) ∧ Hid (Drew w wr)) (fun kv _ => n - (intOf kv).toNat)
              case atStart => exact ⟨0, Nat.zero_le _, rfl, fun k' h1 => by omega, HD⟩
              case round =>
                clear HD
                obtain ⟨k, hk, rfl, HK, HD⟩ := hrel
                by_cases hki : k < n
                · have hq := pos_lt (n := n) (i := i) (k := k) hin hki
                  have hp := pos_lt (n := n) (i := k) (k := i) hki hin
                  rw [HNN.out, ← HL.out] at hq hp
                  have c1 : wr.cell? ⟨b, off + (i * n + k), none⟩ = some (.int .i64 (ws.getD (i * n + k) 0)) := by rw [HD.out.cell]; exact HCELL.out _ (by rw [← HL.out]; exact hq)
                  have c2 : wr.cell? ⟨b, off + (k * n + i), none⟩ = some (.int .i64 (ws.getD (k * n + i) 0)) := by rw [HD.out.cell]; exact HCELL.out _ (by rw [← HL.out]; exact hp)
                  have HOK : Hid (okP ws n i k = ((ws.getD (i * n + k) 0 == ws.getD (k * n + i) 0) && (!(i == k) || ws.getD (i * n + k) 0 == 0))) := rfl
                  have HMEM : Hid (ws.getD (i * n + k) 0 ∈ ws) := getD_memI (by rw [← HL.out]; exact hq)
                  have HIN2 : Hid (∀ z, z = ws.getD (i * n + k) 0 → inB 0 1000 z = true → inB 0 1000 (ws.getD (i * n + k) 0) = true) := fun z e h => by rw [← e]; exact h
                  have hp1 := prod_nat i n
                  have hp2 := prod_nat k n
                  have hq1 := prod_le (i := i) (n := n) (by omega) hm2
                  have hq2 := prod_le (i := k) (n := n) (by omega) hm2
                  obtain ⟨x, hx⟩ : ∃ x, x = ws.getD (i * n + k) 0 := ⟨_, rfl⟩
                  obtain ⟨y, hy⟩ : ∃ y, y = ws.getD (k * n + i) 0 := ⟨_, rfl⟩
                  have HX := Lib.hid hx
                  rw [← hx] at c1 HOK HMEM
                  rw [← hy] at c2 HOK
                  obtain ⟨q, hqq⟩ : ∃ q, q = i * n := ⟨_, rfl⟩
                  obtain ⟨p, hpp⟩ : ∃ p, p = k * n := ⟨_, rfl⟩
                  have HIN3 : Hid (inB 0 1000 x = true → inB 0 1000 (ws.getD (i * n + k) 0) = true) := fun h => HIN2.out x HX.out h
                  rw [← hqq] at hq c1 hp1 hq1
                  rw [← hpp] at hp c2 hp2 hq2
                  clear hx hy hqq hpp HX HIN2
                  have z1 : (q : Int) + (k : Int) < (L : Int) := by omega
                  have z2 : (p : Int) + (i : Int) < (L : Int) := by omega
                  have z3 : (0 : Int) ≤ (q : Int) + (k : Int) := by omega
                  have z4 : (0 : Int) ≤ (p : Int) + (i : Int) := by omega
                  cases hinx : inB 0 1000 x
                  · have HF : Hid (citN ws = 0) := by
                      refine HE.out (.inr ?_)
                      cases ha : ws.all (inB 0 1000)
                      · rfl
                      · rw [List.all_eq_true] at ha
                        rw [ha x HMEM.out] at hinx; exact absurd hinx (by decide)
                    have HLI : Hid (∀ nn, Calls Try.prog 40 #[.int .i64 x, .int .i64 0, .int .i64 1000] (wr.drewN nn) fun e w' => e = .returned (.bool false) ∧ wr.drewN nn = w') := fun nn => by
                      have := l00In_any x 0 1000 (wr.drewN nn); rw [hinx] at this; exact this
                    have v1 := wrap_sum (q := q) (k := k) (by omega) (by omega)
                    have v2 := wrap_nat (q := q) (by omega)
                    have v3 := wrap_nat (q := p) (by omega)
                    have v4 := wrap_sum (q := p) (k := i) (by omega) (by omega)
                    clear hinx
                    go_wp2_with fail
                    go_quiet ((go_at_call 40; exact quiet_same (HLI.out _)))
                    clear v1 v2 v3 v4 hp1 hp2
                    go_wp2
                    go_ret
                    exact ⟨ret_int (by rw [HF.out]; rfl), HD.out.step _⟩
                  · have HLI : Hid (∀ nn, Calls Try.prog 40 #[.int .i64 x, .int .i64 0, .int .i64 1000] (wr.drewN nn) fun e w' => e = .returned (.bool true) ∧ wr.drewN nn = w') := fun nn => by
                      have := l00In_any x 0 1000 (wr.drewN nn); rw [hinx] at this; exact this
                    have HIN4 := Lib.hid (HIN3.out hinx)
                    clear hinx HIN3
                    by_cases hxy : x = y
                    · subst hxy
                      by_cases hik : i = k
                      · subst hik
                        by_cases hx0 : x = 0
                        · subst hx0
                          have HTT : Hid (okP ws n i i = true) := by rw [Hid, HOK.out]; simp
                          have v1 := wrap_sum (q := q) (k := i) (by omega) (by omega)
                          have v2 := wrap_nat (q := q) (by omega)
                          have v3 := wrap_nat (q := p) (by omega)
                          have v4 := wrap_sum (q := p) (k := i) (by omega) (by omega)
                          go_wp2_with fail
                          go_quiet ((go_at_call 40; exact quiet_same (HLI.out _)))
                          clear v1 v2 v3 v4 hp1 hp2
                          go_wp2
                          go_roundw
                          case rel =>
                            refine ⟨i + 1, by omega, by go_num, fun k' h' => ?_, HD.out.step _⟩
                            by_cases e : k' = i
                            · rw [e]; exact ⟨HTT.out, HIN4.out⟩
                            · exact HK.out k' (by omega)
                          case measure => (simp [intOf]; try omega)
                        · have hx1 : (x == 0) = false := by simpa using hx0
                          have hx2 : (x != 0) = true := by simpa using hx0
                          have HF : Hid (citN ws = 0) := by
                            refine HE.out (.inl ?_)
                            cases hs : symW ws n
                            · rfl
                            · have := symW_iff.1 hs i i hin hin
                              rw [HOK.out] at this
                              simp [hx0] at this
                          have v1 := wrap_sum (q := q) (k := i) (by omega) (by omega)
                          have v2 := wrap_nat (q := q) (by omega)
                          have v3 := wrap_nat (q := p) (by omega)
                          have v4 := wrap_sum (q := p) (k := i) (by omega) (by omega)
                          go_wp2_with fail
                          go_quiet ((go_at_call 40; exact quiet_same (HLI.out _)))
                          clear v1 v2 v3 v4 hp1 hp2
                          go_wp2
                          go_ret
                          exact ⟨ret_int (by rw [HF.out]; rfl), HD.out.step _⟩
                      · have hk1 : ((i : Int) == (k : Int)) = false := by (simp; omega)
                        have hk2 : (i == k) = false := by simpa using hik
                        have HTT : Hid (okP ws n i k = true) := by rw [Hid, HOK.out, hk2]; simp
                        have v1 := wrap_sum (q := q) (k := k) (by omega) (by omega)
                        have v2 := wrap_nat (q := q) (by omega)
                        have v3 := wrap_nat (q := p) (by omega)
                        have v4 := wrap_sum (q := p) (k := i) (by omega) (by omega)
                        go_wp2_with fail
                        go_quiet ((go_at_call 40; exact quiet_same (HLI.out _)))
                        clear v1 v2 v3 v4 hp1 hp2
                        go_wp2
                        go_roundw
                        case rel =>
                          refine ⟨k + 1, by omega, by go_num, fun k' h' => ?_, HD.out.step _⟩
                          by_cases e : k' = k
                          · rw [e]; exact ⟨HTT.out, HIN4.out⟩
                          · exact HK.out k' (by omega)
                        case measure => (simp [intOf]; try omega)
                    · have hx1 : (x == y) = false := by simpa using hxy
                      have hx2 : (x != y) = true := by simpa using hxy
                      have HF : Hid (citN ws = 0) := by
                        refine HE.out (.inl ?_)
                        cases hs : symW ws n
                        · rfl
                        · have := symW_iff.1 hs i k hin hki
                          rw [HOK.out] at this
                          simp [hxy] at this
                      have v1 := wrap_sum (q := q) (k := k) (by omega) (by omega)
                      have v2 := wrap_nat (q := q) (by omega)
                      have v3 := wrap_nat (q := p) (by omega)
                      have v4 := wrap_sum (q := p) (k := i) (by omega) (by omega)
                      go_wp2_with fail
                      go_quiet ((go_at_call 40; exact quiet_same (HLI.out _)))
                      clear v1 v2 v3 v4 hp1 hp2
                      go_wp2
                      go_ret
                      exact ⟨ret_int (by rw [HF.out]; rfl), HD.out.step _⟩
                · obtain rfl : k = n := by omega
                  go_wp2
                  go_roundw
                  case rel =>
                    refine ⟨i + 1, by omega, by go_num, fun i' k' h1 h2 => ?_, HD⟩
                    by_cases e : i' = i
                    · rw [e]; exact HK.out k' h2
                    · exact HI.out i' k' (by omega) h2
                  case measure => (simp [intOf]; try omega)
            · have HF : Hid (citN ws = n) := by
                refine HT.out (symW_iff.2 fun i' k' h1 h2 => (HI.out i' k' (by omega) h2).1) ?_
                rw [List.all_eq_true]
                intro x hx
                obtain ⟨j, hj, rfl⟩ := List.mem_iff_getElem.1 hx
                have hn0 : 0 < n := by omega
                have hj2 : j < n * n := by rw [HNN.out]; exact hj
                have h1 : j / n < n := (Nat.div_lt_iff_lt_mul hn0).2 hj2
                have h2 := Nat.mod_lt j hn0
                have h3 : j / n * n + j % n = j := by rw [Nat.mul_comm]; exact Nat.div_add_mod j n
                have := (HI.out (j / n) (j % n) (by omega) h2).2
                rw [h3] at this
                simpa [List.getD, hj] using this
              go_wp2
              go_ret
              exact ⟨ret_int (by rw [HF.out]), HD.out⟩
      · have HF := Lib.hid (HX.out he)
        have he1 : ((s : Int) == (L : Int)) = false := by (simp; omega)
        have he2 : (s == L) = false := by simpa using he
        have he3 : ((s : Int) != (L : Int)) = true := by (simp; omega)
        have he4 : (s != L) = true := by simpa using he
        clear hd hv HX HY he
        by_cases h10 : m < 10
        all_goals
          go_wp2
          go_ret
          exact ⟨ret_int (by rw [HF.out]; rfl), Drew.refl _⟩
end Go.Proofs.Yteoikfddebbakaa
