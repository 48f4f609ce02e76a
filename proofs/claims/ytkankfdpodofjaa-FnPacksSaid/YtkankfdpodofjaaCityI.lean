/-
  Cities: the program's checks and the reference's.
-/
import Derived.Test.YtkankfdpodofjaaCityP
namespace Go.Proofs.Ytkankfdpodofjaa
open Go.RowKit
set_option linter.unusedVariables false
set_option maxRecDepth 100000

def citI (L : Nat) : Int := if root L = 0 then -1 else (root L : Int)
theorem sq_mono {a b : Nat} (h : a ≤ b) : a * a ≤ b * b := Nat.mul_self_le_mul_self h
theorem prod_nat (i n : Nat) : (i : Int) * (n : Int) = ((i * n : Nat) : Int) := by simp
theorem prod_le {i n : Nat} (hi : i ≤ 10) (hn : n ≤ 10) : i * n ≤ 100 := Nat.mul_le_mul hi hn
theorem wrap_nat {q : Nat} (h : q ≤ 1048576) : IntKind.i64.wrap (q : Int) = (q : Int) := IntWalk.i64_in _ (by omega)
theorem wrap_sum {q k : Nat} (h : q ≤ 1048576) (g : k ≤ 1048576) : IntKind.i64.wrap ((q : Int) + (k : Int)) = (q : Int) + (k : Int) := IntWalk.i64_in _ (by omega)
set_option maxHeartbeats 400000 in
set_option maxRecDepth 100000 in
theorem cities_any {l h : Nat} (v : Value) (ws : List Int) (w : World) (hv : Ints w l h v ws) (hz : ws.length ≤ 1048576) :
    Calls Try.prog 44 #[v] w fun e w' => e = .returned (.int .i64 (citI ws.length)) ∧ w = w' := by
  obtain ⟨a, cap, rfl, hc1, hc2, _⟩ := hv.out
  obtain ⟨L, hL⟩ : ∃ L, L = ws.length := ⟨_, rfl⟩
  rw [← hL] at hz hc1 ⊢
  clear hL hv
  go_enter Try.func44, Try.ntmps44
  go_wp2_with fail
  go_loop [3] (fun nv => ∃ m : Nat, 1 ≤ m ∧ m ≤ 11 ∧ nv = .int .i64 m ∧ Hid (∀ j, 1 ≤ j → j < m → j * j ≠ L)) (fun nv => 12 - (intOf nv).toNat)
  case atStart => exact ⟨1, by omega, by omega, rfl, fun j h1 h2 => by omega⟩
  case round =>
    obtain ⟨m, hm1, hm2, rfl, HN⟩ := hrel
    by_cases hlt : m ≤ 10
    · obtain ⟨s, hs⟩ : ∃ s, s = m * m := ⟨_, rfl⟩
      have hsq : (m : Int) * (m : Int) = (s : Int) := by rw [hs, prod_nat]
      have hs1 : s ≤ 100 := by rw [hs]; exact prod_le hlt hlt
      have HS := Lib.hid hs
      clear hs
      by_cases he : L = s
      · have HE : Hid (citI L = (m : Int)) := by
          have : root L = m := root_eq hm1 hlt (by rw [he, HS.out])
          rw [Hid, citI, this, if_neg (by omega)]
        have he1 : ((L : Int) == (s : Int)) = true := by simp; omega
        have he2 : (L == s) = true := by simp; omega
        clear he
        go_wp2_with (refine (size_any _ (by omega) _).mono ?_; rintro e w' ⟨rfl, rfl⟩)
        go_ret
        exact ⟨ret_int HE.out.symm, rfl⟩
      · have he1 : ((L : Int) == (s : Int)) = false := by simp; omega
        have he2 : (L == s) = false := by simp; omega
        go_wp2_with (refine (size_any _ (by omega) _).mono ?_; rintro e w' ⟨rfl, rfl⟩)
        go_round
        case rel =>
          refine ⟨m + 1, by omega, by omega, by go_num, fun j h1 h2 => ?_⟩
          by_cases hj : j = m
          · rw [hj, ← HS.out]; exact fun e => he e.symm
          · exact HN.out j h1 (by omega)
        case measure => (simp [intOf]; try omega)
    · have HE : Hid (citI L = -1) := by rw [Hid, citI, root_none (fun j h1 h2 => HN.out j h1 (by omega)), if_pos rfl]
      go_wp2
      go_ret
      exact ⟨ret_int HE.out.symm, rfl⟩
set_option maxHeartbeats 2000000 in
set_option maxRecDepth 100000 in
theorem areCities_any {l h : Nat} (v : Value) (ws : List Int) (w : World) (hv : Ints w l h v ws) (hz : ws.length ≤ 1048576) :
    Calls Try.prog 38 #[v] w fun e w' => e = .returned (.bool (isCit ws)) ∧ Drew w w' := by
  have HC := Lib.hid (cities_any v ws w hv hz)
  have HA := Lib.hid (allWithin_any l h v ws 0 1000 w hv)
  obtain ⟨va, cap, rfl, hc1, hc2, hd⟩ := hv.out
  by_cases hr : root ws.length = 0
  · have HE : Hid (isCit ws = false) := by rw [Hid, isCit, hr]; rfl
    have e1 : citI ws.length = -1 := by rw [citI, if_pos hr]
    rw [e1] at HC
    clear hv hd e1 hr
    go_enter Try.func38, Try.ntmps38
    go_wp2_with fail
    refine HC.out.mono ?_
    rintro e w' ⟨rfl, rfl⟩
    go_wp2
    go_ret
    exact ⟨ret_bool HE.out.symm, Drew.refl _⟩
  · obtain ⟨hsq, hn1, hn2⟩ := root_sq hr
    have e1 : citI ws.length = (root ws.length : Int) := by rw [citI, if_neg hr]
    rw [e1] at HC
    cases hal : ws.all (inB 0 1000)
    · rw [hal] at HA
      have HE : Hid (isCit ws = false) := by rw [Hid, isCit, hal]; simp
      obtain ⟨n, hn⟩ : ∃ n, n = root ws.length := ⟨_, rfl⟩
      rw [← hn] at HC hn1 hn2
      clear hv hd e1 hr hal hn hsq
      go_enter Try.func38, Try.ntmps38
      go_wp2_with fail
      refine HC.out.mono ?_
      rintro e w' ⟨rfl, rfl⟩
      go_wp2_with fail
      refine HA.out.mono ?_
      rintro e w' ⟨rfl, rfl⟩
      go_wp2
      go_ret
      exact ⟨ret_bool HE.out.symm, Drew.refl _⟩
    · rw [hal] at HA
      have HE : Hid (isCit ws = symW ws (root ws.length)) := by
        have : (root ws.length == 0) = false := by simpa using hr
        rw [Hid, isCit, hal, this]; simp
      rcases hd with hd | ⟨b, off, rfl, hb1, hb2, hb3, hcell⟩
      · exfalso; rw [hd] at hn1; exact absurd hn1 (by decide)
      have HCELL := Lib.hid hcell
      obtain ⟨n, hn⟩ : ∃ n, n = root ws.length := ⟨_, rfl⟩
      rw [← hn] at HC HE hn1 hn2 hsq
      have HSQ := Lib.hid hsq
      clear hv e1 hr hal hn hsq hcell
      go_enter Try.func38, Try.ntmps38
      go_wp2_with fail
      refine HC.out.mono ?_
      rintro e w' ⟨rfl, rfl⟩
      go_wp2_with fail
      refine HA.out.mono ?_
      rintro e w' ⟨rfl, rfl⟩
      go_wp2_with fail
      go_loopw [4] (fun iv wr => ∃ i : Nat, i ≤ n ∧ iv = .int .i64 i ∧ Hid (∀ i' k', i' < i → k' ≤ i' → okP ws n i' k' = true) ∧ Hid (Drew w wr)) (fun iv _ => n - (intOf iv).toNat)
      case atStart => exact ⟨0, Nat.zero_le _, rfl, fun i' k' h1 h2 => by omega, Drew.refl _⟩
      case round =>
        obtain ⟨i, hi, rfl, HI, HD⟩ := hrel
        by_cases hin : i < n
        · obtain ⟨wo, hwo⟩ : ∃ wo : World, wo = wr := ⟨_, rfl⟩
          rw [← hwo] at HD
          rw [← hwo]
          clear hwo
          go_wp2_with fail
          go_loopw [5] (fun kv wr => ∃ k : Nat, k ≤ i + 1 ∧ kv = .int .i64 k ∧ Hid (∀ k', k' < k → okP ws n i k' = true) ∧ Hid (Drew w wr)) (fun kv _ => i + 1 - (intOf kv).toNat)
          case atStart => exact ⟨0, Nat.zero_le _, rfl, fun k' h1 => by omega, HD⟩
          case round =>
            clear HD
            obtain ⟨k, hk, rfl, HK, HD⟩ := hrel
            by_cases hki : k ≤ i
            · have hq := pos_lt (n := n) (i := i) (k := k) hin (by omega)
              have hp := pos_lt (n := n) (i := k) (k := i) (by omega) hin
              rw [HSQ.out] at hq hp
              have c1 : wr.cell? ⟨b, off + (i * n + k), none⟩ = some (.int .i64 (ws.getD (i * n + k) 0)) := by rw [HD.out.cell]; exact HCELL.out _ hq
              have c2 : wr.cell? ⟨b, off + (k * n + i), none⟩ = some (.int .i64 (ws.getD (k * n + i) 0)) := by rw [HD.out.cell]; exact HCELL.out _ hp
              have HOK : Hid (okP ws n i k = ((ws.getD (i * n + k) 0 == ws.getD (k * n + i) 0) && (!(i == k) || ws.getD (i * n + k) 0 == 0))) := rfl
              have hp1 := prod_nat i n
              have hp2 := prod_nat k n
              have hq1 := prod_le (i := i) (n := n) (by omega) hn2
              have hq2 := prod_le (i := k) (n := n) (by omega) hn2
              obtain ⟨x, hx⟩ : ∃ x, x = ws.getD (i * n + k) 0 := ⟨_, rfl⟩
              obtain ⟨y, hy⟩ : ∃ y, y = ws.getD (k * n + i) 0 := ⟨_, rfl⟩
              rw [← hx] at c1 HOK
              rw [← hy] at c2 HOK
              obtain ⟨q, hqq⟩ : ∃ q, q = i * n := ⟨_, rfl⟩
              obtain ⟨p, hpp⟩ : ∃ p, p = k * n := ⟨_, rfl⟩
              rw [← hqq] at hq c1 hp1 hq1
              rw [← hpp] at hp c2 hp2 hq2
              clear hx hy hqq hpp
              have z1 : (q : Int) + (k : Int) < (ws.length : Int) := by omega
              have z2 : (p : Int) + (i : Int) < (ws.length : Int) := by omega
              have z3 : (0 : Int) ≤ (q : Int) + (k : Int) := by omega
              have z4 : (0 : Int) ≤ (p : Int) + (i : Int) := by omega
              by_cases hxy : x = y
              · subst hxy
                by_cases hik : i = k
                · subst hik
                  by_cases hx0 : x = 0
                  · subst hx0
                    have HT : Hid (okP ws n i i = true) := by rw [Hid, HOK.out]; simp
                    have v1 := wrap_sum (q := q) (k := i) (by omega) (by omega)
                    have v2 := wrap_nat (q := q) (by omega)
                    have v3 := wrap_nat (q := p) (by omega)
                    have v4 := wrap_sum (q := p) (k := i) (by omega) (by omega)
                    go_wp2_with fail
                    go_quiet (fail)
                    clear v1 v2 v3 v4 hp1 hp2
                    go_wp2
                    go_roundw
                    case rel =>
                      refine ⟨i + 1, by omega, by go_num, fun k' h' => ?_, HD.out.step _⟩
                      by_cases e : k' = i
                      · rw [e]; exact HT.out
                      · exact HK.out k' (by omega)
                    case measure => (simp [intOf]; try omega)
                  · have hx1 : (x == 0) = false := by simpa using hx0
                    have hx2 : (x != 0) = true := by simpa using hx0
                    have HF : Hid (isCit ws = false) := by
                      rw [Hid, HE.out]
                      cases hs : symW ws n
                      · rfl
                      · have := symW_iff.1 hs i i hin hin
                        rw [HOK.out] at this
                        simp [hx0] at this
                    have v1 := wrap_sum (q := q) (k := i) (by omega) (by omega)
                    have v2 := wrap_nat (q := q) (by omega)
                    have v3 := wrap_nat (q := p) (by omega)
                    have v4 := wrap_sum (q := p) (k := i) (by omega) (by omega)
                    go_wp2_with fail
                    go_quiet (fail)
                    clear v1 v2 v3 v4 hp1 hp2
                    go_wp2
                    go_ret
                    exact ⟨ret_bool HF.out.symm, HD.out.step _⟩
                · have hk1 : ((i : Int) == (k : Int)) = false := by simp; omega
                  have hk2 : (i == k) = false := by simp; omega
                  have HT : Hid (okP ws n i k = true) := by rw [Hid, HOK.out, hk2]; simp
                  have v1 := wrap_sum (q := q) (k := k) (by omega) (by omega)
                  have v2 := wrap_nat (q := q) (by omega)
                  have v3 := wrap_nat (q := p) (by omega)
                  have v4 := wrap_sum (q := p) (k := i) (by omega) (by omega)
                  go_wp2_with fail
                  go_quiet (fail)
                  clear v1 v2 v3 v4 hp1 hp2
                  go_wp2
                  go_roundw
                  case rel =>
                    refine ⟨k + 1, by omega, by go_num, fun k' h' => ?_, HD.out.step _⟩
                    by_cases e : k' = k
                    · rw [e]; exact HT.out
                    · exact HK.out k' (by omega)
                  case measure => (simp [intOf]; try omega)
              · have hx1 : (x == y) = false := by simpa using hxy
                have hx2 : (x != y) = true := by simpa using hxy
                have HF : Hid (isCit ws = false) := by
                  rw [Hid, HE.out]
                  cases hs : symW ws n
                  · rfl
                  · have := symW_iff.1 hs i k hin (by omega)
                    rw [HOK.out] at this
                    simp [hxy] at this
                have v1 := wrap_sum (q := q) (k := k) (by omega) (by omega)
                have v2 := wrap_nat (q := q) (by omega)
                have v3 := wrap_nat (q := p) (by omega)
                have v4 := wrap_sum (q := p) (k := i) (by omega) (by omega)
                go_wp2_with fail
                go_quiet (fail)
                clear v1 v2 v3 v4 hp1 hp2
                go_wp2
                go_ret
                exact ⟨ret_bool HF.out.symm, HD.out.step _⟩
            · go_wp2
              go_roundw
              case rel =>
                refine ⟨i + 1, by omega, by go_num, fun i' k' h1 h2 => ?_, HD⟩
                by_cases e : i' = i
                · rw [e]; exact HK.out k' (by omega)
                · exact HI.out i' k' (by omega) h2
              case measure => (simp [intOf]; try omega)
        · have HF : Hid (isCit ws = true) := by
            rw [Hid, HE.out, symW_iff]
            intro i' k' h1 h2
            by_cases e : k' ≤ i'
            · exact HI.out i' k' (by omega) e
            · rw [okP_comm]; exact HI.out k' i' (by omega) (by omega)
          go_wp2
          go_ret
          exact ⟨ret_bool HF.out.symm, HD.out⟩
end Go.Proofs.Ytkankfdpodofjaa
