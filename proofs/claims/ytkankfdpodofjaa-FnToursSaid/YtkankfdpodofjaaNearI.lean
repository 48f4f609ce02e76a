/-
  NearTour and TourLong: contracts in the program.
-/
import Derived.Test.YtkankfdpodofjaaSwapP
import Derived.Test.YtkankfdpodofjaaMoveI
import Derived.BigQuiet
namespace Go.Proofs.Ytkankfdpodofjaa
open Go.RowKit
set_option linter.unusedVariables false
set_option maxRecDepth 100000

set_option maxHeartbeats 2000000 in
set_option maxRecDepth 100000 in
theorem nearTour_any {l h : Nat} (v : Value) (ws : List Int) (n : Nat) (f : Int) (w : World) (hv : Ints w l h v ws) (hh : h ≤ w.heap.size) (hz : ws.length ≤ 1048576) (hci : citI ws.length = (n : Int)) (hn1 : 1 ≤ n) (hn : n ≤ 10) (hw : WaysOk ws n) (hf0 : 0 ≤ f) (hf1 : f < n) :
    Calls Try.prog 81 #[v, .int .i64 f] w fun e w' => ∃ u, e = .returned u ∧ OwnI w' w.heap.size w'.heap.size u (nearP (wayOf ws n) n f) ∧ Below w.heap.size w w' := by
  have HC := Lib.hid (cities_any v ws w hv hz)
  rw [hci] at HC
  have HV := Lib.hid hv
  obtain ⟨va, vc, rfl, hc1, hc2, hd⟩ := hv.out
  rcases hd with hd | ⟨b, off, rfl, hb1, hb2, hb3, hcell⟩
  · exfalso
    have h1 := hw.1
    rw [hd] at h1
    have := Nat.mul_pos (show 0 < n by omega) (show 0 < n by omega)
    simp at h1; omega
  have HCELL := Lib.hid hcell
  have HW := Lib.hid hw
  obtain ⟨W, hW⟩ : ∃ W, W = wayOf ws n := ⟨_, rfl⟩
  have HWW := Lib.hid hW
  rw [← hW]
  have H0 := Lib.hid (oneSliceW w f (by constructor <;> omega))
  obtain ⟨W1, hW1⟩ : ∃ X, X = w.alloc (.cells #[.int .i64 f] 2) := ⟨_, rfl⟩
  rw [← hW1] at H0
  have HB1 : Hid (Below w.heap.size w W1) := by rw [hW1]; exact (Below.refl _ _).alloc (Nat.le_refl _) _
  have hnn := prod_le (i := n) (n := n) hn hn
  have hbw : b < w.heap.size := by omega
  clear hv hcell hci hw hW
  go_enter Try.func81, Try.ntmps81
  go_wp2_with fail
  refine HC.out.mono ?_
  rintro e w' ⟨rfl, rfl⟩
  go_wp2_with fail
  rw [← hW1]
  clear hW1
  go_loopw [6] (fun ov wr => ∃ k : Nat, k + 1 ≤ n ∧ Hid (OwnI wr w.heap.size wr.heap.size ov (nearTo W n f k)) ∧ Hid (Below w.heap.size w wr)) (fun ov _ => n - lenV ov)
  case atStart => exact ⟨0, hn1, H0.out.mono (Nat.le_refl _) (by have := H0.out.own.hsz; omega) (Nat.le_refl _), HB1⟩
  case round =>
    obtain ⟨ov, hov⟩ : ∃ v, v = u6 := ⟨_, rfl⟩
    rw [← hov] at hrel
    rw [← hov]
    clear hov
    obtain ⟨k, hk, HO, HBW⟩ := hrel
    have hsw := HBW.out.size
    have hSl := nearTo_len W n f k
    obtain ⟨kl, hkl⟩ : ∃ x, x = k + 1 := ⟨_, rfl⟩
    rw [← hkl] at hSl hk
    rcases HO.out.rowOf with ⟨_, h0⟩ | ⟨g, cap, rfl, hg1, hg2, hg3, hrow⟩
    · exfalso; rw [h0] at hSl; simp at hSl; omega
    rw [hSl] at hrow hg2 ⊢
    have HR := Lib.hid hrow
    have hrg := (nearTo_ok W (n := n) hf0 hf1 k (by omega)).1
    obtain ⟨a, ha⟩ := Int.eq_ofNat_of_zero_le (hrg _ (getD_memI (show k < (nearTo W n f k).length by rw [hSl]; omega))).1
    have han : a < n := by have := (hrg _ (getD_memI (show k < (nearTo W n f k).length by rw [hSl]; omega))).2; omega
    have HNX : Hid (nearTo W n f kl = nearTo W n f k ++ [nextC W n (nearTo W n f k)]) := by rw [Hid, hkl, nearTo]
    have HNC : Hid (nextC W n (nearTo W n f k) = nxGo W (nearTo W n f k) (a : Int) n 0 (-1)) := by rw [Hid, nextC, hSl, hkl, Nat.add_sub_cancel, ha]
    have HNO : kl < n → Hid (0 ≤ nextC W n (nearTo W n f k) ∧ nextC W n (nearTo W n f k) < n) := fun h => by
      have := nextC_ok W (n := n) (S := nearTo W n f k) (by rw [hSl]; exact h)
      exact ⟨this.1, this.2.1⟩
    obtain ⟨S, hS⟩ : ∃ S, S = nearTo W n f k := ⟨_, rfl⟩
    have hck := hrow.cell (k := k) (by omega)
    rw [ha] at hck
    have HSL : Hid (S.length = kl) := by rw [Hid, hS]; exact hSl
    have HSS := Lib.hid hS
    rw [← hS] at HNX HNC HNO HO HR
    rw [HSL.out] at HO
    by_cases hkn : kl < n
    · have HN2 := HNO hkn
      obtain ⟨NX, hNX⟩ : ∃ x, x = nextC W n S := ⟨_, rfl⟩
      rw [← hNX] at HNX HNC HN2
      have e1 : (kl : Int) - 1 = (k : Int) := by omega
      have e2 : IntKind.i64.wrap (k : Int) = (k : Int) := IntWalk.i64_in _ (by omega)
      have e3 : (k : Int) < (kl : Int) := by omega
      have e4 : k < kl := by omega
      have e5 : (kl : Int) < (n : Int) := by omega
      have HKL := Lib.hid hkl
      obtain ⟨wo, hwo⟩ : ∃ X : World, X = wr := ⟨_, rfl⟩
      rw [← hwo] at HO HBW HR hck hsw
      rw [← hwo]
      clear hrow hrg ha hS hNX hSl hkl HNO hwo
      go_wp2_with (go_at_call 66; refine (size_any _ (by omega) _).mono ?_; rintro e w' ⟨rfl, rfl⟩)
      go_loopw [8, 9] (fun cv qv wr => ∃ (q : Nat) (c : Int), q ≤ n ∧ qv = .int .i64 q ∧ cv = .int .i64 c ∧ Hid (nxGo W S (a : Int) (n - q) q c = NX) ∧ Hid (NxOk S q c) ∧ Hid (Drew wo wr)) (fun _ qv _ => n - (intOf qv).toNat)
      case atStart => exact ⟨0, -1, Nat.zero_le _, rfl, rfl, HNC.out.symm, .inl rfl, Drew.refl _⟩
      case round =>
        obtain ⟨q, c, hq, rfl, rfl, HG, HNO', HD⟩ := hrel
        by_cases hqn : q < n
        · have HHK : Hid (∀ nq, Calls Try.prog 84 #[.slice (some ⟨g, 0, none⟩) kl cap, .int .i64 (q : Int)] (wr.drewN nq) fun e w' => e = .returned (.bool (hasI S (q : Int))) ∧ wr.drewN nq = w') := fun nq => has_any _ S (q : Int) (wr.drewN nq) (HO.out.rd.drew (HD.out.step nq))
          have hnq : n - q = (n - (q + 1)) + 1 := by omega
          have HY : Hid (hasI S (q : Int) = false ∧ (c < 0 ∨ W a q < W a c) → nxGo W S (a : Int) (n - (q + 1)) ((q + 1 : Nat) : Int) (q : Int) = NX ∧ NxOk S ((q + 1 : Nat) : Int) (q : Int)) := fun hc => by
            have := HG.out
            rw [hnq, nxGo_yes hc] at this
            exact ⟨by rw [Int.natCast_add]; exact this, .inr ⟨by omega, by omega, (hasI_false S q).1 hc.1⟩⟩
          have HN : Hid (¬ (hasI S (q : Int) = false ∧ (c < 0 ∨ W a q < W a c)) → nxGo W S (a : Int) (n - (q + 1)) ((q + 1 : Nat) : Int) c = NX ∧ NxOk S ((q + 1 : Nat) : Int) c) := fun hc => by
            have := HG.out
            rw [hnq, nxGo_no hc] at this
            refine ⟨by rw [Int.natCast_add]; exact this, ?_⟩
            rcases HNO'.out with h | h
            · exact .inl h
            · exact .inr ⟨h.1, by omega, h.2.2⟩
          have hqi : (q : Int) < (n : Int) := by omega
          clear hnq
          cases hin : hasI S (q : Int)
          · rw [hin] at HHK
            by_cases hc0 : c < 0
            · obtain ⟨n1, n2⟩ := HY.out ⟨hin, .inl hc0⟩
              have N1 := Lib.hid n1
              have N2 := Lib.hid n2
              have hcd : decide (c < 0) = true := decide_eq_true hc0
              clear HY HN n1 n2 hin
              go_wp2_with fail
              go_quiet ((go_at_call 84; exact quiet_same (HHK.out _)))
              go_wp2
              go_roundw
              case rel => exact ⟨q + 1, (q : Int), by omega, by go_num, rfl, N1, N2, HD.out.step _⟩
              case measure => (simp [intOf]; try omega)
            · have hcn : 0 ≤ c ∧ c < (q : Int) := by
                rcases HNO'.out with h | h
                · omega
                · exact ⟨h.1, h.2.1⟩
              obtain ⟨d, rfl⟩ := Int.eq_ofNat_of_zero_le hcn.1
              have hdn : d < n := by omega
              have hw1 := HW.out.1
              have p1 := pos_lt han hqn
              have p2 := pos_lt han hdn
              rw [hw1] at p1 p2
              have c1 : wr.cell? ⟨b, off + (a * n + q), none⟩ = some (.int .i64 (W a q)) := by
                rw [HD.out.cell, HBW.out.cell (p := ⟨b, off + (a * n + q), none⟩) hbw, HCELL.out _ p1, HWW.out, wayOf_nat]
              have c2 : wr.cell? ⟨b, off + (a * n + d), none⟩ = some (.int .i64 (W a d)) := by
                rw [HD.out.cell, HBW.out.cell (p := ⟨b, off + (a * n + d), none⟩) hbw, HCELL.out _ p2, HWW.out, wayOf_nat]
              have hp1 := prod_nat a n
              have hq1 := prod_le (i := a) (n := n) (by omega) hn
              have hlen : ws.length ≤ 100 := by rw [← hw1]; exact hnn
              obtain ⟨x, hx⟩ : ∃ x, x = W a q := ⟨_, rfl⟩
              obtain ⟨y, hy⟩ : ∃ x, x = W a d := ⟨_, rfl⟩
              have HX := Lib.hid hx
              have HYY := Lib.hid hy
              rw [← hx] at c1
              rw [← hy] at c2
              obtain ⟨s, hs⟩ : ∃ s, s = a * n := ⟨_, rfl⟩
              rw [← hs] at c1 c2 hp1 hq1 p1 p2
              have z1 : (s : Int) + (q : Int) < (ws.length : Int) := by omega
              have z2 : (s : Int) + (d : Int) < (ws.length : Int) := by omega
              have z3 : (0 : Int) ≤ (s : Int) + (q : Int) := by omega
              have z4 : (0 : Int) ≤ (s : Int) + (d : Int) := by omega
              have v1 := wrap_sum (q := s) (k := q) (by omega) (by omega)
              have v2 := wrap_nat (q := s) (by omega)
              have v3 := wrap_sum (q := s) (k := d) (by omega) (by omega)
              clear hx hy hs hw1
              by_cases hxy : x < y
              · obtain ⟨n1, n2⟩ := HY.out ⟨hin, .inr (by rw [← HX.out, ← HYY.out]; exact hxy)⟩
                have N1 := Lib.hid n1
                have N2 := Lib.hid n2
                have hcd : decide (((d : Nat) : Int) < 0) = false := decide_eq_false (by omega)
                have hcx : decide (x < y) = true := decide_eq_true hxy
                clear HY HN n1 n2 hin
                go_wp2_with fail
                go_quiet ((go_at_call 84; exact quiet_same (HHK.out _)))
                clear v1 v2 v3 hp1
                go_wp2
                go_roundw
                case rel => exact ⟨q + 1, (q : Int), by omega, by go_num, rfl, N1, N2, HD.out.step _⟩
                case measure => (simp [intOf]; try omega)
              · obtain ⟨n1, n2⟩ := HN.out (fun h => by
                  rcases h.2 with h | h
                  · omega
                  · rw [← HX.out, ← HYY.out] at h; omega)
                have N1 := Lib.hid n1
                have N2 := Lib.hid n2
                have hcd : decide (((d : Nat) : Int) < 0) = false := decide_eq_false (by omega)
                have hcx : decide (x < y) = false := decide_eq_false hxy
                clear HY HN n1 n2 hin
                go_wp2_with fail
                go_quiet ((go_at_call 84; exact quiet_same (HHK.out _)))
                clear v1 v2 v3 hp1
                go_wp2
                go_roundw
                case rel => exact ⟨q + 1, (d : Int), by omega, by go_num, rfl, N1, N2, HD.out.step _⟩
                case measure => (simp [intOf]; try omega)
          · rw [hin] at HHK
            obtain ⟨n1, n2⟩ := HN.out (fun h => by rw [hin] at h; exact absurd h.1 (by decide))
            have N1 := Lib.hid n1
            have N2 := Lib.hid n2
            clear HY HN n1 n2 hin
            go_wp2_with fail
            go_quiet ((go_at_call 84; exact quiet_same (HHK.out _)))
            go_wp2
            go_roundw
            case rel => exact ⟨q + 1, c, by omega, by go_num, rfl, N1, N2, HD.out.step _⟩
            case measure => (simp [intOf]; try omega)
        · obtain rfl : q = n := by omega
          have hcN : c = NX := by have := HG.out; rw [Nat.sub_self] at this; exact this
          have hnx := HN2.out
          rw [hcN]
          have hs3 : w.heap.size ≤ wr.heap.size := by rw [HD.out.heap]; exact hsw
          have HO3 : Hid (OwnI wr w.heap.size wr.heap.size (.slice (some ⟨g, 0, none⟩) kl cap) S) := (HO.out.drew HD.out).mono (Nat.le_refl _) (by rw [HD.out.heap]; exact Nat.le_refl _) (Nat.le_refl _)
          have HB3 : Hid (Below w.heap.size w wr) := HBW.out.trans (HD.out.below _)
          have hx0 := hnx.1
          have hx1 := hnx.2
          clear hcN hnx HG HNO'
          go_wp2_with (at_builtin; refine wpList_app1 rfl _ _ rfl _ S rfl NX _ HO3.out rfl (by constructor <;> omega) (by rw [HSL.out]; omega) hs3 ?_)
          intro v3 w3 ho3 hsm3 hz3 hbk3
          have HO4 : Hid (OwnI w3 w.heap.size w3.heap.size v3 (nearTo W q f kl)) := by rw [HNX.out]; exact ho3
          have HB4 := Lib.hid (HB3.out.trans (hsm3.below (Nat.le_refl _) hs3))
          obtain ⟨va4, vc4, hve⟩ := HO4.out.shape2
          rw [nearTo_len] at hve
          subst hve
          clear ho3 hsm3 hz3 hbk3
          go_wp2
          go_roundw
          case rel => exact ⟨kl, by omega, HO4, HB4⟩
          case measure => (simp [lenV]; try omega)
    · have hke : k = n - 1 := by omega
      have HE : Hid (nearP W n f = S) := by rw [Hid, nearP, HSS.out, hke]
      have e5 : ¬ (kl : Int) < (n : Int) := by omega
      clear hrow hrg ha hS hkl HNO hke
      go_wp2_with (go_at_call 66; refine (size_any _ (by omega) _).mono ?_; rintro e w' ⟨rfl, rfl⟩)
      go_ret
      exact ⟨_, rfl, by rw [HE.out]; exact HO.out, HBW.out⟩
end Go.Proofs.Ytkankfdpodofjaa
