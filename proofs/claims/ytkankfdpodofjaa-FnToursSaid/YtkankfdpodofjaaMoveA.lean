/-
  MoveTour: how long a tour is, by the program and by the reference.
-/
import Derived.Test.YtkankfdpodofjaaMoveP
import Derived.Test.YtkankfdpodofjaaCityI
namespace Go.Proofs.Ytkankfdpodofjaa
open Go.RowKit
set_option linter.unusedVariables false
set_option maxRecDepth 100000

theorem mod_facts {k n : Nat} (hn : 0 < n) : (((k : Int) + 1).tmod n = (((k + 1) % n : Nat) : Int)) ∧ (((k : Int) + 1) % (n : Int) = (((k + 1) % n : Nat) : Int)) := by
  have e : ((k : Int) + 1) % (n : Int) = (((k + 1) % n : Nat) : Int) := by rw [Int.natCast_emod, Int.natCast_add]; rfl
  exact ⟨by rw [Int.tmod_eq_emod_of_nonneg (by omega)]; exact e, e⟩
set_option maxHeartbeats 1000000 in
set_option maxRecDepth 100000 in
theorem tourLong_any {l h l' h' : Nat} (v u : Value) (ws A : List Int) (n : Nat) (w : World) (hv : Ints w l h v ws) (hu : Ints w l' h' u A) (hz : ws.length ≤ 1048576) (hci : citI ws.length = (n : Int)) (hn1 : 1 ≤ n) (hn : n ≤ 10) (hw : WaysOk ws n) (hA : TourOk A n) :
    Calls Try.prog 77 #[v, u] w fun e w' => e = .returned (.int .i64 (longP ws n A)) ∧ w = w' := by
  have HC := Lib.hid (cities_any v ws w hv hz)
  rw [hci] at HC
  obtain ⟨va, vc, rfl, hc1, hc2, hd⟩ := hv.out
  obtain ⟨ua, uc, rfl, gc1, gc2, gd⟩ := hu.out
  have hl := hA.1
  rcases hd with hd | ⟨b, off, rfl, hb1, hb2, hb3, hcell⟩
  · exfalso
    have h1 := hw.1
    rw [hd] at h1
    have := Nat.mul_pos (show 0 < n by omega) (show 0 < n by omega)
    simp at h1; omega
  rcases gd with gd | ⟨ub, uoff, rfl, gb1, gb2, gb3, gcell⟩
  · exfalso; rw [gd] at hl; simp at hl; omega
  have HCELL := Lib.hid hcell
  have GCELL := Lib.hid gcell
  have HA := Lib.hid hA
  have HW := Lib.hid hw
  have HLR := Lib.hid (longTo_rng hw hA)
  have HLN := Lib.hid hl
  rw [hl] at gc1 ⊢
  clear hv hu hcell gcell hci hw hA hl
  go_enter Try.func77, Try.ntmps77
  go_wp2_with fail
  refine HC.out.mono ?_
  rintro e w' ⟨rfl, rfl⟩
  go_wp2_with fail
  go_loop [6, 13] (fun sv kv => ∃ k : Nat, k ≤ n ∧ kv = .int .i64 k ∧ sv = .int .i64 (longTo ws n A k)) (fun _ kv => n - (intOf kv).toNat)
  case atStart => exact ⟨0, Nat.zero_le _, rfl, rfl⟩
  case round =>
    obtain ⟨k, hk, rfl, rfl⟩ := hrel
    by_cases hkn : k < n
    · have hst := step_rng HW.out HA.out hkn
      have hlr := HLR.out k hk
      have ha := HA.out.getD hkn
      have hen := Nat.mod_lt (k + 1) (show n > 0 by omega)
      have hb := HA.out.getD hen
      obtain ⟨md1, md2⟩ := mod_facts (k := k) (n := n) (by omega)
      have HSU : Hid (longTo ws n A (k + 1) = longTo ws n A k + wayOf ws n (A.getD k 0) (A.getD ((k + 1) % n) 0)) := rfl
      have ck := GCELL.out k (by rw [HLN.out]; exact hkn)
      have ce := GCELL.out ((k + 1) % n) (by rw [HLN.out]; exact hen)
      obtain ⟨e, he⟩ : ∃ e, e = (k + 1) % n := ⟨_, rfl⟩
      rw [← he] at hst hen hb md1 md2 HSU ce
      obtain ⟨a, haa⟩ : ∃ a : Nat, A.getD k 0 = (a : Int) := ⟨(A.getD k 0).toNat, by omega⟩
      obtain ⟨b', hbb⟩ : ∃ b' : Nat, A.getD e 0 = (b' : Int) := ⟨(A.getD e 0).toNat, by omega⟩
      rw [haa] at hst ha HSU ck
      rw [hbb] at hst hb HSU ce
      have ha2 : a < n := by omega
      have hb2' : b' < n := by omega
      have hpl := pos_lt ha2 hb2'
      have hpl2 : a * n + b' < ws.length := by rw [← HW.out.1]; exact hpl
      have hce := HCELL.out (a * n + b') hpl2
      have hwo := wayOf_nat ws n a b'
      rw [hwo] at hst HSU
      have hp1 := prod_nat a n
      have hq1 := prod_le (i := a) (n := n) (by omega) hn
      obtain ⟨x, hx⟩ : ∃ x, x = ws.getD (a * n + b') 0 := ⟨_, rfl⟩
      rw [← hx] at hce hst HSU
      obtain ⟨q, hqq⟩ : ∃ q, q = a * n := ⟨_, rfl⟩
      rw [← hqq] at hpl2 hce hp1 hq1
      obtain ⟨s, hs⟩ : ∃ s, s = longTo ws n A k := ⟨_, rfl⟩
      rw [← hs] at HSU hlr ⊢
      have z1 : (q : Int) + (b' : Int) < (ws.length : Int) := by omega
      have z2 : (0 : Int) ≤ (q : Int) + (b' : Int) := by omega
      have z3 : ((q : Int) + (b' : Int)).toNat = q + b' := by omega
      have z4 : (e : Int) < (n : Int) := by omega
      have n1 : ¬ (n : Int) = 0 := by omega
      have n2 : ¬ n = 0 := by omega
      have s1 := hlr.1
      have s2 := hlr.2
      have x1 := hst.1
      have x2 := hst.2
      clear he haa hbb hpl hwo hx hqq hs hst hlr ha hb
      go_wp2
      go_round
      case rel => exact ⟨k + 1, by omega, by go_num, by rw [HSU.out]⟩
      case measure => (simp [intOf]; try omega)
    · obtain rfl : k = n := by omega
      go_wp2
      go_ret
      exact ⟨rfl, rfl⟩
set_option maxHeartbeats 400000 in
set_option maxRecDepth 100000 in
theorem isTour_any {l h l' h' : Nat} (v u : Value) (ws A : List Int) (w : World) (hv : Ints w l h v ws) (hu : Ints w l' h' u A) (hz : ws.length ≤ 1048576) (hz' : A.length ≤ 1048576) :
    Calls Try.prog 76 #[v, u] w fun e w' => e = .returned (.bool (isCit ws && isOrder (citN ws) A)) ∧ Drew w w' := by
  have HA := Lib.hid (areCities_any v ws w hv hz)
  cases hic : isCit ws
  · rw [hic] at HA
    go_enter Try.func76, Try.ntmps76
    go_wp2_with fail
    refine HA.out.mono ?_
    rintro e w1 ⟨rfl, hd⟩
    have HD := Lib.hid hd
    clear hd
    go_wp2
    go_ret
    exact ⟨rfl, HD.out⟩
  · obtain ⟨r1, r2, r3, r4, _⟩ := isCit_out hic
    have en := citN_yes hic
    have ec : citI ws.length = (citN ws : Int) := by rw [citI, if_neg (by omega), en]
    have HC := Lib.hid (fun (wx : World) (hv : Ints wx l h v ws) => cities_any v ws wx hv hz)
    rw [ec] at HC
    rw [hic] at HA
    have HV := Lib.hid hv
    have HU := Lib.hid hu
    have HO := Lib.hid (fun (wx : World) (hu : Ints wx l' h' u A) => isOrderOf_any (citN ws : Int) u A wx hu hz')
    obtain ⟨n, hn⟩ : ∃ n, n = citN ws := ⟨_, rfl⟩
    rw [← hn] at HC HO ⊢
    clear hv hu hic r1 r2 r3 r4 en ec hn
    go_enter Try.func76, Try.ntmps76
    go_wp2_with fail
    refine HA.out.mono ?_
    rintro e w1 ⟨rfl, hd⟩
    have HD := Lib.hid hd
    clear hd
    go_wp2_with fail
    refine (HC.out w1 (HV.out.drew HD.out)).mono ?_
    rintro e w' ⟨rfl, rfl⟩
    go_wp2_with fail
    refine (HO.out w1 (HU.out.drew HD.out)).mono ?_
    rintro e w' ⟨rfl, rfl⟩
    go_wp2
    go_ret
    exact ⟨rfl, HD.out⟩
end Go.Proofs.Ytkankfdpodofjaa
