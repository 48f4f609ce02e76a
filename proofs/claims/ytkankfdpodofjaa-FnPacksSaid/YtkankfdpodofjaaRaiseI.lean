/-
  RaisedBound: the program's contract.
-/
import Derived.Test.YtkankfdpodofjaaRaiseP
import Derived.Test.YtkankfdpodofjaaCopy
import Derived.Test.YtkankfdpodofjaaConcat
import Derived.Deep.DeepCutAuto
import Derived.Deep.CutRange
namespace Go.Proofs.Ytkankfdpodofjaa
open Go.RowKit
set_option linter.unusedVariables false
set_option maxRecDepth 100000

set_option maxHeartbeats 400000 in
set_option maxRecDepth 100000 in
theorem sum_any {l h : Nat} (v : Value) (P : List Int) (w : World) (hv : Ints w l h v P) {n : Nat} {b : Int} (hP : PrOk P n b) (hb0 : 0 ≤ b) (hb : b ≤ 100000) (hn : n ≤ 100) :
    Calls Try.prog 51 #[v] w fun e w' => e = .returned (.int .i64 (sumP P n)) ∧ w = w' := by
  obtain ⟨va, vc, rfl, hc1, hc2, hd⟩ := hv.out
  have hl := hP.1
  have HP := Lib.hid hP
  have HS := Lib.hid (fun k (hk : k < n) => sumP_succ (P := P) (k := k) (by rw [hl]; exact hk))
  have HR := Lib.hid (sumP_rng hP hb0)
  have HB : Hid (∀ k : Nat, k ≤ n → b * (k : Int) ≤ 10000000) := fun k hk => by
    have h1 : b * (k : Int) ≤ 100000 * (k : Int) := Int.mul_le_mul_of_nonneg_right hb (by omega)
    omega
  rw [hl] at hc1 hd ⊢
  have HCE : Hid (∀ k, k < n → ∃ b' off, va = some ⟨b', off, none⟩ ∧ w.cell? ⟨b', off + k, none⟩ = some (.int .i64 (P.getD k 0))) := fun k hk => by
    rcases hd with hd | ⟨b', off, rfl, hb1, hb2, hb3, hcell⟩
    · rw [hd] at hl; simp at hl; omega
    · exact ⟨b', off, rfl, hcell k hk⟩
  clear hd hP hv hl
  go_enter Try.func51, Try.ntmps51
  go_wp2_with fail
  go_loop [3, 8] (fun sv kv => ∃ k : Nat, k ≤ n ∧ kv = .int .i64 k ∧ sv = .int .i64 (sumP P k)) (fun _ kv => n - (intOf kv).toNat)
  case atStart => exact ⟨0, Nat.zero_le _, rfl, rfl⟩
  case round =>
    obtain ⟨k, hk, rfl, rfl⟩ := hrel
    by_cases hkn : k < n
    · obtain ⟨b', off, rfl, hcell⟩ := HCE.out k hkn
      have h1 := HS.out k hkn
      have h2 := HP.out.getD hkn
      have h3 := HR.out k hk
      have h4 := HB.out k hk
      obtain ⟨x, hx⟩ : ∃ x, x = P.getD k 0 := ⟨_, rfl⟩
      obtain ⟨s, hs⟩ : ∃ s, s = sumP P k := ⟨_, rfl⟩
      rw [← hx] at hcell h1 h2
      rw [← hs] at h1 h3 ⊢
      have x1 : -100000 ≤ x := by omega
      have x2 : x ≤ 100000 := by omega
      have s1 : -10000000 ≤ s := by omega
      have s2 : s ≤ 10000000 := by omega
      have H1 := Lib.hid h1
      clear hx hs h1 h2 h3 h4
      go_wp2
      go_round
      case rel => exact ⟨k + 1, by omega, by go_num, by rw [H1.out]⟩
      case measure => (simp [intOf]; try omega)
    · obtain rfl : k = n := by omega
      go_wp2
      go_ret
      exact ⟨rfl, rfl⟩
set_option maxHeartbeats 1000000 in
set_option maxRecDepth 100000 in
theorem raiseWay_any {l h p q r n lo g c : Nat} (v : Value) (ws P : List Int) (w : World) (hp : w.cell? ⟨p, 0, none⟩ = some v) (hq : w.cell? ⟨q, 0, none⟩ = some (.int .i64 n)) (hr : w.cell? ⟨r, 0, none⟩ = some (.slice (some ⟨g, 0, none⟩) n c)) (hR : RowI w lo g n c P) (hv : Ints w l h v ws) (hl : n * n = ws.length) (hn : n ≤ 10) (hw : ∀ x ∈ ws, 0 ≤ x ∧ x ≤ 1000) (hP : PrOk P n 100000) (a b : Int) (ha : 0 ≤ a) (ha2 : a < n) (hb : 0 ≤ b) (hb2 : b < n) :
    Calls Try.prog 50 #[.int .i64 a, .int .i64 b, .pointer (some ⟨p, 0, none⟩), .pointer (some ⟨q, 0, none⟩), .pointer (some ⟨r, 0, none⟩)] w fun e w' => e = .returned (.int .i64 (wayOf (nowL ws P n) n a b)) ∧ Drew w w' := by
  obtain ⟨A, rfl⟩ : ∃ A : Nat, a = (A : Int) := ⟨a.toNat, by omega⟩
  obtain ⟨B, rfl⟩ : ∃ B : Nat, b = (B : Int) := ⟨b.toNat, by omega⟩
  have hA : A < n := by omega
  have hB : B < n := by omega
  obtain ⟨va, vc, rfl, hc1, hc2, hd⟩ := hv.out
  have hpl := pos_lt hA hB
  rcases hd with hd | ⟨blk, off, rfl, hb1, hbb2, hb3, hcell⟩
  · exfalso; rw [hl, hd] at hpl; simp at hpl
  have hc := hcell (A * n + B) (by omega)
  have hcA := hR.cell hA
  have hcB := hR.cell hB
  have HE := Lib.hid (wayNow ws P hA hB)
  have hp1 := prod_nat A n
  have hq1 := prod_le (i := A) (n := n) (by omega) hn
  have hpl2 : A * n + B < ws.length := by omega
  have r1 := hw _ (getD_memI hpl2)
  have r2 := hP.getD hA
  have r3 := hP.getD hB
  obtain ⟨x, hx⟩ : ∃ x, x = ws.getD (A * n + B) 0 := ⟨_, rfl⟩
  obtain ⟨y, hy⟩ : ∃ y, y = P.getD A 0 := ⟨_, rfl⟩
  obtain ⟨z, hz⟩ : ∃ z, z = P.getD B 0 := ⟨_, rfl⟩
  rw [← hx] at hc HE r1
  rw [← hy] at hcA HE r2
  rw [← hz] at hcB HE r3
  obtain ⟨s, hs⟩ : ∃ s, s = A * n := ⟨_, rfl⟩
  rw [← hs] at hc hp1 hq1 hpl2
  have z1 : (s : Int) + (B : Int) < (ws.length : Int) := by omega
  have z2 : (0 : Int) ≤ (s : Int) + (B : Int) := by omega
  have z6 : ((s : Int) + (B : Int)).toNat = s + B := by omega
  have z3 : (A : Int) < (n : Int) := by omega
  have z4 : (B : Int) < (n : Int) := by omega
  have z5 : (0 : Int) ≤ (A : Int) := by omega
  have z7 : (0 : Int) ≤ (B : Int) := by omega
  have v1 : IntKind.i64.wrap ((s : Int) + (B : Int)) = (s : Int) + (B : Int) := wrap_sum (by omega) (by omega)
  have v2 : IntKind.i64.wrap (s : Int) = (s : Int) := wrap_nat (by omega)
  have v3 : IntKind.i64.wrap (x + y) = x + y := IntWalk.i64_in _ (by omega)
  have v4 : IntKind.i64.wrap (x + y + z) = x + y + z := IntWalk.i64_in _ (by omega)
  clear hcell hv hl hx hy hz hs hpl hw hP hR r1 r2 r3
  go_enter Try.func50, Try.ntmps50
  go_wp2_with fail
  go_quiet (fail)
  clear v1 v2 v3 v4
  go_wp2
  go_ret
  exact ⟨ret_int HE.out.symm, Drew.one _ _⟩
theorem raise_made (n : Nat) (hn : n ≤ 1048576) : ∀ wx : World, (Instr.makeSlice 25 (.int .i64 n) (.int .i64 n)).run Try.prog wx = .ok (.slice (some ⟨wx.heap.size, 0, none⟩) n n) (wx.alloc (.cells (madeCells #[Value.int .i64 0] n) 2)) := by
  intro wx
  obtain ⟨i0, hi, hz0, hz1, hz2⟩ := info_parts info_i64
  have := run_make (P := Try.prog) wx 25 2 i0 (.int .i64 0) Try.underlying25 hi hz0 .i64 .i64 n n (by omega) (by omega) (by rw [hz2]; omega) (by omega)
  rw [hz1, Int.toNat_natCast, Nat.mul_one] at this
  exact this
theorem raise_row (w : World) (n : Nat) (hn : n ≤ 1048576) : RowI (w.alloc (.cells (madeCells #[Value.int .i64 0] n) 2)) w.heap.size w.heap.size n n (List.replicate n 0) :=
  RowI.made (World.ownsRow_lit w _ n (Nat.le_refl _) (by unfold maxLen; omega) (by simp [size_madeCells]))
theorem PrOk.mono {P : List Int} {n : Nat} {b c : Int} (h : PrOk P n b) (hc : b ≤ c) : PrOk P n c := ⟨h.1, fun x hx => by have := h.2 x hx; omega⟩
theorem raGo_zero (ws : List Int) (n : Nat) (first : Bool) (best : Int) (kept P : List Int) : raGo ws n 0 first best kept P = (best, kept) := rfl
theorem bumps_drop {E : List Int} {k : Nat} (hk : k < E.length) (P : List Int) : bumps (E.drop k) P = bumps (E.drop (k + 1)) (bump P E[k]) := by rw [List.drop_eq_getElem_cons hk]; rfl
set_option maxHeartbeats 4000000 in
set_option maxRecDepth 100000 in
theorem implRaisedBound_any (w : World) {l h : Nat} (v : Value) (ws : List Int) (rounds : Int) (hv : Ints w l h v ws) (hh : h ≤ w.heap.size) (hz : ws.length ≤ 1048576) (kr : I64 rounds) :
    Calls Try.prog 13 #[v, .int .i64 rounds] w fun e w' => ∃ u, e = .returned (.tuple #[.int .i64 (raised ws rounds).1, u, .bool (raised ws rounds).2.2]) ∧ OwnI w' w.heap.size w'.heap.size u (raised ws rounds).2.1 ∧ Below w.heap.size w w' := by
  obtain ⟨va, vc, rfl, hc1, hc2, _⟩ := hv.out
  obtain ⟨W0, hW⟩ : ∃ W0, W0 = w.alloc (.cells #[.slice va ws.length vc] 25) := ⟨_, rfl⟩
  have hb0 : Below w.heap.size w W0 := by rw [hW]; exact (Below.refl _ _).alloc (Nat.le_refl _) _
  have hs0 : w.heap.size < W0.heap.size := by rw [hW]; simp
  have hp0 : W0.cell? ⟨w.heap.size, 0, none⟩ = some (.slice va ws.length vc) := by rw [hW]; exact one_new _ _ _
  have HV := Lib.hid (hv.below hb0 hh)
  have HA := Lib.hid (areCities_any _ ws W0 HV.out hz)
  have HB0 := Lib.hid hb0
  have HP0 := Lib.hid hp0
  have HW := Lib.hid hW
  cases hic : isCit ws
  · have HE := Lib.hid (show raised ws rounds = (0, [], false) by rw [raised, citN_no hic, if_neg (by omega)])
    rw [hic] at HA
    clear hv hb0 hW hic hp0
    go_enter Try.func13, Try.ntmps13
    go_wp2_with fail
    rw [← HW.out]
    have hp := HP0.out
    go_wp2_with fail
    refine HA.out.mono ?_
    rintro e w1 ⟨rfl, hd⟩
    have HD := Lib.hid hd
    clear hd hp
    go_wp2
    go_ret3
    exact ⟨_, by rw [HE.out]; rfl, by rw [HE.out]; exact OwnI.nil _ _ _ (Nat.le_refl _), HB0.out.trans (HD.out.below _)⟩
  obtain ⟨r1, r2, r3, r4, _⟩ := isCit_out hic
  have en := citN_yes hic
  have ec : citI ws.length = (root ws.length : Int) := by rw [citI, if_neg (by omega)]
  have HC := Lib.hid (fun (wx : World) (hv : Ints wx l h (.slice va ws.length vc) ws) => cities_any _ ws wx hv hz)
  rw [ec, ← en] at HC
  rw [hic] at HA
  rw [← en] at r1 r2 r3
  by_cases h3 : 3 ≤ citN ws
  rotate_left
  · have HE := Lib.hid (show raised ws rounds = (0, [], false) by rw [raised, if_neg (fun h' => h3 h'.1)])
    obtain ⟨n, hn⟩ : ∃ n, n = citN ws := ⟨_, rfl⟩
    rw [← hn] at HC h3
    have hn3 : n < 3 := by omega
    clear hv hb0 hW hic hp0 r1 r2 r3 r4 en ec hn
    go_enter Try.func13, Try.ntmps13
    go_wp2_with fail
    rw [← HW.out]
    have hp := HP0.out
    go_wp2_with fail
    refine HA.out.mono ?_
    rintro e w1 ⟨rfl, hd⟩
    have HD := Lib.hid hd
    have hp1 : w1.cell? ⟨w.heap.size, 0, none⟩ = some (.slice va ws.length vc) := by rw [HD.out.cell]; exact HP0.out
    have HC1 := Lib.hid (HC.out w1 (HV.out.drew HD.out))
    clear hd hp
    go_wp2_with fail
    refine HC1.out.mono ?_
    rintro e w' ⟨rfl, rfl⟩
    go_wp2
    go_ret3
    exact ⟨_, by rw [HE.out]; rfl, by rw [HE.out]; exact OwnI.nil _ _ _ (Nat.le_refl _), HB0.out.trans (HD.out.below _)⟩
  have HWI := Lib.hid (within_any rounds 0 50)
  cases hro : inB 0 50 rounds
  · have HE := Lib.hid (show raised ws rounds = (0, [], false) by rw [raised, if_neg (fun h' => by rw [hro] at h'; exact absurd h'.2 (by decide))])
    rw [hro] at HWI
    obtain ⟨n, hn⟩ : ∃ n, n = citN ws := ⟨_, rfl⟩
    rw [← hn] at HC h3
    have hn3 : ¬ (n : Int) < 3 := by omega
    clear hv hb0 hW hic hp0 r1 r2 r3 r4 en ec hn hro
    go_enter Try.func13, Try.ntmps13
    go_wp2_with fail
    rw [← HW.out]
    have hp := HP0.out
    go_wp2_with fail
    refine HA.out.mono ?_
    rintro e w1 ⟨rfl, hd⟩
    have HD := Lib.hid hd
    have hp1 : w1.cell? ⟨w.heap.size, 0, none⟩ = some (.slice va ws.length vc) := by rw [HD.out.cell]; exact HP0.out
    have HC1 := Lib.hid (HC.out w1 (HV.out.drew HD.out))
    clear hd hp
    go_wp2_with fail
    refine HC1.out.mono ?_
    rintro e w' ⟨rfl, rfl⟩
    go_wp2_with fail
    refine (HWI.out _).mono ?_
    rintro e w' ⟨rfl, rfl⟩
    go_wp2
    go_ret3
    exact ⟨_, by rw [HE.out]; rfl, by rw [HE.out]; exact OwnI.nil _ _ _ (Nat.le_refl _), HB0.out.trans (HD.out.below _)⟩
  rw [hro] at HWI
  obtain ⟨q1, q2, q3, q4, q5⟩ := cit_facts h3
  have hrr := inB_true hro
  obtain ⟨R, rfl⟩ : ∃ R : Nat, rounds = (R : Int) := ⟨rounds.toNat, by omega⟩
  have hR50 : R ≤ 50 := by omega
  have HE := Lib.hid (show raised ws (R : Int) = ((raGo ws (citN ws) (R + 1) true 0 [] (List.replicate (citN ws) 0)).1, (raGo ws (citN ws) (R + 1) true 0 [] (List.replicate (citN ws) 0)).2, true) by rw [raised, if_pos ⟨h3, hro⟩, Int.toNat_natCast])
  have HWS := Lib.hid r4
  obtain ⟨n, hn⟩ : ∃ n, n = citN ws := ⟨_, rfl⟩
  rw [← hn] at HC HE h3 q3 q4 q5
  have HQ4 := Lib.hid q4
  have hn3 : ¬ (n : Int) < 3 := by omega
  have hmk := raise_made n (by omega)
  obtain ⟨RES, hRES⟩ : ∃ r, r = raGo ws n (R + 1) true 0 [] (List.replicate n 0) := ⟨_, rfl⟩
  rw [← hRES] at HE
  have HRES := Lib.hid hRES
  clear hv hb0 hW hic hp0 r1 r2 r3 r4 en ec q1 q2 q4 q5 hn hro hrr kr hRES
  go_enter Try.func13, Try.ntmps13
  go_wp2_with fail
  rw [← HW.out]
  have hp := HP0.out
  go_wp2_with fail
  refine HA.out.mono ?_
  rintro e w1 ⟨rfl, hd⟩
  have HD := Lib.hid hd
  have hp1 : w1.cell? ⟨w.heap.size, 0, none⟩ = some (.slice va ws.length vc) := by rw [HD.out.cell]; exact HP0.out
  have HC1 := Lib.hid (HC.out w1 (HV.out.drew HD.out))
  have hs1 : w1.heap.size = W0.heap.size := by rw [HD.out.heap]
  have hs1w : w.heap.size < w1.heap.size := by omega
  have HP1 := Lib.hid hp1
  clear hd hp hs1
  go_wp2_with fail
  refine HC1.out.mono ?_
  rintro e w' ⟨rfl, rfl⟩
  go_wp2_with fail
  refine (HWI.out _).mono ?_
  rintro e w' ⟨rfl, rfl⟩
  go_wp2_with fail
  refine HC1.out.mono ?_
  rintro e w' ⟨rfl, rfl⟩
  obtain ⟨W2, hW2⟩ : ∃ W2, W2 = w1.alloc (.cells #[.int .i64 (n : Int)] 2) := ⟨_, rfl⟩
  obtain ⟨W3, hW3⟩ : ∃ W3, W3 = (W2.alloc (.cells (madeCells #[Value.int .i64 0] n) 2)).alloc (.cells #[.slice (some ⟨W2.heap.size, 0, none⟩) n n] 25) := ⟨_, rfl⟩
  have hs2 : W2.heap.size = w1.heap.size + 1 := by rw [hW2]; simp
  have hb3 : Below W2.heap.size W2 W3 := by rw [hW3]; exact ((Below.refl _ _).alloc (Nat.le_refl _) _).alloc (by simp) _
  have hb2 : Below w1.heap.size w1 W2 := by rw [hW2]; exact (Below.refl _ _).alloc (Nat.le_refl _) _
  have hs3 : W3.heap.size = w1.heap.size + 3 := by rw [hW3]; simp; omega
  have hq : W3.cell? ⟨w1.heap.size, 0, none⟩ = some (.int .i64 (n : Int)) := by
    rw [hb3.cell (p := ⟨w1.heap.size, 0, none⟩) (show w1.heap.size < W2.heap.size by omega), hW2]; exact one_new _ _ _
  have hr : W3.cell? ⟨w1.heap.size + 2, 0, none⟩ = some (.slice (some ⟨w1.heap.size + 1, 0, none⟩) n n) := by
    have := one_new (W2.alloc (.cells (madeCells #[Value.int .i64 0] n) 2)) 25 (.slice (some ⟨W2.heap.size, 0, none⟩) n n)
    rw [← hW3] at this
    have e : (W2.alloc (.cells (madeCells #[Value.int .i64 0] n) 2)).heap.size = w1.heap.size + 2 := by simp; omega
    rw [e, hs2] at this
    exact this
  have hp3 : W3.cell? ⟨w.heap.size, 0, none⟩ = some (.slice va ws.length vc) := by
    rw [hb3.cell (p := ⟨w.heap.size, 0, none⟩) (show w.heap.size < W2.heap.size by omega), hb2.cell (p := ⟨w.heap.size, 0, none⟩) (show w.heap.size < w1.heap.size by omega)]; exact HP1.out
  have hrow : RowI W3 (w1.heap.size + 1) (w1.heap.size + 1) n n (List.replicate n 0) := by
    have := (raise_row W2 n (by omega)).alloc (.cells #[.slice (some ⟨W2.heap.size, 0, none⟩) n n] 25)
    rw [← hW3, hs2] at this; exact this
  have hv3 : Ints W3 l h (.slice va ws.length vc) ws := ((HV.out.drew HD.out).below hb2 (by omega)).below hb3 (by omega)
  have HBW : Hid (Below w.heap.size w W3) := ((HB0.out.trans (HD.out.below _)).trans (hb2.mono (by omega))).trans (hb3.mono (by omega))
  have HQ := Lib.hid hq
  have HRB := Lib.hid hr
  have HP3 := Lib.hid hp3
  have HROW3 := Lib.hid hrow
  have HV3 := Lib.hid hv3
  have hW23 : W3 = ((w1.alloc (.cells #[.int .i64 (n : Int)] 2)).alloc (.cells (madeCells #[Value.int .i64 0] n) 2)).alloc (.cells #[.slice (some ⟨w1.heap.size + 1, 0, none⟩) n n] 25) := by rw [hW3, hs2, hW2]
  have HW23 := Lib.hid hW23
  have hW3s : w1.heap.size + 3 ≤ W3.heap.size := by omega
  clear hW2 hW3 hs2 hb3 hb2 hs3 hq hr hp3 hrow hv3 hW23
  clear W2
  have HW3F : Hid (∀ wx, wx = ((w1.alloc (.cells #[.int .i64 (n : Int)] 2)).alloc (.cells (madeCells #[Value.int .i64 0] n) 2)).alloc (.cells #[.slice (some ⟨w1.heap.size + 1, 0, none⟩) n n] 25) → wx = W3) := fun wx h => by rw [h, ← HW23.out]
  go_wp2_with fail
  rw [← HW23.out]
  obtain ⟨rb, hrb⟩ : ∃ rb, rb = w1.heap.size + 1 + 1 := ⟨_, rfl⟩
  obtain ⟨gb, hgb⟩ : ∃ gb, gb = w1.heap.size + 1 := ⟨_, rfl⟩
  obtain ⟨qb, hqb⟩ : ∃ qb, qb = w1.heap.size := ⟨_, rfl⟩
  have HRB : Hid (W3.cell? ⟨rb, 0, none⟩ = some (.slice (some ⟨gb, 0, none⟩) n n)) := by rw [hrb, hgb]; exact HRB.out
  have HQ : Hid (W3.cell? ⟨qb, 0, none⟩ = some (.int .i64 (n : Int))) := by rw [hqb]; exact HQ.out
  have HROW3 : Hid (RowI W3 gb gb n n (List.replicate n 0)) := by rw [hgb]; exact HROW3.out
  rw [← hrb, ← hgb, ← hqb]
  have o1 : w.heap.size < qb := by omega
  have o2 : qb < gb := by omega
  have o3 : gb < rb := by omega
  have o4 : rb < W3.heap.size := by omega
  clear hrb hgb hqb HW23 HW3F HC1 HP1 hW3s hs1w hs0
  have HV : Hid (Ints W3 l h (.slice va ws.length vc) ws) := HV3
  have qT : ∀ (w : World) (a : Option Addr) (n c n' c' : Nat), (binOp .eql 25 (.slice a n c) (.slice none n' c')).run Try.prog w = .ok (.bool a.isNone) w := fun w a n c n' c' => Lib.run_eql_slice_nil w _ _ a n c n' c' Try.underlying25
  go_loopw [1, 9, 10] (fun rv bv kv wr => ∃ (q best : Int) (kept P : List Int) (first : Bool), -1 ≤ q ∧ q ≤ 50 ∧ rv = .int .i64 q ∧ bv = .int .i64 best ∧ Hid (raGo ws n (q + 1).toNat first best kept P = RES) ∧ Hid (PrOk P n (22 * (50 - q))) ∧ Hid (RowI wr gb gb n n P) ∧ Hid (Same gb (gb + 1) W3 wr) ∧ Hid (OwnI wr W3.heap.size wr.heap.size kv kept) ∧ Hid ((first = true ∧ kv = .slice none 0 0) ∨ (first = false ∧ ∃ ka kc, kv = .slice (some ka) n kc))) (fun rv _ _ _ => (intOf rv + 1).toNat)
  case atStart => exact ⟨R, 0, [], List.replicate n 0, true, by omega, by omega, rfl, rfl, by rw [Hid, HRES.out]; congr 1, ⟨by simp, fun x hx => by rw [List.eq_of_mem_replicate hx]; omega⟩, HROW3, Same.refl _ _ _, OwnI.nil _ _ _ (Nat.le_refl _), .inl ⟨rfl, rfl⟩⟩
  case round =>
    clear HROW3 HRES
    obtain ⟨q, best, kept, P, first, hq1, hq2, rfl, rfl, HG, HPR, HROW, HS, HO, HF⟩ := hrel
    have hsr := HS.out.size
    by_cases hq0 : 0 ≤ q
    · obtain ⟨m, rfl⟩ : ∃ m : Nat, q = (m : Int) := ⟨q.toNat, by omega⟩
      have HG1 : Hid (raGo ws n (m + 1) first best kept P = RES) := by rw [Hid, ← HG.out]; congr 1
      have HCQ : Hid (∀ wx, Same gb (gb + 1) W3 wx → wx.cell? ⟨qb, 0, none⟩ = some (.int .i64 (n : Int)) ∧ wx.cell? ⟨rb, 0, none⟩ = some (.slice (some ⟨gb, 0, none⟩) n n) ∧ wx.cell? ⟨w.heap.size, 0, none⟩ = some (.slice va ws.length vc)) := fun wx hs =>
        ⟨by rw [cell_of_heap (hs.block qb (by omega) (by omega))]; exact HQ.out, by rw [cell_of_heap (hs.block rb (by omega) (by omega))]; exact HRB.out, by rw [cell_of_heap (hs.block w.heap.size (by omega) (by omega))]; exact HP3.out⟩
      have hr1000 : PrOk P n 100000 := HPR.out.mono (by omega)
      have hwr := wayNow_rng HQ4.out HWS.out hr1000 (by omega)
      have HBR := Lib.hid (bound_rng h3 q3 hwr)
      have HBE := Lib.hid (boundEdges_any 50 (fun _ _ => by kernel_rfl) #[.pointer (some ⟨w.heap.size, 0, none⟩), .pointer (some ⟨qb, 0, none⟩), .pointer (some ⟨rb, 0, none⟩)] (wayOf (nowL ws P n) n) n wr h3 q3 (fun wx hb a b a1 a2 b1 b2 => by
        have hsx : Same gb (gb + 1) W3 wx := HS.out.trans (Same.of_below hb (Nat.le_refl _))
        obtain ⟨g1, g2, g3⟩ := HCQ.out wx hsx
        exact raiseWay_any _ ws P wx g3 g1 g2 (HROW.out.below hb HROW.out.lt) (HV.out.same hsx (.inl (by omega))) HQ4.out q3 HWS.out hr1000 a b a1 a2 b1 b2) hwr)
      have hcc := HCQ.out wr HS.out
      have hcq := hcc.1
      have hcr := hcc.2.1
      have HSU := Lib.hid (fun (wx : World) (hv : Ints wx gb wx.heap.size (.slice (some ⟨gb, 0, none⟩) n n) P) => sum_any _ P wx hv hr1000 (by omega) (by omega) (by omega))
      have HPS := Lib.hid (sumP_rng (HPR.out.mono (c := 1200) (by omega)) (by omega) n (Nat.le_refl _))
      have HSC : Hid (scoreP ws P n = (boundOf (wayOf (nowL ws P n) n) n).2 - 2 * sumP P n) := rfl
      have HNX : Hid (nextP ws P n = lessTo (bumps (boundOf (wayOf (nowL ws P n) n) n).1 P) n) := rfl
      have hbr := HBR.out
      obtain ⟨E, hE⟩ : ∃ E, E = (boundOf (wayOf (nowL ws P n) n) n).1 := ⟨_, rfl⟩
      obtain ⟨T, hT⟩ : ∃ T, T = (boundOf (wayOf (nowL ws P n) n) n).2 := ⟨_, rfl⟩
      rw [← hE] at hbr HBE HNX
      rw [← hT] at hbr HBE HSC
      obtain ⟨be1, be2, be3, be4⟩ := hbr
      have HEC := Lib.hid be1
      have HEL := Lib.hid be2
      obtain ⟨sp, hsp⟩ : ∃ sp, sp = sumP P n := ⟨_, rfl⟩
      rw [← hsp] at HSU HPS HSC
      have ps := HPS.out
      have ps1 : -12000 ≤ sp := by omega
      have ps2 : sp ≤ 12000 := by omega
      clear hr1000 hwr hE hT be1 be2 HBR hcc hsp ps HG HPS
      go_wp2_with fail
      refine HBE.out.mono ?_
      rintro e w4 ⟨u, rfl, ho4, hb4⟩
      have HE4 := Lib.hid ho4
      have hs4 := hb4.size
      have HS4 := Lib.hid (HS.out.trans (Same.of_below (lo := gb) (hi := gb + 1) hb4 (Nat.le_refl _)))
      have HR4 := Lib.hid (HROW.out.below hb4 HROW.out.lt)
      have HO4 := Lib.hid ((HO.out.below hb4 (Nat.le_refl _)).mono (Nat.le_refl _) hs4 (Nat.le_refl _))
      have hc4 := HCQ.out w4 HS4.out
      have hcr4 := hc4.2.1
      obtain ⟨ea, ec, rfl⟩ := HE4.out.shape2
      have hgw4 : gb < w4.heap.size := HR4.out.lt
      have HROW4lt : Hid (gb < wr.heap.size) := HROW.out.lt
      have HRD4 := Lib.hid (HR4.out.rd (hi := w4.heap.size) (fun x hx => by have := HPR.out.2 x hx; unfold I64; omega) hgw4 (Nat.le_refl _))
      have HSU4 := Lib.hid (HSU.out w4 HRD4.out)
      have HPL := HPR.out.1
      have HCP4 := Lib.hid (copyInts_any _ P w4 HRD4.out (Nat.le_refl _) (by omega))
      have HEL4 : Hid (E.length = 2 * n) := HEL
      have hEl : E.length ≤ 20 := by have := HEL.out; omega
      have HPLH := Lib.hid HPL
      have v1 : 2 * sp ≤ 24000 := by omega
      have v2 : -24000 ≤ 2 * sp := by omega
      have HW34 : w4.heap.size ≥ W3.heap.size := by omega
      clear ho4 hb4 hc4 HBE HSU HO HROW HS HPL hcq hcr
      go_wp2_with fail
      refine HSU4.out.mono ?_
      rintro e w' ⟨rfl, rfl⟩
      obtain ⟨sc, hsc⟩ : ∃ sc, sc = T - 2 * sp := ⟨_, rfl⟩
      have HSC2 : Hid (scoreP ws P n = sc) := by rw [Hid, HSC.out, hsc]
      have hsc1 : -100000000 ≤ sc := by omega
      have hsc2 : sc ≤ 100000000 := by omega
      go_upto_region 11 with fail
      rw [← hsc]
      clear hsc HSC
      have HYES : Hid (first = true ∨ sc > best → raGo ws n m false sc P (nextP ws P n) = RES) := fun h' => by rw [← HG1.out, raGo_yes (by rw [HSC2.out]; exact h'), HSC2.out]
      have HNO : Hid (¬ (first = true ∨ sc > best) → raGo ws n m false best kept (nextP ws P n) = RES) := fun h' => by rw [← HG1.out, raGo_no (by rw [HSC2.out]; exact h')]
      rcases HF.out with ⟨hft, rfl⟩ | ⟨hff, ka, kc, rfl⟩
      rotate_left
      by_cases hsb : sc > best
      have HN := Lib.hid (HYES.out (.inr hsb))
      have hsb2 : best < sc := hsb
      clear hff HYES HNO HG1 HF
      go_wp2_with fail
      refine HCP4.out.mono ?_
      rintro e w5 ⟨u5, rfl, ho5, hb5⟩
      have ho5' := ho5.mono (show W3.heap.size ≤ w4.heap.size by omega) (Nat.le_refl _) (Nat.le_refl _)
      have HB5 := Lib.hid hb5
      rcases ho5.rowOf with ⟨_, h0⟩ | ⟨g5, c5, e5, _⟩
      · exfalso; have := HPLH.out; rw [h0] at this; simp at this; omega
      rw [HPLH.out] at e5
      subst e5
      have HO5 := Lib.hid ho5'
      go_upto_region 13 with fail
      clear ho5 ho5' hb5 hsb hsb2
      rotate_left
      have HN := Lib.hid (HNO.out (by rw [hff]; rintro (h' | h'); exact absurd h' (by decide); exact absurd h' (by omega)))
      have hsb2 : ¬ best < sc := by omega
      have hsbd : decide (sc > best) = false := decide_eq_false (by omega)
      have hsbd2 : decide (best < sc) = false := decide_eq_false hsb2
      clear hff HYES HNO HG1 HF
      go_upto_region 13 with fail
      obtain ⟨w5, hw5⟩ : ∃ w5 : World, w5 = w4 := ⟨_, rfl⟩
      have HB5 : Hid (Below w4.heap.size w4 w5) := by rw [hw5]; exact Below.refl _ _
      have HO5 : Hid (OwnI w5 W3.heap.size w5.heap.size (.slice (some ka) n kc) kept) := by rw [hw5]; exact HO4.out
      rw [← hw5]
      clear hw5 hsb hsb2 hsbd hsbd2
      rotate_left
      have HN := Lib.hid (HYES.out (.inl hft))
      clear hft HYES HNO HG1 HF
      go_wp2_with fail
      refine HCP4.out.mono ?_
      rintro e w5 ⟨u5, rfl, ho5, hb5⟩
      have ho5' := ho5.mono (show W3.heap.size ≤ w4.heap.size by omega) (Nat.le_refl _) (Nat.le_refl _)
      have HB5 := Lib.hid hb5
      rcases ho5.rowOf with ⟨_, h0⟩ | ⟨g5, c5, e5, _⟩
      · exfalso; have := HPLH.out; rw [h0] at this; simp at this; omega
      rw [HPLH.out] at e5
      subst e5
      have HO5 := Lib.hid ho5'
      go_upto_region 13 with fail
      clear ho5 ho5' hb5
      all_goals
        have hs5 := HB5.out.size
        have HS5 := Lib.hid (HS4.out.trans (Same.of_below (lo := gb) (hi := gb + 1) HB5.out (Nat.le_refl _)))
        have HR5 := Lib.hid (HR4.out.below HB5.out hgw4)
        have HE5 := Lib.hid ((HE4.out.below HB5.out (Nat.le_refl _)).mono (Nat.le_refl _) hs5 (Nat.le_refl _))
        rcases HE5.out.rowOf with ⟨_, h0⟩ | ⟨eb, ec', e1, _, e2, e3, HER⟩
        · exfalso; have := HEL.out; rw [h0] at this; simp at this; omega
        obtain ⟨rfl, rfl⟩ : ea = some ⟨eb, 0, none⟩ ∧ ec = ec' := by simp at e1; exact e1
        have hege := HER.ge
        have hegb : eb ≠ gb := by have := HROW4lt.out; omega
        have HEGB := Lib.hid hegb
        have HB0' : Hid (bumps (E.drop 0) P = bumps E P) := by rw [Hid, List.drop_zero]
        have HERo := Lib.hid HER
        have HCW : Hid (∀ wx, Same gb (gb + 1) w5 wx → wx.cell? ⟨rb, 0, none⟩ = some (.slice (some ⟨gb, 0, none⟩) n n)) := fun wx hs => (HCQ.out wx (HS5.out.trans hs)).2.1
        have HEC2 : Hid (∀ (k : Nat) (hk : k < E.length), ∃ c : Nat, E[k] = (c : Int) ∧ c < n ∧ E.getD k 0 = (c : Int)) := fun k hk => by
          have := HEC.out E[k] (List.getElem_mem hk)
          exact ⟨E[k].toNat, by omega, by omega, by simp [List.getD, hk]; omega⟩
        have HPR2 : Hid (PrOk P n (22 * (50 - (m : Int)))) := HPR
        have HBM : Hid (PrOk (bumps E P) n (22 * (50 - (m : Int)) + 20)) := (bumps_ok E P _ HPR.out HEC.out).mono (by omega)
        have hmb : (m : Int) ≤ 50 := hq2
        clear HER e1 e2 e3 hegb hege HE5 HE4 HB5 HS4 HR4 HO4 HRD4 HCP4 HSC2 HEL HEL4 HPR HEC hs4
        go_wp2_with fail
        go_loopw [60] (fun kv wr => ∃ (k : Nat) (Pk : List Int), k ≤ E.length ∧ kv = .int .i64 k ∧ Hid (bumps (E.drop k) Pk = bumps E P) ∧ Hid (PrOk Pk n (22 * (50 - (m : Int)) + k)) ∧ Hid (RowI wr gb gb n n Pk) ∧ Hid (Same gb (gb + 1) w5 wr)) (fun kv _ => E.length - (intOf kv).toNat)
        case atStart => exact ⟨0, P, Nat.zero_le _, rfl, HB0', by simpa using HPR2, HR5, Same.refl _ _ _⟩
        case round =>
          clear HR5 HB0' HPR2
          obtain ⟨k, Pk, hk, rfl, HBK, HPK, HRK, HSK⟩ := hrel
          have hsk := HSK.out.size
          by_cases hkE : k < E.length
          · obtain ⟨c, hc1', hc2', hc3'⟩ := HEC2.out k hkE
            have HBD := Lib.hid (bumps_drop hkE Pk)
            have hce := (HERo.out.keep (HSK.out.block eb HERo.out.lt (by have := HEGB.out; omega))).cell hkE
            rw [hc3'] at hce
            rw [hc1'] at HBD
            have hcr := HCW.out wr HSK.out
            have hcp := HRK.out.cell hc2'
            have hfp := HRK.out.frozen c
            have hpr := HPK.out.getD hc2'
            have HBP : Hid (bump Pk (c : Int) = Pk.set c (Pk.getD c 0 + 1)) := by rw [Hid, bump, Int.toNat_natCast]
            have HPB : Hid (PrOk (bump Pk (c : Int)) n (22 * (50 - (m : Int)) + ((k + 1 : Nat) : Int))) := (bump_ok HPK.out (c := (c : Int)) (by omega) (by omega)).mono (by omega)
            obtain ⟨x, hx⟩ : ∃ x, x = Pk.getD c 0 := ⟨_, rfl⟩
            rw [← hx] at hcp hpr HBP
            have x1 := hpr.1
            have x2 := hpr.2
            have z1 : (c : Int) < (n : Int) := by omega
            clear hc1' hc3' hx hpr
            go_wp2_with fail
            have HRW : Hid (∀ (u : Int), RowI (wr.setCell ⟨gb, c, none⟩ (.int .i64 u)) gb gb n n (Pk.set c u)) := fun u => HRK.out.stored c u
            have HSW : Hid (∀ (u : Int), Same gb (gb + 1) w5 (wr.setCell ⟨gb, c, none⟩ (.int .i64 u))) := fun u => HSK.out.setCell (show gb ≤ gb by omega) (show gb < gb + 1 by omega) _
            go_roundw
            case rel => exact ⟨k + 1, bump Pk (c : Int), by omega, by go_num, by rw [Hid, ← HBK.out, HBD.out], HPB, by rw [HBP.out]; exact HRW.out _, HSW.out _⟩
            case measure => (simp [intOf]; try omega)
          · obtain rfl : k = E.length := by omega
            have HPE : Hid (Pk = bumps E P) := by rw [Hid, ← HBK.out, List.drop_length]; rfl
            have HRQ : Hid (RowI wr gb gb n n (lessTo (bumps E P) 0)) := by rw [Hid, lessTo_zero, ← HPE.out]; exact HRK.out
            obtain ⟨w6, hw6⟩ : ∃ w6 : World, w6 = wr := ⟨_, rfl⟩
            rw [← hw6] at HRQ HSK ⊢
            have hcr := HCW.out w6 HSK.out
            obtain ⟨Q, hQ⟩ : ∃ Q, Q = bumps E P := ⟨_, rfl⟩
            rw [← hQ] at HRQ HBM HNX
            have HQl := Lib.hid HBM.out.1
            clear hw6 HPE HBK HPK HRK hQ
            go_wp2_with fail
            go_loopw [73] (fun iv wr => ∃ (i : Nat), i ≤ n ∧ iv = .int .i64 i ∧ Hid (RowI wr gb gb n n (lessTo Q i)) ∧ Hid (Same gb (gb + 1) w5 wr)) (fun iv _ => n - (intOf iv).toNat)
            case atStart => exact ⟨0, Nat.zero_le _, rfl, HRQ, HSK⟩
            case round =>
              clear HRQ HSK
              obtain ⟨i, hi, rfl, HRK, HSK⟩ := hrel
              by_cases hin : i < n
              · have hcr2 := HCW.out wr HSK.out
                have hcp := HRK.out.cell hin
                rw [lessTo_getD Q i (by rw [HQl.out]; exact hin)] at hcp
                have hfp := HRK.out.frozen i
                have hpr := HBM.out.getD hin
                have HLS := Lib.hid (lessTo_succ Q i (by rw [HQl.out]; exact hin))
                obtain ⟨x, hx⟩ : ∃ x, x = Q.getD i 0 := ⟨_, rfl⟩
                rw [← hx] at hcp hpr HLS
                have x1 := hpr.1
                have x2 := hpr.2
                clear hx hpr hcr
                have HRW : Hid (∀ (u : Int), RowI (wr.setCell ⟨gb, i, none⟩ (.int .i64 u)) gb gb n n ((lessTo Q i).set i u)) := fun u => HRK.out.stored i u
                have HSW : Hid (∀ (u : Int), Same gb (gb + 1) w5 (wr.setCell ⟨gb, i, none⟩ (.int .i64 u))) := fun u => HSK.out.setCell (show gb ≤ gb by omega) (show gb < gb + 1 by omega) _
                go_wp2_with fail
                go_roundw
                case rel => exact ⟨i + 1, by omega, by go_num, by rw [← HLS.out]; exact HRW.out _, HSW.out _⟩
                case measure => (simp [intOf]; try omega)
              · obtain rfl : i = n := by omega
                have HRN : Hid (RowI wr gb gb i i (nextP ws P i)) := by rw [Hid, HNX.out]; exact HRK.out
                have HSN := Lib.hid (HS5.out.trans HSK.out)
                have HPN : Hid (PrOk (nextP ws P i) i (22 * (50 - ((m : Int) - 1)))) := by rw [Hid, HNX.out]; exact (less_ok HBM.out).mono (by omega)
                have HON := Lib.hid ((HO5.out.same HSK.out (.inr (by omega))).mono (Nat.le_refl _) HSK.out.size (Nat.le_refl _))
                have HMN : Hid (((m : Int) - 1 + 1).toNat = m) := by rw [Hid]; omega
                have HGN : Hid (_ = RES) := HN
                go_wp2
                go_roundw
                case rel => exact ⟨(m : Int) - 1, _, _, nextP ws P i, false, by omega, by omega, rfl, rfl, by rw [Hid, HMN.out]; exact HGN.out, HPN, HRN, HSN, HON, .inr ⟨rfl, _, _, rfl⟩⟩
                case measure => (simp [intOf]; try omega)
    · obtain rfl : q = -1 := by omega
      have HRE : Hid (RES = (best, kept)) := by rw [Hid, ← HG.out]; rfl
      go_wp2
      go_ret3
      exact ⟨_, by rw [HE.out, HRE.out]; rfl, by rw [HE.out, HRE.out]; exact HO.out.mono (by omega) (Nat.le_refl _) (Nat.le_refl _), HBW.out.trans (HS.out.below (by omega) (by omega))⟩
end Go.Proofs.Ytkankfdpodofjaa
