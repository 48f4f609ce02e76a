/-
  The library's symMerge at []int64: where one of the two parts is one element.
-/
import Derived.Test.YtkankfdpodofjaaSymI
namespace Go.Proofs.Ytkankfdpodofjaa
open Go.RowKit
set_option linter.unusedVariables false
set_option maxRecDepth 100000

def IdxR (A : List Int) (N : Nat) : Prop := ∀ q, q < N → 0 ≤ at0 A q ∧ at0 A q < (N : Int)
theorem Seg.idx {N a b : Nat} {A R : List Int} (h : Seg N A R a b) (hb : b ≤ N) (hA : IdxR A N) : IdxR R N := by
  intro q hq
  by_cases hn : a ≤ q ∧ q < b
  · obtain ⟨p, p1, p2, p3⟩ := h.src q hn.1 hn.2
    rw [p3]; exact hA p (by omega)
  · rw [h.out q hq hn]; exact hA q hq
/-- a comparison that reads alone -/
def CmpOk (F : FuncId) (cap : Array Value) (cf : Int → Int → Int) (g N : Nat) (w : World) : Prop :=
  ∀ wx, Same g (g + 1) w wx → ∀ a b, 0 ≤ a → a < (N : Int) → 0 ≤ b → b < (N : Int) → Calls Try.prog F (#[.int .i64 a, .int .i64 b] ++ cap) wx fun e w' => e = .returned (.int .i64 (cf a b)) ∧ Drew wx w'
theorem CmpOk.same {F : FuncId} {cap : Array Value} {cf : Int → Int → Int} {g N : Nat} {w w' : World} (h : CmpOk F cap cf g N w) (hs : Same g (g + 1) w w') : CmpOk F cap cf g N w' := fun wx hx => h wx (hs.trans hx)
theorem Drew.same {w w' : World} (h : Drew w w') (l r : Nat) : Same l r w w' := Same.of_below (h.below w.heap.size) (Nat.le_refl _)
theorem two_facts {lo g cp N : Nat} {R : List Int} {wr : World} (h : RowI wr lo g N cp R) {p q : Nat} (hp : p < N) (hq : q < N) (hpq : p ≠ q) {x y : Int} (hx : at0 R p = x) (hy : at0 R q = y) :
    (wr.setCell ⟨g, p, none⟩ (.int .i64 y)).cell? ⟨g, q, none⟩ = some (.int .i64 y) ∧ (wr.setCell ⟨g, p, none⟩ (.int .i64 y)).frozen? ⟨g, q, none⟩ = false ∧ (wr.setCell ⟨g, q, none⟩ (.int .i64 x)).cell? ⟨g, p, none⟩ = some (.int .i64 x) ∧ (wr.setCell ⟨g, q, none⟩ (.int .i64 x)).frozen? ⟨g, p, none⟩ = false := by
  have hl := h.length
  refine ⟨?_, (h.stored p y).frozen q, ?_, (h.stored q x).frozen p⟩
  · rw [(h.stored p y).cell hq]
    have := at0_set R p q y (by omega)
    rw [if_neg (fun e => hpq e.symm), hy] at this
    exact congrArg _ (congrArg _ this)
  · rw [(h.stored q x).cell hp]
    have := at0_set R q p x (by omega)
    rw [if_neg hpq, hx] at this
    exact congrArg _ (congrArg _ this)
theorem at0_two {R : List Int} {N p q : Nat} (hl : R.length = N) (hp : p < N) (hq : q < N) (t : Nat) : at0 ((R.set p (at0 R q)).set q (at0 R p)) t = at0 R (if t = q then p else if t = p then q else t) := by
  rw [at0_set _ _ _ _ (by rw [List.length_set]; omega), at0_set _ _ _ _ (by omega)]
  by_cases e1 : t = q
  · rw [if_pos e1, if_pos e1]
  · rw [if_neg e1, if_neg e1]
    by_cases e2 : t = p
    · rw [if_pos e2, if_pos e2]
    · rw [if_neg e2, if_neg e2]
set_option maxHeartbeats 4000000 in
set_option maxRecDepth 100000 in
theorem symLeft_any (F : FuncId) (hF : ∀ args wx, (callFunc F args).run Try.prog wx = .ok (.enter F args) wx) (cap : Array Value) (cf : Int → Int → Int) (key : Int → Int) (hkey : ∀ x y, decide (cf x y < 0) = decide (key x < key y)) {lo g cp N : Nat} (A : List Int) (w : World) (a b : Nat) (hrow : RowI w lo g N cp A) (hA : IdxR A N) (h2 : a + 1 < b) (h3 : b ≤ N) (hN : N ≤ 1000)
    (hcmp : CmpOk F cap cf g N w) (hs : SortR key A (a + 1) b) (hc : Cross A a (a + 1) b) :
    Calls Try.prog 116 #[.slice (some ⟨g, 0, none⟩) N cp, .int .i64 a, .int .i64 ((a + 1 : Nat)), .int .i64 b, .func (.func F) #[] cap] w fun e w' => e = .returned (.tuple #[]) ∧ ∃ R, RowI w' lo g N cp R ∧ Seg N A R a b ∧ SortR key R a b ∧ Same g (g + 1) w w' := by
  have HKEY := Lib.hid hkey
  have HROW := Lib.hid hrow
  have HA := Lib.hid hA
  have HC := Lib.hid hcmp
  have HS := Lib.hid hs
  have HCR := Lib.hid hc
  have u1 : IntKind.i64.wrap (((a + 1 : Nat) : Int) - (a : Int)) = 1 := by rw [show ((a + 1 : Nat) : Int) - (a : Int) = 1 by omega]; rfl
  have u2 : ((a + 1 : Nat) : Int) - (a : Int) = 1 := by omega
  have u3 : (a : Int) + 1 - (a : Int) = 1 := by omega
  clear hkey hrow hA hcmp hs hc
  go_enter Try.func116, Try.ntmps116
  go_wp2_with fail
  go_loopw [10, 11] (fun iv jv wr => ∃ i j : Nat, Hid (a + 1 ≤ i ∧ i ≤ j ∧ j ≤ b) ∧ iv = .int .i64 i ∧ jv = .int .i64 j ∧ Hid (∀ h, a + 1 ≤ h → h < i → key (at0 A h) < key (at0 A a)) ∧ Hid (∀ h, j ≤ h → h < b → key (at0 A a) ≤ key (at0 A h)) ∧ Hid (Drew w wr)) (fun iv jv _ => (intOf jv).toNat - (intOf iv).toNat)
  case atStart => exact ⟨a + 1, b, ⟨Nat.le_refl _, by omega, Nat.le_refl _⟩, by go_num, rfl, fun h h1 h2 => by omega, fun h h1 h2 => by omega, Drew.refl _⟩
  case round =>
    obtain ⟨i, j, ⟨hai, hij, hjb⟩, rfl, rfl, H1, H2, HD⟩ := hrel
    by_cases hlt : i < j
    · have v1 : IntKind.i64.wrap ((i : Int) + (j : Int)) = (i : Int) + (j : Int) := IntWalk.i64_in _ (by omega)
      obtain ⟨h, hh⟩ : ∃ h : Nat, ((i : Int) + (j : Int)) / 2 = (h : Int) := ⟨(i + j) / 2, by omega⟩
      have hih : i ≤ h := by omega
      have hhj : h < j := by omega
      have hr := HROW.out.drew HD.out
      have ch := hr.cell (k := h) (by omega)
      have ca := hr.cell (k := a) (by omega)
      have ix := HA.out h (by omega)
      have iy := HA.out a (by omega)
      have HCC := Lib.hid (fun (wx : World) (hx : Drew wr wx) => HC.out wx ((HD.out.trans hx).same _ _) (at0 A h) (at0 A a) ix.1 ix.2 iy.1 iy.2)
      have HK := Lib.hid (HKEY.out (at0 A h) (at0 A a))
      obtain ⟨x, hx⟩ : ∃ x, x = at0 A h := ⟨_, rfl⟩
      obtain ⟨y, hy⟩ : ∃ y, y = at0 A a := ⟨_, rfl⟩
      rw [show A.getD h 0 = x from hx.symm] at ch
      rw [show A.getD a 0 = y from hy.symm] at ca
      rw [← hx, ← hy] at HCC HK
      have HX := Lib.hid hx
      have HYY := Lib.hid hy
      have h0 : (h : Int) < (N : Int) := by omega
      have a0 : (a : Int) < (N : Int) := by omega
      clear hr ix iy hx hy
      go_upto_region 5 with (fail)
      clear hh v1
      cases hc : decide (cf x y < 0)
      · have HN : Hid (∀ t, h ≤ t → t < b → key (at0 A a) ≤ key (at0 A t)) := fun t t1 t2 => by
          have e := HK.out
          rw [hc] at e
          have e2 := of_decide_eq_false e.symm
          rw [HX.out, HYY.out] at e2
          by_cases htj : j ≤ t
          · exact H2.out t htj t2
          · have := sort_key HS.out (p := h) (q := t) (by omega) t1 t2
            omega
        go_wp2_with fail
        go_quiet ((exact quiet_drew (HCC.out _ (Drew.one _ _))))
        go_wp2
        go_roundw
        case rel => exact ⟨i, h, ⟨hai, hih, by omega⟩, rfl, rfl, H1, HN, HD.out.step _⟩
        case measure => simp [intOf]; omega
      · have HN : Hid (∀ t, a + 1 ≤ t → t < h + 1 → key (at0 A t) < key (at0 A a)) := fun t t1 t2 => by
          have e := HK.out
          rw [hc] at e
          have e2 := of_decide_eq_true e.symm
          rw [HX.out, HYY.out] at e2
          have := sort_key HS.out (p := t) (q := h) t1 (by omega) (by omega)
          omega
        have v2 : IntKind.i64.wrap ((h : Int) + 1) = (h : Int) + 1 := IntWalk.i64_in _ (by omega)
        go_wp2_with fail
        go_quiet ((exact quiet_drew (HCC.out _ (Drew.one _ _))))
        go_wp2
        go_roundw
        case rel => exact ⟨h + 1, j, ⟨by omega, by omega, hjb⟩, by go_num, rfl, HN, H2, HD.out.step _⟩
        case measure => simp [intOf]; omega
    · obtain rfl : i = j := by omega
      have HR0 := Lib.hid (HROW.out.drew HD.out)
      have HS0 := Lib.hid (HD.out.same g (g + 1))
      have v2 : IntKind.i64.wrap ((i : Int) - 1) = (i : Int) - 1 := IntWalk.i64_in _ (by omega)
      clear HD
      go_wp2_with fail
      go_loopw [13] (fun kv wr => ∃ (k : Nat) (R : List Int), a ≤ k ∧ k + 1 ≤ i ∧ kv = .int .i64 k ∧ Hid (RowI wr lo g N cp R) ∧ Hid (∀ q, q < N → at0 R q = at0 A (if a ≤ q ∧ q < k then q + 1 else if q = k then a else q)) ∧ Hid (Same g (g + 1) w wr)) (fun kv _ => i - (intOf kv).toNat)
      case atStart => exact ⟨a, A, Nat.le_refl _, hai, rfl, HR0, fun q hq => by
        rw [if_neg (by omega)]
        by_cases e : q = a
        · rw [if_pos e, e]
        · rw [if_neg e], HS0⟩
      case round =>
        clear HR0 HS0
        obtain ⟨k, R, hak, hki, rfl, HR, HF, HSS⟩ := hrel
        have hRl := HR.out.length
        have k1 : IntKind.i64.wrap ((k : Int) + 1) = (k : Int) + 1 := IntWalk.i64_in _ (by omega)
        by_cases hkn : k + 1 < i
        · have c1 := HR.out.cell (k := k) (by omega)
          have c2 := HR.out.cell (k := k + 1) (by omega)
          have f1 := HR.out.frozen k
          have f2 := HR.out.frozen (k + 1)
          have HT : Hid (∀ q, q < N → at0 ((R.set k (at0 R (k + 1))).set (k + 1) (at0 R k)) q = at0 A (if a ≤ q ∧ q < k + 1 then q + 1 else if q = k + 1 then a else q)) := fun q hq => by
            rw [at0_two hRl (by omega) (by omega), HF.out _ (by
              repeat' split
              all_goals omega)]
            congr 1
            repeat' split
            all_goals omega
          obtain ⟨x, hx⟩ : ∃ x, x = at0 R k := ⟨_, rfl⟩
          obtain ⟨y, hy⟩ : ∃ x, x = at0 R (k + 1) := ⟨_, rfl⟩
          obtain ⟨t1, t2, t3, t4⟩ := two_facts HR.out (p := k) (q := k + 1) (by omega) (by omega) (by omega) hx.symm hy.symm
          rw [show R.getD k 0 = x from hx.symm] at c1
          rw [show R.getD (k + 1) 0 = y from hy.symm] at c2
          rw [← hx, ← hy] at HT
          have z1 : (k : Int) + 1 < (N : Int) := by omega
          have z2 : (k : Int) < (N : Int) := by omega
          have z3 : ((k : Int) + 1).toNat = k + 1 := by omega
          have z4 : (0 : Int) ≤ (k : Int) + 1 := by omega
          have z5 : (k : Int) < (i : Int) - 1 := by omega
          clear hx hy
          go_wp2_with fail
          go_region
          all_goals
            clear k1
            go_wp2
            go_roundw
            case rel => exact ⟨k + 1, _, by omega, by omega, by go_num, ((HR.out.stored k y).stored (k + 1) x).drewN _, HT, ((HSS.out.setCell (p := ⟨g, k, none⟩) (Nat.le_refl _) (Nat.lt_succ_self _) _).setCell (p := ⟨g, k + 1, none⟩) (Nat.le_refl _) (Nat.lt_succ_self _) _).drewN _⟩
            case measure => simp [intOf]; omega
        · have hik : k + 1 = i := by omega
          have z5 : ¬ (k : Int) < (i : Int) - 1 := by omega
          have HOL := Lib.hid (one_left (key := key) h3 hai (by omega) HS.out HCR.out H1.out (fun h h1 h2 => by have := H2.out h h1 h2; omega) (R := R) (fun q hq => by rw [HF.out q hq]; congr 1; (repeat' split) <;> omega))
          clear hik
          go_wp2
          (try simp only [Exit.inBlock, Exit.then])
          refine bodyPost_ret (results_none rfl _ _ _) rfl ?_
          exact ⟨rfl, R, HR.out, HOL.out.1, HOL.out.2, HSS.out⟩
set_option maxHeartbeats 4000000 in
set_option maxRecDepth 100000 in
theorem symRight_any (F : FuncId) (hF : ∀ args wx, (callFunc F args).run Try.prog wx = .ok (.enter F args) wx) (cap : Array Value) (cf : Int → Int → Int) (key : Int → Int) (hkey : ∀ x y, decide (cf x y < 0) = decide (key x < key y)) {lo g cp N : Nat} (A : List Int) (w : World) (a m : Nat) (hrow : RowI w lo g N cp A) (hA : IdxR A N) (h2 : a + 1 < m) (h3 : m + 1 ≤ N) (hN : N ≤ 1000)
    (hcmp : CmpOk F cap cf g N w) (hs : SortR key A a m) (hc : Cross A a m (m + 1)) :
    Calls Try.prog 116 #[.slice (some ⟨g, 0, none⟩) N cp, .int .i64 a, .int .i64 m, .int .i64 ((m + 1 : Nat)), .func (.func F) #[] cap] w fun e w' => e = .returned (.tuple #[]) ∧ ∃ R, RowI w' lo g N cp R ∧ Seg N A R a (m + 1) ∧ SortR key R a (m + 1) ∧ Same g (g + 1) w w' := by
  have HKEY := Lib.hid hkey
  have HROW := Lib.hid hrow
  have HA := Lib.hid hA
  have HC := Lib.hid hcmp
  have HS := Lib.hid hs
  have HCR := Lib.hid hc
  have u1 : IntKind.i64.wrap ((m : Int) - (a : Int)) = ((m - a : Nat) : Int) := by rw [show (m : Int) - (a : Int) = ((m - a : Nat) : Int) by omega]; exact IntWalk.i64_in _ (by omega)
  have u2 : (((m - a : Nat) : Int) == 1) = false := by simp; omega
  have u3 : ¬ ((m - a : Nat) : Int) = 1 := by omega
  have u4 : IntKind.i64.wrap (((m + 1 : Nat) : Int) - (m : Int)) = 1 := by rw [show ((m + 1 : Nat) : Int) - (m : Int) = 1 by omega]; rfl
  have u5 : ((m + 1 : Nat) : Int) - (m : Int) = 1 := by omega
  have u6 : (m : Int) + 1 - (m : Int) = 1 := by omega
  have u7 : ¬ m - a = 1 := by omega
  clear hkey hrow hA hcmp hs hc
  go_enter Try.func116, Try.ntmps116
  go_wp2_with fail
  go_loopw [14, 15] (fun iv jv wr => ∃ i j : Nat, Hid (a ≤ i ∧ i ≤ j ∧ j ≤ m) ∧ iv = .int .i64 i ∧ jv = .int .i64 j ∧ Hid (∀ h, a ≤ h → h < i → ¬ key (at0 A m) < key (at0 A h)) ∧ Hid (∀ h, j ≤ h → h < m → key (at0 A m) < key (at0 A h)) ∧ Hid (Drew w wr)) (fun iv jv _ => (intOf jv).toNat - (intOf iv).toNat)
  case atStart => exact ⟨a, m, ⟨Nat.le_refl _, by omega, Nat.le_refl _⟩, rfl, rfl, fun h h1 h2 => by omega, fun h h1 h2 => by omega, Drew.refl _⟩
  case round =>
    obtain ⟨i, j, ⟨hai, hij, hjb⟩, rfl, rfl, H1, H2, HD⟩ := hrel
    by_cases hlt : i < j
    · have v1 : IntKind.i64.wrap ((i : Int) + (j : Int)) = (i : Int) + (j : Int) := IntWalk.i64_in _ (by omega)
      obtain ⟨h, hh⟩ : ∃ h : Nat, ((i : Int) + (j : Int)) / 2 = (h : Int) := ⟨(i + j) / 2, by omega⟩
      have hih : i ≤ h := by omega
      have hhj : h < j := by omega
      have hr := HROW.out.drew HD.out
      have ch := hr.cell (k := h) (by omega)
      have ca := hr.cell (k := m) (by omega)
      have ix := HA.out h (by omega)
      have iy := HA.out m (by omega)
      have HCC := Lib.hid (fun (wx : World) (hx : Drew wr wx) => HC.out wx ((HD.out.trans hx).same _ _) (at0 A m) (at0 A h) iy.1 iy.2 ix.1 ix.2)
      have HK := Lib.hid (HKEY.out (at0 A m) (at0 A h))
      obtain ⟨x, hx⟩ : ∃ x, x = at0 A h := ⟨_, rfl⟩
      obtain ⟨y, hy⟩ : ∃ y, y = at0 A m := ⟨_, rfl⟩
      rw [show A.getD h 0 = x from hx.symm] at ch
      rw [show A.getD m 0 = y from hy.symm] at ca
      rw [← hx, ← hy] at HCC HK
      have HX := Lib.hid hx
      have HYY := Lib.hid hy
      have h0 : (h : Int) < (N : Int) := by omega
      have a0 : (m : Int) < (N : Int) := by omega
      clear hr ix iy hx hy
      go_upto_region 17 with (fail)
      clear hh v1
      cases hc : decide (cf y x < 0)
      · have HN : Hid (∀ t, a ≤ t → t < h + 1 → ¬ key (at0 A m) < key (at0 A t)) := fun t t1 t2 => by
          have e := HK.out
          rw [hc] at e
          have e2 := of_decide_eq_false e.symm
          rw [HX.out, HYY.out] at e2
          have := sort_key HS.out (p := t) (q := h) t1 (by omega) (by omega)
          omega
        have v2 : IntKind.i64.wrap ((h : Int) + 1) = (h : Int) + 1 := IntWalk.i64_in _ (by omega)
        go_wp2_with fail
        go_quiet ((exact quiet_drew (HCC.out _ (Drew.one _ _))))
        go_wp2
        go_roundw
        case rel => exact ⟨h + 1, j, ⟨by omega, by omega, hjb⟩, by go_num, rfl, by simpa using HN, H2, HD.out.step _⟩
        case measure => simp [intOf]; omega
      · have HN : Hid (∀ t, h ≤ t → t < m → key (at0 A m) < key (at0 A t)) := fun t t1 t2 => by
          have e := HK.out
          rw [hc] at e
          have e2 := of_decide_eq_true e.symm
          rw [HX.out, HYY.out] at e2
          have := sort_key HS.out (p := h) (q := t) (by omega) t1 t2
          omega
        go_wp2_with fail
        go_quiet ((exact quiet_drew (HCC.out _ (Drew.one _ _))))
        go_wp2
        go_roundw
        case rel => exact ⟨i, h, ⟨hai, hih, by omega⟩, rfl, rfl, H1, HN, HD.out.step _⟩
        case measure => simp [intOf]; omega
    · obtain rfl : i = j := by omega
      have HR0 := Lib.hid (HROW.out.drew HD.out)
      have HS0 := Lib.hid (HD.out.same g (g + 1))
      clear HD
      go_wp2_with fail
      go_loopw [17] (fun kv wr => ∃ (k : Nat) (R : List Int), Hid (i ≤ k ∧ k ≤ m) ∧ kv = .int .i64 k ∧ Hid (RowI wr lo g N cp R) ∧ Hid (∀ q, q < N → at0 R q = at0 A (if k < q ∧ q ≤ m then q - 1 else if q = k then m else q)) ∧ Hid (Same g (g + 1) w wr)) (fun kv _ => (intOf kv).toNat)
      case atStart => exact ⟨m, A, ⟨by omega, Nat.le_refl _⟩, rfl, HR0, fun q hq => by
        rw [if_neg (by omega)]
        by_cases e : q = m
        · rw [if_pos e, e]
        · rw [if_neg e], HS0⟩
      case round =>
        clear HR0 HS0
        obtain ⟨k, R, ⟨hak, hki⟩, rfl, HR, HF, HSS⟩ := hrel
        have hRl := HR.out.length
        by_cases hkn : i < k
        · obtain ⟨r, rfl⟩ : ∃ r, k = r + 1 := ⟨k - 1, by omega⟩
          have k1 : IntKind.i64.wrap (((r + 1 : Nat) : Int) - 1) = (r : Int) := by rw [show ((r + 1 : Nat) : Int) - 1 = (r : Int) by omega]; exact IntWalk.i64_in _ (by omega)
          have k2 : IntKind.i64.wrap ((r : Int) + 1 - 1) = (r : Int) := by rw [show (r : Int) + 1 - 1 = (r : Int) by omega]; exact IntWalk.i64_in _ (by omega)
          have c1 := HR.out.cell (k := r + 1) (by omega)
          have c2 := HR.out.cell (k := r) (by omega)
          have f1 := HR.out.frozen (r + 1)
          have f2 := HR.out.frozen r
          have HT : Hid (∀ q, q < N → at0 ((R.set (r + 1) (at0 R r)).set r (at0 R (r + 1))) q = at0 A (if r < q ∧ q ≤ m then q - 1 else if q = r then m else q)) := fun q hq => by
            rw [at0_two hRl (by omega) (by omega), HF.out _ (by
              repeat' split
              all_goals omega)]
            congr 1
            repeat' split
            all_goals omega
          obtain ⟨x, hx⟩ : ∃ x, x = at0 R (r + 1) := ⟨_, rfl⟩
          obtain ⟨y, hy⟩ : ∃ x, x = at0 R r := ⟨_, rfl⟩
          obtain ⟨t1, t2, t3, t4⟩ := two_facts HR.out (p := r + 1) (q := r) (by omega) (by omega) (by omega) hx.symm hy.symm
          rw [show R.getD (r + 1) 0 = x from hx.symm] at c1
          rw [show R.getD r 0 = y from hy.symm] at c2
          rw [← hx, ← hy] at HT
          have z1 : (r : Int) + 1 < (N : Int) := by omega
          have z2 : (r : Int) < (N : Int) := by omega
          have z3 : ((r : Int) + 1).toNat = r + 1 := by omega
          have z4 : (0 : Int) ≤ (r : Int) + 1 := by omega
          have z5 : (i : Int) < (r : Int) + 1 := by omega
          clear hx hy
          go_wp2_with fail
          go_region
          all_goals
            clear k1
            go_wp2
            go_roundw
            case rel => exact ⟨r, _, ⟨by omega, by omega⟩, by go_num, ((HR.out.stored (r + 1) y).stored r x).drewN _, HT, ((HSS.out.setCell (p := ⟨g, r + 1, none⟩) (Nat.le_refl _) (Nat.lt_succ_self _) _).setCell (p := ⟨g, r, none⟩) (Nat.le_refl _) (Nat.lt_succ_self _) _).drewN _⟩
            case measure => (simp [intOf]; try omega)
        · have hik : k = i := by omega
          have z5 : ¬ (i : Int) < (k : Int) := by omega
          have HOL := Lib.hid (one_right (key := key) h3 hai hjb HS.out HCR.out (fun h h1 h2 => by have := H1.out h h1 h2; omega) H2.out (R := R) (fun q hq => by rw [HF.out q hq, hik]))
          clear hik
          go_wp2
          (try simp only [Exit.inBlock, Exit.then])
          refine bodyPost_ret (results_none rfl _ _ _) rfl ?_
          exact ⟨rfl, R, HR.out, HOL.out.1, HOL.out.2, HSS.out⟩
end Go.Proofs.Ytkankfdpodofjaa
