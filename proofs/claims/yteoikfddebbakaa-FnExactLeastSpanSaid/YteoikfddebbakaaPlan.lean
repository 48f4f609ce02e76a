/-
  ListPlan, LongFirst: contracts in the reference and in the program.
-/
import Derived.Test.YteoikfddebbakaaQuo
import Derived.Deep.RegionHeld3
namespace Go.Proofs.Yteoikfddebbakaa
open Go.RowKit
set_option linter.unusedVariables false
set_option maxRecDepth 100000

/-! ### The least of a list, by its place -/
def leastGo (F : List Int) : Nat → Nat → Nat → Nat
  | 0, _, b => b
  | n + 1, i, b => leastGo F n (i + 1) (if F.getD i 0 < F.getD b 0 then i else b)
def leastOf (F : List Int) : Nat := leastGo F F.length 0 0
theorem least_lt {F : List Int} : ∀ (n i b : Nat), i + n ≤ F.length → b < F.length → leastGo F n i b < F.length := by
  intro n
  induction n with
  | zero => intro i b _ h; exact h
  | succ n ih =>
    intro i b h1 h2
    rw [leastGo]
    refine ih _ _ (by omega) ?_
    split <;> omega
theorem leastOf_lt {F : List Int} (h : 0 < F.length) : leastOf F < F.length := least_lt _ _ _ (by omega) h
theorem least_yes {F : List Int} {m i b : Nat} (hi : i < m) (h : F.getD i 0 < F.getD b 0) : leastGo F (m - i) i b = leastGo F (m - (i + 1)) (i + 1) i := by
  rw [show m - i = (m - (i + 1)) + 1 by omega, leastGo, if_pos h]
theorem least_no {F : List Int} {m i b : Nat} (hi : i < m) (h : ¬ F.getD i 0 < F.getD b 0) : leastGo F (m - i) i b = leastGo F (m - (i + 1)) (i + 1) b := by
  rw [show m - i = (m - (i + 1)) + 1 by omega, leastGo, if_neg h]
theorem leastOf_one {F : List Int} {m : Nat} (hm : F.length = m) (h : 0 < m) : leastGo F (m - 1) 1 0 = leastOf F := by
  rw [leastOf, hm, show m = (m - 1) + 1 by omega, leastGo, if_neg (by omega)]
  simp
/-! ### The plan -/
def planGo (L : List Int) : List Int → List Int → List Int → Int → List Int × List Int × Int
  | [], F, O, m => (O, F, m)
  | j :: r, F, O, m => planGo L r (F.set (leastOf F) (F.getD (leastOf F) 0 + L.getD j.toNat 0)) (O.set j.toNat (leastOf F : Int)) (max m (F.getD (leastOf F) 0 + L.getD j.toNat 0))
def plan (js : List JobD) (zs : List Int) (M : Nat) : List Int × List Int × Int := planGo (longs js) zs (List.replicate M 0) (List.replicate js.length 0) 0
/-- m is the greatest of F -/
def Top (F : List Int) (m : Int) : Prop := m ∈ F ∧ ∀ x ∈ F, x ≤ m
theorem top_maxL {F : List Int} {m : Int} (h : Top F m) : maxL F = m := by
  have hne : F ≠ [] := by intro e; rw [e] at h; exact absurd h.1 (by simp)
  have h1 := (maxL_lt F hne (m + 1)).2 (fun z hz => by have := h.2 z hz; omega)
  have h2 : ¬ maxL F < m := fun hl => by have := (maxL_lt F hne m).1 hl m h.1; omega
  omega
theorem Top.step {F : List Int} {m : Int} (h : Top F m) {b : Nat} (hb : b < F.length) {d : Int} (hd : 0 ≤ d) : Top (F.set b (F.getD b 0 + d)) (max m (F.getD b 0 + d)) := by
  have hbm := h.2 _ (getD_mem hb)
  refine ⟨?_, fun x hx => ?_⟩
  · by_cases hc : m ≤ F.getD b 0 + d
    · rw [show max m (F.getD b 0 + d) = F.getD b 0 + d by omega]
      exact List.mem_set hb _
    · rw [show max m (F.getD b 0 + d) = m by omega]
      obtain ⟨i, hi, e⟩ := List.mem_iff_getElem.1 h.1
      have hne : b ≠ i := by
        rintro rfl
        have : F.getD b 0 = m := by simp [List.getD, hb, e]
        omega
      exact List.mem_iff_getElem.2 ⟨i, by simpa using hi, by rw [List.getElem_set_ne hne]; exact e⟩
  · rcases List.mem_or_eq_of_mem_set hx with hx | rfl
    · have := h.2 x hx; omega
    · omega
theorem planGo_top (L : List Int) : ∀ (zs F O : List Int) (m : Int), 0 < F.length → Top F m → (∀ z ∈ zs, 0 ≤ L.getD z.toNat 0) → Top (planGo L zs F O m).2.1 (planGo L zs F O m).2.2 := by
  intro zs
  induction zs with
  | nil => intro F O m _ h _; exact h
  | cons z r ih =>
    intro F O m h0 h hL
    rw [planGo]
    exact ih _ _ _ (by simpa using h0) (h.step (leastOf_lt h0) (hL z (by simp))) (fun x hx => hL x (by simp [hx]))
theorem replicate_top {M : Nat} (h : 0 < M) : Top (List.replicate M 0) 0 := ⟨by simp; omega, fun x hx => by rw [List.eq_of_mem_replicate hx]; omega⟩
def areMach (js : List JobD) (M : Int) : Bool := areJobs js && inB 1 8 M
def listOrder : Nat → List Int
  | 0 => []
  | n + 1 => listOrder n ++ [(n : Int)]
theorem listOrder_idx (n : Nat) : Idx n (listOrder n) := by
  induction n with
  | zero => intro x hx; simp [listOrder] at hx
  | succ n ih =>
    intro x hx
    simp only [listOrder, List.mem_append, List.mem_singleton] at hx
    rcases hx with hx | rfl
    · have := ih x hx; omega
    · omega
theorem listOrder_len (n : Nat) : (listOrder n).length = n := by
  induction n with
  | zero => rfl
  | succ n ih => simp [listOrder, ih]
def negs (js : List JobD) : List Int := js.map fun j => -j.x0
def longOrder (js : List JobD) : List Int := ordTo (keyLt (negs js)) js.length
def planOf (js : List JobD) (M : Int) (order : List Int) : List Int × Int × Bool := if areMach js M then ((plan js order M.toNat).1, (plan js order M.toNat).2.2, true) else ([], 0, false)
def listPlan (js : List JobD) (M : Int) : List Int × Int × Bool := planOf js M (listOrder js.length)
def longFirst (js : List JobD) (M : Int) : List Int × Int × Bool := planOf js M (longOrder js)
theorem areJobs_out {js : List JobD} (h : areJobs js = true) : 1 ≤ js.length ∧ js.length ≤ 12 ∧ ∀ j ∈ js, okJob j = true := by
  have := areJobs_len h
  exact ⟨by omega, by omega, jobs_ok h⟩
set_option maxHeartbeats 2000000 in
set_option maxRecDepth 100000 in
theorem l06List_any {l h l' h' : Nat} (v u : Value) (js : List JobD) (zs : List Int) (M : Nat) (w : World) (hv : Jobs w l h v js) (hu : Ints w l' h' u zs) (hh : h ≤ w.heap.size) (hh' : h' ≤ w.heap.size)
    (hJ : areJobs js = true) (hM : 1 ≤ M ∧ M ≤ 8) (hO : Idx js.length zs) (hzl : zs.length ≤ 12) :
    Calls Try.prog 93 #[v, u, .int .i64 M] w fun e w' => ∃ r, e = .returned (.tuple #[r, .int .i64 (plan js zs M).2.2]) ∧ OwnI w' w.heap.size w'.heap.size r (plan js zs M).1 ∧ Below w.heap.size w w' := by
  obtain ⟨a, cap, rfl, hc1, hc2, hd⟩ := hv.out
  obtain ⟨a', cap', rfl, gc1, gc2, gd⟩ := hu.out
  obtain ⟨j1, j2, j3⟩ := areJobs_out hJ
  have HO := Lib.hid hO
  have HJ := Lib.hid j3
  have hm1 := hM.1
  have hm2 := hM.2
  clear j3 hJ hO hM
  obtain ⟨i0, hi, hz0, hz1, hz2⟩ := info_parts info_i64
  have hml : js.length ≤ maxLen := by unfold maxLen; omega
  have hmm : M ≤ maxLen := by unfold maxLen; omega
  go_enter Try.func93, Try.ntmps93
  go_wp2_with (refine wpList_make_full _ rfl _ _ 32 rfl w.heap.size 2 i0 (.int .i64 0) 1 Try.underlying32 hi hz0 hz1 .i64 .i64 _ _ M rfl rfl rfl rfl ?c1 hmm ?c2 ?_)
  case c1 => rw [hz2]; omega
  case c2 => exact Nat.le_refl _
  intro w1 hown hg
  have hrow1 := RowI.made hown
  have hb1 : Below w.heap.size w w1 := (Below.refl _ _).grown hg (Nat.le_refl _) (fun k hk => by cases hk)
  have hs1 := hrow1.lt
  clear hown hg
  go_wp2_with (refine wpList_make_full _ rfl _ _ 32 rfl w1.heap.size 2 i0 (.int .i64 0) 1 Try.underlying32 hi hz0 hz1 .i64 .i64 _ _ js.length rfl rfl rfl rfl ?c1 hml ?c2 ?_)
  case c1 => rw [hz2]; omega
  case c2 => exact Nat.le_refl _
  intro w2 hown hg
  have hrow2 := RowI.made hown
  have hb2 : Below w1.heap.size w1 w2 := (Below.refl _ _).grown hg (Nat.le_refl _) (fun k hk => by cases hk)
  have HR1 := Lib.hid (hrow1.below hb2 hs1)
  have HR2 := Lib.hid hrow2
  have HB := Lib.hid (hb1.trans (hb2.mono (by omega)))
  have hle := hb1.size
  have hs2 := hrow2.lt
  clear hown hg hrow1 hrow2 hb1 hb2 hi hz0 hz1 hz2
  go_wp2_with fail
  go_loopw [10, 11] (fun mv i wr => ∃ (q : Nat) (F O : List Int) (m : Int), q ≤ zs.length ∧ i = .int .i64 q ∧ mv = .int .i64 m ∧ 0 ≤ m ∧ m ≤ 1000 * (q : Int) ∧ Hid (planGo (longs js) (zs.drop q) F O m = plan js zs M) ∧ Hid (∀ x ∈ F, 0 ≤ x ∧ x ≤ 1000 * (q : Int)) ∧ Hid (∀ x ∈ O, 0 ≤ x ∧ x ≤ 8) ∧ RowI wr w.heap.size w.heap.size M M F ∧ RowI wr w1.heap.size w1.heap.size js.length js.length O ∧ Below w.heap.size w wr) (fun _ i _ => zs.length - (intOf i).toNat)
  case atStart => exact ⟨0, _, _, 0, Nat.zero_le _, rfl, rfl, by omega, by omega, Lib.hid rfl, Lib.hid (fun x hx => by rw [List.eq_of_mem_replicate hx]; omega), Lib.hid (fun x hx => by rw [List.eq_of_mem_replicate hx]; omega), HR1.out, HR2.out, HB.out⟩
  case round =>
    clear HR1 HR2 HB hs2
    obtain ⟨q, F, O, m, hq, rfl, rfl, hm0, hmq, H, HF, HOO, hr1, hr2, hb⟩ := hrel
    have HR1 := Lib.hid hr1
    have HR2 := Lib.hid hr2
    have hFl := hr1.length
    have hOl := hr2.length
    by_cases hql : q < zs.length
    · have HD := Lib.hid (drop_cons zs q hql)
      rcases gd with rfl | ⟨b', off', rfl, gb1, gb2, gb3, gcell⟩
      · simp at hql
      rcases hd with rfl | ⟨b, off, rfl, hb1, hb2, hb3, hcell⟩
      · simp at j1
      have hx := HO.out zs[q] (List.getElem_mem _)
      obtain ⟨A, hA⟩ := Int.eq_ofNat_of_zero_le hx.1
      have hA2 : A < js.length := by omega
      have ZC : Hid (∀ (wx : World), Below w.heap.size w wx → wx.cell? ⟨b', off' + q, none⟩ = some (.int .i64 (A : Int))) := fun wx hbx => by
        rw [hbx.cell (p := ⟨b', off' + q, none⟩) (show b' < w.heap.size by omega)]
        have := gcell q hql
        rw [this, ← hA]; simp [hql]
      have JC : Hid (∀ (wx : World), Below w.heap.size w wx → wx.cell? ⟨b, off + A * 4, none⟩ = some (.int .i64 js[A].x0)) := fun wx hbx => by
        rw [hbx.cell (p := ⟨b, off + A * 4, none⟩) (show b < w.heap.size by omega)]
        exact (hcell A hA2).1
      have hjb := okJob_bounds (HJ.out js[A] (List.getElem_mem _))
      have hj0 := hjb.1.1
      have hj1 := hjb.1.2
      have HST : Hid (planGo (longs js) (zs.drop q) F O m = planGo (longs js) (zs.drop (q + 1)) (F.set (leastOf F) (F.getD (leastOf F) 0 + js[A].x0)) (O.set A (leastOf F : Int)) (max m (F.getD (leastOf F) 0 + js[A].x0))) := by
        rw [Hid, HD.out, planGo, hA, Int.toNat_natCast, longs_getD _ _ hA2]
      obtain ⟨lo, hlo⟩ : ∃ x, x = js[A].x0 := ⟨_, rfl⟩
      rw [← hlo] at JC hj0 hj1 HST
      have HL1 := Lib.hid (leastOf_one hFl (by omega))
      obtain ⟨w9, hw9⟩ : ∃ w9, w9 = wr := ⟨_, rfl⟩
      subst hw9
      have hzc := ZC.out _ hb
      have HBB := Lib.hid hb
      clear hx hA hcell gcell hjb hlo hr1 hr2
      go_wp2_with fail
      go_loopw [12, 13] (fun bv iv wr => ∃ (i b : Nat), 1 ≤ i ∧ i ≤ M ∧ b < M ∧ bv = .int .i64 b ∧ iv = .int .i64 i ∧ Hid (leastGo F (M - i) i b = leastOf F) ∧ Drew w9 wr) (fun _ iv _ => M - (intOf iv).toNat)
      case atStart => exact ⟨1, 0, by omega, by omega, by omega, rfl, rfl, HL1, Drew.refl _⟩
      case round =>
        obtain ⟨i, bb, hi1, hi2, hbb, rfl, rfl, HK, hD⟩ := hrel
        have hRx := HR1.out.drew hD
        by_cases hiM : i < M
        · have ci := hRx.cell hiM
          have cb := hRx.cell hbb
          obtain ⟨fi, hfi⟩ : ∃ x, x = F.getD i 0 := ⟨_, rfl⟩
          obtain ⟨fb, hfb⟩ : ∃ x, x = F.getD bb 0 := ⟨_, rfl⟩
          rw [← hfi] at ci
          rw [← hfb] at cb
          have HFI := Lib.hid hfi
          have HFB := Lib.hid hfb
          clear hRx hfi hfb hb hzc
          by_cases hlt : fi < fb
          · have HN : Hid (leastGo F (M - i) i bb = leastGo F (M - (i + 1)) (i + 1) i) := least_yes hiM (by rw [← HFI.out, ← HFB.out]; exact hlt)
            have hD9 := Lib.hid hD
            clear hD
            go_wp2_with fail
            go_quiet (fail)
            go_wp2
            go_roundw
            case rel => exact ⟨i + 1, i, by omega, by omega, by omega, rfl, by go_num, Lib.hid (by rw [← HK.out, HN.out]), hD9.out.step _⟩
            case measure => (simp [intOf]; try omega)
          · have HN : Hid (leastGo F (M - i) i bb = leastGo F (M - (i + 1)) (i + 1) bb) := least_no hiM (by rw [← HFI.out, ← HFB.out]; exact hlt)
            have hD9 := Lib.hid hD
            clear hD
            go_wp2_with fail
            go_quiet (fail)
            go_wp2
            go_roundw
            case rel => exact ⟨i + 1, bb, by omega, by omega, by omega, rfl, by go_num, Lib.hid (by rw [← HK.out, HN.out]), hD9.out.step _⟩
            case measure => (simp [intOf]; try omega)
        · obtain rfl : M = i := by omega
          have hbe : bb = leastOf F := by rw [← HK.out, Nat.sub_self]; rfl
          have HBE := Lib.hid hbe
          have hbx := hb.trans (hD.below w.heap.size)
          have hRo := HR2.out.drew hD
          have hzc2 := ZC.out _ hbx
          have hfo := hRo.frozen A
          have hfA := hRo.cell hA2
          have HRO := Lib.hid hRo
          have HRX := Lib.hid hRx
          have HBX := Lib.hid hbx
          clear hb hzc hD hRx hRo hbx hbe
          go_wp2_with fail
          obtain ⟨w5, hw5⟩ : ∃ w5, w5 = wr.setCell ⟨w1.heap.size, A, none⟩ (.int .i64 (bb : Int)) := ⟨_, rfl⟩
          rw [← hw5]
          have hR5 : RowI w5 w.heap.size w.heap.size M M F := by rw [hw5]; exact HRX.out.other (show w.heap.size ≠ w1.heap.size by omega) _
          have hO5 : RowI w5 w1.heap.size w1.heap.size js.length js.length (O.set A (bb : Int)) := by rw [hw5]; exact HRO.out.stored A _
          have hB5 : Below w.heap.size w w5 := by rw [hw5]; exact HBX.out.setCell (by omega) _
          have c1 := hR5.cell hbb
          have f1 := hR5.frozen bb
          have c2 := ZC.out _ hB5
          have c3 := JC.out _ hB5
          have HF5 := HF.out _ (getD_mem (show bb < F.length by omega))
          have HV : Hid (planGo (longs js) (zs.drop (q + 1)) (F.set bb (F.getD bb 0 + lo)) (O.set A (bb : Int)) (max m (F.getD bb 0 + lo)) = plan js zs M) := by
            rw [Hid, ← H.out, HST.out, HBE.out]
          obtain ⟨fb, hfb⟩ : ∃ x, x = F.getD bb 0 := ⟨_, rfl⟩
          rw [← hfb] at c1 HF5 HV
          have HR5 := Lib.hid hR5
          have HO5 := Lib.hid hO5
          have HB5 := Lib.hid hB5
          have hab : A < js.length := hA2
          clear hR5 hO5 hB5 hfb hw5 hzc2 hfo hfA
          go_wp2_with fail
          go_region
          obtain ⟨w6, hw6⟩ : ∃ w6, w6 = (w5.setCell ⟨w.heap.size, bb, none⟩ (.int .i64 (fb + lo))).drew := ⟨_, rfl⟩
          rw [← hw6]
          have hR6 : RowI w6 w.heap.size w.heap.size M M (F.set bb (fb + lo)) := by rw [hw6]; exact (HR5.out.stored bb _).drew ⟨1, rfl⟩
          have hO6 : RowI w6 w1.heap.size w1.heap.size js.length js.length (O.set A (bb : Int)) := by rw [hw6]; exact (HO5.out.other (show w1.heap.size ≠ w.heap.size by omega) _).drew ⟨1, rfl⟩
          have hB6 : Below w.heap.size w w6 := by rw [hw6]; exact (HB5.out.setCell (Nat.le_refl _) _).trans ((show Drew _ (World.drew _) from ⟨1, rfl⟩).below _)
          have c6 : w6.cell? ⟨w.heap.size, bb, none⟩ = some (.int .i64 (fb + lo)) := by
            rw [hR6.cell hbb]; simp [List.getD, show bb < F.length by omega]
          have HR6 := Lib.hid hR6
          have HO6 := Lib.hid hO6
          have HB6 := Lib.hid hB6
          clear hw6 hR6 hO6 hB6 c1 f1 c2 c3
          go_wp2_with fail
          refine (l00Max_any _ _ _).mono ?_
          rintro e w' ⟨rfl, rfl⟩
          go_wp2
          go_roundw
          case rel =>
            refine ⟨q + 1, _, _, _, by omega, by go_num, rfl, by omega, by omega, HV, Lib.hid ?_, Lib.hid ?_, HR6.out, HO6.out, HB6.out⟩
            · intro x hx
              rcases List.mem_or_eq_of_mem_set hx with hx | rfl
              · have := HF.out x hx; omega
              · omega
            · intro x hx
              rcases List.mem_or_eq_of_mem_set hx with hx | rfl
              · exact HOO.out x hx
              · omega
          case measure => (simp [intOf]; try omega)
    · have hE : plan js zs M = (O, F, m) := by rw [← H.out, drop_len _ _ (by omega), planGo]
      have HE := Lib.hid hE
      clear hE
      go_wp2
      go_ret2
      exact ⟨_, by rw [HE.out]; rfl, by rw [HE.out]; exact (HR2.out.own (hi := wr.heap.size) (fun x hx => by have := HOO.out x hx; unfold I64; omega) (by omega) HR2.out.lt (Nat.le_refl _)).mono hle (Nat.le_refl _) (Nat.le_refl _), hb⟩
set_option maxHeartbeats 400000 in
set_option maxRecDepth 100000 in
theorem l06Machines_any {l h : Nat} (v : Value) (js : List JobD) (M : Int) (w : World) (hv : Jobs w l h v js) :
    Calls Try.prog 92 #[v, .int .i64 M] w fun e w' => e = .returned (.bool (areMach js M)) ∧ w = w' := by
  cases hj : areJobs js
  · go_enter Try.func92, Try.ntmps92
    go_wp2_with fail
    refine (l06Are_any v js w hv).mono ?_
    rintro e w' ⟨rfl, rfl⟩
    rw [hj]
    go_wp2
    go_ret
    exact ⟨ret_bool (by rw [areMach, hj]; rfl), rfl⟩
  · go_enter Try.func92, Try.ntmps92
    go_wp2_with fail
    refine (l06Are_any v js w hv).mono ?_
    rintro e w' ⟨rfl, rfl⟩
    rw [hj]
    go_wp2_with fail
    refine (l00In_any _ _ _ _).mono ?_
    rintro e w' ⟨rfl, rfl⟩
    go_wp2
    go_ret
    exact ⟨ret_bool (by rw [areMach, hj]; rfl), rfl⟩
set_option maxHeartbeats 400000 in
set_option maxRecDepth 100000 in
theorem areMachines_any {l h : Nat} (v : Value) (js : List JobD) (M : Int) (w : World) (hv : Jobs w l h v js) (hh : h ≤ w.heap.size) (hz : js.length ≤ 1048576) :
    Calls Try.prog 62 #[v, .int .i64 M] w fun e w' => e = .returned (.bool (areMach js M)) ∧ Below w.heap.size w w' := by
  cases hj : areJobs js
  · go_enter Try.func62, Try.ntmps62
    go_wp2_with fail
    refine (implAreJobs_any w v js hv hh hz).mono ?_
    rintro e w1 ⟨rfl, hb1⟩
    rw [hj]
    go_wp2
    go_ret
    exact ⟨ret_bool (by rw [areMach, hj]; rfl), hb1⟩
  · go_enter Try.func62, Try.ntmps62
    go_wp2_with fail
    refine (implAreJobs_any w v js hv hh hz).mono ?_
    rintro e w1 ⟨rfl, hb1⟩
    rw [hj]
    go_wp2_with fail
    refine (within_any _ _ _ _).mono ?_
    rintro e w' ⟨rfl, rfl⟩
    go_wp2
    go_ret
    exact ⟨ret_bool (by rw [areMach, hj]; rfl), hb1⟩
theorem negs_snoc (js : List JobD) (k : Nat) (hk : k < js.length) : negs (js.take (k + 1)) = negs (js.take k) ++ [-js[k].x0] := by
  rw [List.take_succ_eq_append_getElem hk]; simp only [negs, List.map_append, List.map_cons, List.map_nil]
theorem areMach_out {js : List JobD} {M : Int} (h : areMach js M = true) : areJobs js = true ∧ 1 ≤ M ∧ M ≤ 8 := by
  simp only [areMach, Bool.and_eq_true] at h
  exact ⟨h.1, inB_true h.2⟩
set_option maxHeartbeats 2000000 in
set_option maxRecDepth 100000 in
theorem specLongFirst_any (w : World) {l h : Nat} (v : Value) (js : List JobD) (M : Int) (hv : Jobs w l h v js) (hh : h ≤ w.heap.size) (hz : js.length ≤ 1048576) (k : I64 M) :
    Calls Try.prog 59 #[v, .int .i64 M] w fun e w' => ∃ r, e = .returned (.tuple #[r, .int .i64 (longFirst js M).2.1, .bool (longFirst js M).2.2]) ∧ OwnI w' w.heap.size w'.heap.size r (longFirst js M).1 ∧ Below w.heap.size w w' := by
  cases hm : areMach js M
  · have HE := Lib.hid (show longFirst js M = ([], 0, false) by simp [longFirst, planOf, hm])
    go_enter Try.func59, Try.ntmps59
    go_wp2_with fail
    refine (l06Machines_any v js M w hv).mono ?_
    rintro e w' ⟨rfl, rfl⟩
    rw [hm]
    go_wp2
    go_ret3
    exact ⟨_, by rw [HE.out]; rfl, by rw [HE.out]; exact OwnI.nil _ _ _ (Nat.le_refl _), Below.refl _ _⟩
  · obtain ⟨hJ, hM1, hM2⟩ := areMach_out hm
    have hl := areJobs_len hJ
    have HJ := Lib.hid hJ
    have HOK := Lib.hid (jobs_ok hJ)
    have HV := Lib.hid hv
    obtain ⟨a, cap, rfl, hc1, hc2, hd⟩ := hv.out
    obtain ⟨Mn, rfl⟩ : ∃ Mn : Nat, M = (Mn : Int) := ⟨M.toNat, by omega⟩
    have HE := Lib.hid (show longFirst js (Mn : Int) = ((plan js (longOrder js) Mn).1, (plan js (longOrder js) Mn).2.2, true) by simp [longFirst, planOf, hm])
    have h0 := emptySlice w
    clear hJ hv
    go_enter Try.func59, Try.ntmps59
    go_wp2_with fail
    refine (l06Machines_any _ js Mn w HV.out).mono ?_
    rintro e w' ⟨rfl, rfl⟩
    rw [hm]
    clear hm
    go_wp2_with fail
    go_loopw [7, 8] (fun ov i wr => ∃ q : Nat, q ≤ js.length ∧ i = .int .i64 q ∧ OwnI wr w.heap.size wr.heap.size ov (negs (js.take q)) ∧ Below w.heap.size w wr) (fun _ i _ => js.length - (intOf i).toNat)
    case atStart => exact ⟨0, Nat.zero_le _, rfl, by simpa [negs] using h0, below_newW _ _⟩
    case round =>
      clear h0
      obtain ⟨q, hq, rfl, ho, hb⟩ := hrel
      have hs := hb.size
      have HO := Lib.hid ho
      have hol : (negs (js.take q)).length ≤ q := by simp [negs]; omega
      clear ho
      by_cases hlt : q < js.length
      · have HS := Lib.hid (negs_snoc js q hlt)
        rcases hd with rfl | ⟨b, off, rfl, hb1, hb2, hb3, hcell⟩
        · simp at hlt
        have c1 := (hcell q hlt).1
        rw [← hb.cell (p := ⟨b, off + q * 4, none⟩) (show b < w.heap.size by omega)] at c1
        have hrg := okJob_bounds (HOK.out js[q] (List.getElem_mem _))
        have hr1 := hrg.1.1
        have hr2 := hrg.1.2
        clear hcell hrg
        go_wp2_with (at_builtin; refine wpList_app1 rfl _ _ rfl _ (negs (js.take q)) rfl (-js[q].x0) _ HO.out rfl (by constructor <;> omega) (by omega) hs ?_)
        intro v2 w3 ho2 hsm hz3 _
        have HO2 : Hid (OwnI w3 w.heap.size w3.heap.size v2 (negs (js.take (q + 1)))) := by rw [Hid, HS.out]; exact ho2
        clear ho2
        go_wp2
        go_roundw
        case rel => exact ⟨q + 1, by omega, by go_num, HO2.out, hb.trans (hsm.below (Nat.le_refl _) hs)⟩
        case measure => simp [intOf]; omega
      · obtain rfl : q = js.length := by omega
        rw [List.take_length] at HO
        have hdl : (negs js).length = js.length := by simp [negs]
        have HDL := Lib.hid hdl
        have HOD := Lib.hid (l06Order_any _ (negs js) _ HO.out.rd (Nat.le_refl _) (by omega))
        have HLO : Hid (longOrder js = ordTo (keyLt (negs js)) js.length) := rfl
        clear hdl hol
        go_wp2_with fail
        refine HOD.out.mono ?_
        rintro e w2 ⟨u, rfl, ho2, hb2⟩
        rw [HDL.out, ← HLO.out] at ho2
        have hlen : (longOrder js).length ≤ 12 := by rw [HLO.out, ordTo_len]; omega
        have hbx := hb.trans (hb2.mono hs)
        have HL := Lib.hid (l06List_any _ _ js (longOrder js) Mn w2 (HV.out.below hbx hh) ho2.rd (by have := hbx.size; omega) (Nat.le_refl _) HJ.out (by omega) (by rw [HLO.out]; exact ordTo_idx _ _) hlen)
        have hs2 := hbx.size
        clear ho2
        go_wp2_with fail
        refine HL.out.mono ?_
        rintro e w4 ⟨r, rfl, ho4, hb4⟩
        have HO4 := Lib.hid ho4
        clear ho4
        go_wp2
        go_ret3
        exact ⟨_, by rw [HE.out]; rfl, by rw [HE.out]; exact HO4.out.mono hs2 (Nat.le_refl _) (Nat.le_refl _), hbx.trans (hb4.mono hs2)⟩
end Go.Proofs.Yteoikfddebbakaa
