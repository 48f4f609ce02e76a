/-
  LeastSpan: the reference's contract.
-/
import Derived.Test.YteoikfddebbakaaLspanI
namespace Go.Proofs.Yteoikfddebbakaa
open Go.RowKit
set_option linter.unusedVariables false
set_option maxRecDepth 100000

set_option maxHeartbeats 2000000 in
set_option maxRecDepth 100000 in
theorem l06Best_any {l h : Nat} (v : Value) (js : List JobD) (hJ : areJobs js = true) : ∀ (d i lo g M c : Nat) (U : List Int) (now most : Int) (w : World), d + i = js.length → Jobs w l h v js → h ≤ w.heap.size → h ≤ g → RowI w lo g M c U → 1 ≤ M → M ≤ 8 → (∀ y ∈ U, 0 ≤ y ∧ y ≤ 1000 * (i : Int)) →
    Calls Try.prog 61 #[v, .int .i64 i, .slice (some ⟨g, 0, none⟩) M c, .int .i64 now, .int .i64 most] w fun e w' => e = .returned (.int .i64 (lbest ((longs js).drop i) U now most)) ∧ RowI w' lo g M c U ∧ Same g (g + 1) w w' := by
  intro d
  induction d with
  | zero =>
    intro i lo g M c U now most w hdi hv hh hg hr hM1 hM2 hU
    obtain rfl : i = js.length := by omega
    obtain ⟨ja, jc, rfl, hc1, hc2, hd⟩ := hv.out
    have HR := Lib.hid hr
    clear hd hv hU hr
    by_cases hnm : now ≥ most
    · have HE : Hid (lbest ((longs js).drop js.length) U now most = most) := by rw [Hid, drop_len _ _ (by simp [longs]), lbest, if_pos hnm]
      go_enter Try.func61, Try.ntmps61
      go_wp2
      go_ret
      exact ⟨ret_int (by rw [HE.out]), HR.out, Same.refl _ _ _⟩
    · have HE : Hid (lbest ((longs js).drop js.length) U now most = now) := by rw [Hid, drop_len _ _ (by simp [longs]), lbest, if_neg hnm]
      have hnm2 : now < most := by omega
      go_enter Try.func61, Try.ntmps61
      go_wp2
      go_ret
      exact ⟨ret_int (by rw [HE.out]), HR.out, Same.refl _ _ _⟩
  | succ d ih =>
    intro i lo g M c U now most w hdi hv hh hg hr hM1 hM2 hU
    have hil : i < js.length := by omega
    have hl12 := areJobs_len hJ
    obtain ⟨ja, jc, rfl, hc1, hc2, hd⟩ := hv.out
    obtain ⟨jb, joff, rfl⟩ : ∃ b off, ja = some ⟨b, off, none⟩ := by
      rcases hd with rfl | ⟨b', off', r1, _⟩
      · simp at hil
      · exact ⟨b', off', r1⟩
    have HD := Lib.hid (longs_drop hil)
    by_cases hnm : now ≥ most
    · have HR := Lib.hid hr
      have HE : Hid (lbest ((longs js).drop i) U now most = most) := by rw [Hid, HD.out, lbest, if_pos hnm]
      clear hd hv hU hr ih
      go_enter Try.func61, Try.ntmps61
      go_wp2
      go_ret
      exact ⟨ret_int (by rw [HE.out]), HR.out, Same.refl _ _ _⟩
    have hnm2 : now < most := by omega
    have hjx := okJob_bounds ((areJobs_out hJ).2.2 _ (List.getElem_mem hil))
    have hja : jobAt js i = js[i] := by simp [jobAt, List.getD, hil]
    rw [← hja] at hjx
    have hx1 := hjx.1.1
    have hx2 := hjx.1.2
    obtain ⟨x, hx⟩ : ∃ x, x = (jobAt js i).x0 := ⟨_, rfl⟩
    have HX := Lib.hid hx
    rw [← hx] at hx1 hx2 HD
    obtain ⟨rest, hrest⟩ : ∃ r, r = (longs js).drop (i + 1) := ⟨_, rfl⟩
    have HRS := Lib.hid hrest
    rw [← hrest] at HD
    have hUl := hr.length
    have HL : Hid (lbest ((longs js).drop i) U now most = lbGo (fun V p m => lbest rest V p m) U x now M 0 most) := by rw [Hid, HD.out, lbest, if_neg hnm, hUl]
    have HIH : Hid (∀ (V : List Int) (p m : Int) (wx : World), Same g (g + 1) w wx → RowI wx lo g M c V → (∀ y ∈ V, 0 ≤ y ∧ y ≤ 1000 * ((i : Int) + 1)) →
        Calls Try.prog 61 #[.slice (some ⟨jb, joff, none⟩) js.length jc, .int .i64 ((i : Int) + 1), .slice (some ⟨g, 0, none⟩) M c, .int .i64 p, .int .i64 m] wx fun e w' => e = .returned (.int .i64 (lbest rest V p m)) ∧ RowI w' lo g M c V ∧ Same g (g + 1) wx w') := fun V p m wx hb hV hVr => by
      have := ih (i + 1) lo g M c V p m wx (by omega) (hv.same hb (by omega)) (Nat.le_trans hh hb.size) hg hV hM1 hM2 (fun y hy => by have := hVr y hy; omega)
      rw [← HRS.out, Int.natCast_add, Int.natCast_one] at this
      exact this
    have HV := Lib.hid hv
    have HR := Lib.hid hr
    have HUR := Lib.hid hU
    have hne1 : ((i : Int) == (js.length : Int)) = false := by simp; omega
    have hne2 : (i == js.length) = false := by simp; omega
    have HUL := Lib.hid hUl
    have hgl := hr.lt
    clear ih hd hv hr hU hrest hx hja hjx hJ hUl hnm
    go_enter Try.func61, Try.ntmps61
    go_wp2_with fail
    go_loopw [4, 11] (fun mv kv wr => ∃ (k : Nat) (m : Int), k ≤ M ∧ kv = .int .i64 k ∧ mv = .int .i64 m ∧ Hid (lbGo (fun V p m => lbest rest V p m) U x now (M - k) k m = lbest ((longs js).drop i) U now most) ∧ Hid (RowI wr lo g M c U) ∧ Hid (Same g (g + 1) w wr)) (fun _ kv _ => M - (intOf kv).toNat)
    case atStart => exact ⟨0, most, Nat.zero_le _, rfl, rfl, HL.out.symm, HR.out, Same.refl _ _ _⟩
    case round =>
      clear HR HL
      obtain ⟨k, m, hk, rfl, rfl, HG, HR, HB⟩ := hrel
      have hsw := HB.out.size
      by_cases hkM : k < M
      · have hkU : k < U.length := by rw [HUL.out]; exact hkM
        have hc2' := HR.out.cell hkM
        have hf2 := HR.out.frozen k
        have htr := HUR.out _ (getD_mem hkU)
        obtain ⟨t, ht⟩ : ∃ t, t = U.getD k 0 := ⟨_, rfl⟩
        have HT := Lib.hid ht
        rw [← ht] at hc2' htr
        have ht1 := htr.1
        have ht2 := htr.2
        obtain ⟨j0, _, _, jlt⟩ := jobs_cells (HV.out.same HB.out (.inl hg)) hil
        rw [← HX.out] at j0
        have HY : Hid (∀ y ∈ U.set k (t + x), 0 ≤ y ∧ y ≤ 1000 * ((i : Int) + 1)) := fun y hy => by
          rcases List.mem_or_eq_of_mem_set hy with hy | rfl
          · have := HUR.out y hy; omega
          · omega
        clear ht htr
        go_wp2_with fail
        go_region
        obtain ⟨w3, hw3⟩ : ∃ w3, w3 = (wr.setCell ⟨g, k, none⟩ (.int .i64 (t + x))).drew := ⟨_, rfl⟩
        rw [← hw3]
        have hR3 : RowI w3 lo g M c (U.set k (t + x)) := by rw [hw3]; exact (HR.out.stored k _).drew ⟨1, rfl⟩
        have HB3 : Hid (Same g (g + 1) w w3) := by rw [hw3]; exact (HB.out.setCell (show g ≤ g by omega) (show g < g + 1 by omega) _).trans (Same.drewN (Same.refl _ _ _) 1)
        have hc3 : w3.cell? ⟨g, k, none⟩ = some (.int .i64 (t + x)) := by rw [hR3.cell hkM, getD_set _ _ _ _ hkU, if_pos rfl]
        have HI := Lib.hid (HIH.out (U.set k (t + x)) (max now (t + x)) m w3 HB3.out hR3 HY.out)
        obtain ⟨en, hen⟩ : ∃ en, en = lbest rest (U.set k (t + x)) (max now (t + x)) m := ⟨_, rfl⟩
        have HEN := Lib.hid hen
        rw [← hen] at HI
        obtain ⟨nw, hnw⟩ : ∃ nw, nw = max now (t + x) := ⟨_, rfl⟩
        have HMX := Lib.hid (l00Max_any now (t + x) w3)
        rw [← hnw] at HI HMX
        have HNW := Lib.hid hnw
        clear hw3 hR3 hen hc2' hf2 j0 hnw HR
        go_wp2_with fail
        refine HMX.out.mono ?_
        rintro e w' ⟨rfl, rfl⟩
        go_wp2_with fail
        refine HI.out.mono ?_
        rintro e w4 ⟨rfl, hR4, hb4⟩
        have HB4 := Lib.hid (HB3.out.trans hb4)
        have hc4 := hR4.cell hkM
        rw [getD_set _ _ _ _ hkU, if_pos rfl] at hc4
        have hf4 := hR4.frozen k
        have hs4 := hb4.size
        have HR4 := Lib.hid hR4
        obtain ⟨j4, _, _, _⟩ := jobs_cells (HV.out.same HB4.out (.inl hg)) hil
        rw [← HX.out] at j4
        have hsub : t + x - x = t := by omega
        have HSS : Hid ((U.set k (t + x)).set k t = U) := by
          rw [Hid, List.set_set]
          apply List.ext_getElem (by simp)
          intro q h1 h2
          rw [List.getElem_set]
          split
          · rename_i e; subst e; rw [HT.out]; simp [List.getD, hkU]
          · rfl
        have HG1 : Hid (lbGo (fun V p m => lbest rest V p m) U x now (M - k) k m = if t = 0 then en else lbGo (fun V p m => lbest rest V p m) U x now (M - (k + 1)) (k + 1) en) := by
          rw [Hid, show M - k = (M - (k + 1)) + 1 by omega, lbGo_succ, ← HT.out, HEN.out]
        rw [HG.out] at HG1
        clear hb4 hR4 HI HG HMX hc3 HY jlt
        go_wp2_with fail
        go_region
        obtain ⟨w5, hw5⟩ : ∃ w5, w5 = (w4.setCell ⟨g, k, none⟩ (.int .i64 t)).drew := ⟨_, rfl⟩
        have HR5 : Hid (RowI w5 lo g M c U) := by
          have := (HR4.out.stored k t).drew (w' := w5) (by rw [hw5]; exact ⟨1, rfl⟩)
          rw [HSS.out] at this; exact this
        have HB5 : Hid (Same g (g + 1) w w5) := by rw [hw5]; exact (HB4.out.setCell (show g ≤ g by omega) (show g < g + 1 by omega) _).trans (Same.drewN (Same.refl _ _ _) 1)
        have hc5 : w5.cell? ⟨g, k, none⟩ = some (.int .i64 t) := by rw [HR5.out.cell hkM, ← HT.out]
        try rw [hsub]
        rw [← hw5]
        clear hw5 hc4 hf4 j4 HR4 hsub
        by_cases ht0 : t = 0
        · subst ht0
          have HG3 : Hid (lbest ((longs js).drop i) U now most = en) := by rw [Hid, HG1.out]; exact if_pos rfl
          clear HG1
          go_wp2
          go_ret
          exact ⟨ret_int (by rw [HG3.out]), HR5.out, HB5.out⟩
        · have HG3 : Hid (lbGo (fun V p m => lbest rest V p m) U x now (M - (k + 1)) (k + 1) en = lbest ((longs js).drop i) U now most) := by rw [Hid, HG1.out, if_neg ht0]
          clear HG1
          go_wp2
          go_roundw
          case rel => exact ⟨k + 1, en, by omega, by go_num, rfl, HG3, HR5, HB5⟩
          case measure => simp [intOf]; omega
      · obtain rfl : k = M := by omega
        have HE : Hid (lbest ((longs js).drop i) U now most = m) := by rw [Hid, ← HG.out, Nat.sub_self, lbGo]
        go_wp2
        go_ret
        exact ⟨ret_int (by rw [HE.out]), HR.out, HB.out⟩
def sumTo (L : List Int) (k : Nat) : Int := (L.take k).sum
def topTo (L : List Int) (k : Nat) : Int := (L.take k).foldl max 0
theorem sumTo_succ {L : List Int} {k : Nat} (hk : k < L.length) : sumTo L (k + 1) = sumTo L k + L[k] := by
  unfold sumTo
  rw [← List.take_append_getElem hk, List.sum_append]
  simp
theorem topTo_succ {L : List Int} {k : Nat} (hk : k < L.length) : topTo L (k + 1) = max (topTo L k) L[k] := by
  unfold topTo
  rw [← List.take_append_getElem hk, List.foldl_append]
  rfl
theorem topTo_in (L : List Int) (k : Nat) : topTo L k = 0 ∨ topTo L k ∈ L := by
  have h : ∀ (r : List Int) (a : Int), r.foldl max a = a ∨ r.foldl max a ∈ r := by
    intro r
    induction r with
    | nil => intro a; exact .inl rfl
    | cons b r ih =>
      intro a
      rw [List.foldl_cons]
      rcases ih (max a b) with h' | h'
      · rw [h']
        rcases Int.le_total a b with h2 | h2
        · exact .inr (by rw [show max a b = b by omega]; simp)
        · exact .inl (by omega)
      · exact .inr (List.mem_cons_of_mem _ h')
  rcases h (L.take k) 0 with h' | h'
  · exact .inl h'
  · exact .inr (List.mem_of_mem_take h')
set_option maxHeartbeats 2000000 in
set_option maxRecDepth 100000 in
theorem specLeastSpan_any (w : World) {l h : Nat} (v : Value) (js : List JobD) (M : Int) (hv : Jobs w l h v js) (hh : h ≤ w.heap.size) (hz : js.length ≤ 1048576) (k : I64 M) :
    Calls Try.prog 24 #[v, .int .i64 M] w fun e w' => e = .returned (.tuple #[.int .i64 (leastSpan js M).1, .bool (leastSpan js M).2]) ∧ Below w.heap.size w w' := by
  have HV := Lib.hid hv
  obtain ⟨ja, jc, rfl, hc1, hc2, hd⟩ := hv.out
  have HLF := Lib.hid (specLongFirst_any w _ js M hv hh hz k)
  cases hm : areMach js M
  · have HE := Lib.hid (show leastSpan js M = (0, false) by simp [leastSpan, hm])
    have e1 : longFirst js M = ([], 0, false) := by simp [longFirst, planOf, hm]
    rw [e1] at HLF
    clear hv hd e1
    go_enter Try.func24, Try.ntmps24
    go_wp2_with fail
    refine HLF.out.mono ?_
    rintro e w1 ⟨r, rfl, _, hb1⟩
    go_wp2
    go_ret2
    exact ⟨ret_p HE.out, hb1⟩
  · obtain ⟨hJ, hM1, hM2⟩ := areMach_out hm
    have hl := areJobs_len hJ
    obtain ⟨Mn, rfl⟩ : ∃ Mn : Nat, M = (Mn : Int) := ⟨M.toNat, by omega⟩
    have e1 : longFirst js (Mn : Int) = ((plan js (longOrder js) Mn).1, (plan js (longOrder js) Mn).2.2, true) := by simp [longFirst, planOf, hm]
    rw [e1] at HLF
    have hdl : ∀ (s g : Int), s = (longs js).sum → (g = 0 ∨ g ∈ longs js) → _ := fun s g hs hg => span_eq hJ (M := Mn) (by omega) (keyLt (negs js)) (first := (plan js (longOrder js) Mn).2.2) (s := s) (g := g) rfl hs hg
    have HSE := Lib.hid hdl
    have HTP : Hid (Reach (longs js) (List.replicate Mn 0) (plan js (longOrder js) Mn).2.2) := span_reach hJ (by omega) _
    obtain ⟨first, hfi⟩ : ∃ f, f = (plan js (longOrder js) Mn).2.2 := ⟨_, rfl⟩
    rw [← hfi] at HLF HSE HTP
    have HJ := Lib.hid hJ
    by_cases h9 : js.length ≤ 9
    · have HE := Lib.hid (show leastSpan js (Mn : Int) = (lspan (longs js) (List.replicate Mn 0), true) by simp [leastSpan, hm, h9])
      have h9i : ¬ ((js.length : Int) > 9) := by omega
      obtain ⟨jb, joff, rfl⟩ : ∃ b off, ja = some ⟨b, off, none⟩ := by
        rcases hd with rfl | ⟨b', off', r1, _⟩
        · simp at hl
        · exact ⟨b', off', r1⟩
      have hmm : Mn ≤ maxLen := by unfold maxLen; omega
      obtain ⟨i0, hi, hz0, hz1, hz2⟩ := info_parts info_i64
      have HI0 := Lib.hid hi
      have HLL : Hid ((longs js).length = js.length) := by simp [Hid, longs]
      have HPOS := Lib.hid (longs_pos hJ)
      clear hv hd e1 hfi hm hJ hdl
      go_enter Try.func24, Try.ntmps24
      go_wp2_with fail
      refine HLF.out.mono ?_
      rintro e w1 ⟨r, rfl, _, hb1⟩
      have HB1 := Lib.hid hb1
      have hs1 := hb1.size
      clear hb1
      go_wp2_with fail
      go_loop [9, 10, 11] (fun sv gv iv => ∃ (i : Nat), i ≤ js.length ∧ iv = .int .i64 i ∧ sv = .int .i64 (sumTo (longs js) i) ∧ gv = .int .i64 (topTo (longs js) i) ∧ 0 ≤ sumTo (longs js) i ∧ sumTo (longs js) i ≤ 1000 * (i : Int) ∧ 0 ≤ topTo (longs js) i ∧ topTo (longs js) i ≤ 1000) (fun _ _ iv => js.length - (intOf iv).toNat)
      case atStart => exact ⟨0, Nat.zero_le _, rfl, rfl, rfl, by simp [sumTo], by simp [sumTo], by simp [topTo], by simp [topTo]⟩
      case round =>
        obtain ⟨i, hi2, rfl, rfl, rfl, q1, q2, q3, q4⟩ := hrel
        by_cases hil : i < js.length
        · have HS1 := Lib.hid (sumTo_succ (L := longs js) (k := i) (by rw [HLL.out]; exact hil))
          have HS2 := Lib.hid (topTo_succ (L := longs js) (k := i) (by rw [HLL.out]; exact hil))
          obtain ⟨j0, _, _, jlt⟩ := jobs_cells (HV.out.below HB1.out hh) hil
          have hja : jobAt js i = js[i] := by simp [jobAt, List.getD, hil]
          have hlx : (longs js)[i]'(by rw [HLL.out]; exact hil) = js[i].x0 := by simp [longs]
          have hjx := okJob_bounds ((areJobs_out HJ.out).2.2 _ (List.getElem_mem hil))
          rw [hlx] at HS1 HS2
          rw [hja] at j0
          obtain ⟨x, hx⟩ : ∃ x, x = js[i].x0 := ⟨_, rfl⟩
          rw [← hx] at HS1 HS2 j0 hjx
          have hx1 := hjx.1.1
          have hx2 := hjx.1.2
          obtain ⟨s, hs⟩ : ∃ s, s = sumTo (longs js) i := ⟨_, rfl⟩
          obtain ⟨g, hg⟩ : ∃ g, g = topTo (longs js) i := ⟨_, rfl⟩
          rw [← hs] at q1 q2 HS1 ⊢
          rw [← hg] at q3 q4 HS2 ⊢
          clear hs hg hx hlx hja hjx
          go_wp2_with fail
          refine (l00Max_any _ _ _).mono ?_
          rintro e w' ⟨rfl, rfl⟩
          go_wp2
          go_round
          case rel => exact ⟨i + 1, by omega, by go_num, by rw [HS1.out], by rw [HS2.out], by rw [HS1.out]; omega, by rw [HS1.out]; omega, by rw [HS2.out]; omega, by rw [HS2.out]; omega⟩
          case measure => simp [intOf]; omega
        · obtain rfl : i = js.length := by omega
          have hss : sumTo (longs js) js.length = (longs js).sum := by rw [sumTo, ← HLL.out, List.take_length]
          have hse := HSE.out _ _ hss (topTo_in (longs js) js.length)
          have HS1 := Lib.hid hse.1
          have HS2 := Lib.hid hse.2
          obtain ⟨s, hs⟩ : ∃ s, s = sumTo (longs js) js.length := ⟨_, rfl⟩
          obtain ⟨g, hg⟩ : ∃ g, g = topTo (longs js) js.length := ⟨_, rfl⟩
          rw [← hs] at q1 q2 HS1 ⊢
          rw [← hg] at q3 q4 HS1 ⊢
          have hqb : 0 ≤ quoUp s Mn ∧ quoUp s Mn ≤ 9000 := by
            unfold quoUp
            have hMp : (0 : Int) < (Mn : Int) := by omega
            constructor
            · exact Int.ediv_nonneg (by omega) (by omega)
            · have : (s + Mn - 1) / (Mn : Int) < 9001 := by
                rw [Int.ediv_lt_iff_lt_mul hMp]; omega
              omega
          have HQU : Hid ((s + (Mn : Int) - 1) / (Mn : Int) = quoUp s Mn) := rfl
          have HMX := Lib.hid (l00Max_any g ((s + (Mn : Int) - 1) / (Mn : Int)) w1)
          obtain ⟨bd, hbd⟩ : ∃ b, b = max g ((s + (Mn : Int) - 1) / (Mn : Int)) := ⟨_, rfl⟩
          rw [Hid, ← HQU.out, ← hbd] at HS1
          rw [← hbd] at HMX
          have HS1 := Lib.hid HS1
          have hMne : ¬ ((Mn : Int) = 0) := by omega
          have HBD := Lib.hid hbd
          clear hss hse hs hg hbd hqb
          go_wp2_with fail
          refine HMX.out.mono ?_
          rintro e w' ⟨rfl, rfl⟩
          by_cases hfb : first = bd
          · have HE2 : Hid (leastSpan js (Mn : Int) = (first, true)) := by rw [Hid, HE.out, HS1.out hfb]
            clear HS1 HS2
            subst hfb
            go_wp2
            go_ret2
            exact ⟨ret_p HE2.out, HB1.out⟩
          · have hfd : (first == bd) = false := by simp; exact hfb
            clear HS1
            go_wp2_with (refine wpList_make_full _ rfl _ _ 32 rfl w1.heap.size 2 i0 (.int .i64 0) 1 Try.underlying32 hi hz0 hz1 .i64 .i64 _ _ Mn rfl rfl rfl rfl ?c1 hmm ?c2 ?_)
            case c1 => rw [hz2]; omega
            case c2 => exact Nat.le_refl _
            intro w2 hown hg
            have hrow := RowI.made hown
            have hb2 : Below w1.heap.size w1 w2 := (Below.refl _ _).grown hg (Nat.le_refl _) (fun k hk => by cases hk)
            have HB2 := Lib.hid (HB1.out.trans (hb2.mono hs1))
            have hs2 := HB2.out.size
            have HBL := Lib.hid (l06Best_any _ js HJ.out js.length 0 w1.heap.size w1.heap.size Mn Mn (List.replicate Mn 0) 0 first w2 (by omega) (HV.out.below HB2.out hh) (by omega) (by omega) hrow (by omega) (by omega) (fun y hy => by rw [List.eq_of_mem_replicate hy]; omega))
            rw [List.drop_zero, HS2.out] at HBL
            clear hown hg hrow hb2 hi hz0 hz1 hz2 hmm
            go_wp2_with fail
            refine HBL.out.mono ?_
            rintro e w4 ⟨rfl, _, hb4⟩
            have HB4 := Lib.hid (HB2.out.trans (hb4.below hs1 hs2))
            clear hb4
            go_wp2
            go_ret2
            exact ⟨ret_p HE.out, HB4.out⟩
    · have HE := Lib.hid (show leastSpan js (Mn : Int) = (0, false) by simp [leastSpan, h9])
      have h9i : (js.length : Int) > 9 := by omega
      clear hv hd hm hJ e1 hfi hdl
      go_enter Try.func24, Try.ntmps24
      go_wp2_with fail
      refine HLF.out.mono ?_
      rintro e w1 ⟨r, rfl, _, hb1⟩
      go_wp2
      go_ret2
      exact ⟨ret_p HE.out, hb1⟩
end Go.Proofs.Yteoikfddebbakaa
