/-
  LeastSpan: the program's contract.
-/
import Derived.Test.YteoikfddebbakaaLspanP
import Derived.Test.YteoikfddebbakaaCopy
import Derived.Test.YteoikfddebbakaaLateA
namespace Go.Proofs.Yteoikfddebbakaa
open Go.RowKit
set_option linter.unusedVariables false
set_option maxRecDepth 100000

theorem longs_drop {js : List JobD} {i : Nat} (hi : i < js.length) : (longs js).drop i = (jobAt js i).x0 :: (longs js).drop (i + 1) := by
  have h : i < (longs js).length := by simpa [longs] using hi
  rw [List.drop_eq_getElem_cons h]
  simp [longs, jobAt, List.getD, hi]
set_option maxHeartbeats 2000000 in
set_option maxRecDepth 100000 in
theorem implSpanRec_any {l h : Nat} (v : Value) (js : List JobD) (hJ : areJobs js = true) : ∀ (d i l' h' : Nat) (u : Value) (U : List Int) (w : World), d + i = js.length → Jobs w l h v js → h ≤ w.heap.size → Ints w l' h' u U → h' ≤ w.heap.size → 1 ≤ U.length → U.length ≤ 8 → (∀ y ∈ U, 0 ≤ y ∧ y ≤ 1000 * (i : Int)) →
    Calls Try.prog 63 #[v, u, .int .i64 i] w fun e w' => e = .returned (.int .i64 (lspan ((longs js).drop i) U)) ∧ Below w.heap.size w w' := by
  intro d
  induction d with
  | zero =>
    intro i l' h' u U w hdi hv hh hu hh' hM1 hM2 hU
    obtain rfl : i = js.length := by omega
    obtain ⟨ja, jc, rfl, hc1, hc2, hd⟩ := hv.out
    have HMX := Lib.hid (slicesMax_any _ _ _ U w hu (by omega))
    obtain ⟨ua, uc, rfl, gc1, gc2, _⟩ := hu.out
    have HE : Hid (lspan ((longs js).drop js.length) U = maxL U) := by rw [Hid, drop_len _ _ (by simp [longs]), lspan]
    clear hd hv hu hU
    go_enter Try.func63, Try.ntmps63
    go_wp2_with fail
    refine HMX.out.mono ?_
    rintro e w' ⟨rfl, rfl⟩
    go_wp2
    go_ret
    exact ⟨ret_int (by rw [HE.out]), Below.refl _ _⟩
  | succ d ih =>
    intro i l' h' u U w hdi hv hh hu hh' hM1 hM2 hU
    have hil : i < js.length := by omega
    have hl12 := areJobs_len hJ
    obtain ⟨ja, jc, rfl, hc1, hc2, hd⟩ := hv.out
    obtain ⟨jb, joff, rfl⟩ : ∃ b off, ja = some ⟨b, off, none⟩ := by
      rcases hd with rfl | ⟨b', off', r1, _⟩
      · simp at hil
      · exact ⟨b', off', r1⟩
    obtain ⟨ua, uc, rfl, gc1, gc2, gd⟩ := hu.out
    rcases gd with rfl | ⟨ub, uoff, rfl, gb1, gb2, gb3, gcell⟩
    · simp at hM1
    have hjx := okJob_bounds ((areJobs_out hJ).2.2 _ (List.getElem_mem hil))
    have hja : jobAt js i = js[i] := by simp [jobAt, List.getD, hil]
    rw [← hja] at hjx
    have hx1 := hjx.1.1
    have hx2 := hjx.1.2
    have HD := Lib.hid (longs_drop hil)
    obtain ⟨x, hx⟩ : ∃ x, x = (jobAt js i).x0 := ⟨_, rfl⟩
    have HX := Lib.hid hx
    rw [← hx] at hx1 hx2 HD
    obtain ⟨rest, hrest⟩ : ∃ r, r = (longs js).drop (i + 1) := ⟨_, rfl⟩
    have HR := Lib.hid hrest
    rw [← hrest] at HD
    have HL : Hid (lspan ((longs js).drop i) U = lsGo (lspan rest) U x U.length 0 (-1)) := by rw [Hid, HD.out, lspan]
    have HIH : Hid (∀ (u : Value) (V : List Int) (wx : World), Below w.heap.size w wx → Ints wx w.heap.size wx.heap.size u V → V.length = U.length → (∀ y ∈ V, 0 ≤ y ∧ y ≤ 1000 * ((i : Int) + 1)) →
        Calls Try.prog 63 #[.slice (some ⟨jb, joff, none⟩) js.length jc, u, .int .i64 ((i : Int) + 1)] wx fun e w' => e = .returned (.int .i64 (lspan rest V)) ∧ Below wx.heap.size wx w') := fun u V wx hb hV hVl hVr => by
      have := ih (i + 1) w.heap.size wx.heap.size u V wx (by omega) (hv.below hb hh) (Nat.le_trans hh hb.size) hV (Nat.le_refl _) (by omega) (by omega) (fun y hy => by have := hVr y hy; omega)
      rw [← HR.out, Int.natCast_add, Int.natCast_one] at this
      exact this
    have HV := Lib.hid hv
    have HU := Lib.hid hu
    have HUR := Lib.hid hU
    have HC := Lib.hid gcell
    have HF0 : Hid (∀ V : List Int, V.length = U.length → (∀ y ∈ V, 0 ≤ y) → 0 ≤ lspan rest V) := fun V h1 h2 => (lspan_reach rest V (by omega) (fun z hz => by rw [HR.out] at hz; have := longs_pos hJ z (List.mem_of_mem_drop hz); omega) h2).2
    have HJ := Lib.hid hJ
    obtain ⟨M, hM⟩ : ∃ M, M = U.length := ⟨_, rfl⟩
    have HM := Lib.hid hM
    rw [← hM] at hM1 hM2 gc1 HL ⊢
    have hne1 : ((i : Int) == (js.length : Int)) = false := by simp; omega
    have hne2 : (i == js.length) = false := by simp; omega
    clear ih hd hv hu hU gcell hrest hx hja hjx hM hJ
    go_enter Try.func63, Try.ntmps63
    go_wp2_with fail
    go_loopw [7, 20] (fun bv kv wr => ∃ (k : Nat) (best : Int), k ≤ M ∧ kv = .int .i64 k ∧ bv = .int .i64 best ∧ Hid (lsGo (lspan rest) U x (M - k) k best = lspan ((longs js).drop i) U) ∧ Hid (Below w.heap.size w wr)) (fun _ kv _ => M - (intOf kv).toNat)
    case atStart => exact ⟨0, -1, Nat.zero_le _, rfl, rfl, HL.out.symm, Below.refl _ _⟩
    case round =>
      obtain ⟨k, best, hk, rfl, rfl, HG, HB⟩ := hrel
      have hsw := HB.out.size
      by_cases hkM : k < M
      · have hkU : k < U.length := by rw [← HM.out]; exact hkM
        have hcell : wr.cell? ⟨ub, uoff + k, none⟩ = some (.int .i64 (U.getD k 0)) := by
          rw [HB.out.cell (p := ⟨ub, uoff + k, none⟩) (show ub < w.heap.size by omega)]; exact HC.out k hkU
        have HCP := Lib.hid (copyInts_any _ U wr (HU.out.below HB.out hh') (by omega) (by rw [← HM.out]; omega))
        rw [← HM.out] at HCP
        have htr := HUR.out _ (getD_mem hkU)
        obtain ⟨t, ht⟩ : ∃ t, t = U.getD k 0 := ⟨_, rfl⟩
        have HT := Lib.hid ht
        rw [← ht] at hcell htr
        have ht1 := htr.1
        have ht2 := htr.2
        clear ht htr
        go_wp2_with fail
        refine HCP.out.mono ?_
        rintro e w2 ⟨u2, rfl, ho2, hb2⟩
        have HB2 := Lib.hid (HB.out.trans (hb2.mono hsw))
        have hs2 := hb2.size
        rcases ho2.rowOf with ⟨_, h0⟩ | ⟨g, cap, rfl, hg1, hg2, hg3, hrow⟩
        · exfalso; rw [h0] at hkU; simp at hkU
        have hgge := hrow.ge
        have hc2' := hrow.cell hkU
        have hf2 := hrow.frozen k
        rw [← HT.out] at hc2'
        obtain ⟨j0, _, _, jlt⟩ := jobs_cells (HV.out.below HB2.out hh) hil
        rw [← HX.out] at j0
        rw [← HM.out] at hg2 hrow ⊢
        have HRow := Lib.hid hrow
        have HY : Hid (∀ y ∈ U.set k (t + x), 0 ≤ y ∧ y ≤ 1000 * ((i : Int) + 1)) := fun y hy => by
          rcases List.mem_or_eq_of_mem_set hy with hy | rfl
          · have := HUR.out y hy; omega
          · omega
        clear ho2 hb2 hrow HCP hcell
        go_wp2_with fail
        go_region
        obtain ⟨w3, hw3⟩ : ∃ w3, w3 = (w2.setCell ⟨g, k, none⟩ (.int .i64 (t + x))).drew := ⟨_, rfl⟩
        rw [← hw3]
        have hR3 : RowI w3 wr.heap.size g M cap (U.set k (t + x)) := by rw [hw3]; exact (HRow.out.stored k _).drew ⟨1, rfl⟩
        have HB3 : Hid (Below w.heap.size w w3) := by rw [hw3]; exact (HB2.out.setCell (show w.heap.size ≤ g by omega) _).trans ((show Drew _ (World.drew _) from ⟨1, rfl⟩).below _)
        have HI := Lib.hid (HIH.out _ _ w3 HB3.out ((hR3.rd (hi := w3.heap.size) (fun y hy => by have := HY.out y hy; unfold I64; omega) hR3.lt (Nat.le_refl _)).mono hsw (Nat.le_refl _) (Nat.le_refl _)) (by simp) HY.out)
        have he0 : 0 ≤ lspan rest (U.set k (t + x)) := HF0.out _ (by simp) (fun y hy => (HY.out y hy).1)
        obtain ⟨en, hen⟩ : ∃ en, en = lspan rest (U.set k (t + x)) := ⟨_, rfl⟩
        have HEN := Lib.hid hen
        rw [← hen] at HI he0
        have hs3 : w.heap.size ≤ w3.heap.size := HB3.out.size
        clear hw3 hR3 hen hc2' hf2 j0 HRow
        go_wp2_with fail
        refine HI.out.mono ?_
        rintro e w4 ⟨rfl, hb4⟩
        have HB4 := Lib.hid (HB3.out.trans (hb4.mono hs3))
        have HG1 : Hid (lsGo (lspan rest) U x (M - k) k best = if t = 0 then (if best < 0 ∨ en < best then en else best) else lsGo (lspan rest) U x (M - (k + 1)) (k + 1) (if best < 0 ∨ en < best then en else best)) := by
          rw [Hid, show M - k = (M - (k + 1)) + 1 by omega, lsGo_succ, ← HT.out, ← HEN.out]
        rw [HG.out] at HG1
        clear hb4 HI HG hs2 hgge jlt HY
        by_cases hb0 : best < 0
        · have HG2 := HG1
          rw [Hid, if_pos (show best < 0 ∨ en < best from .inl hb0)] at HG2
          by_cases ht0 : t = 0
          · subst ht0
            have HG3 : Hid (lspan ((longs js).drop i) U = en) := by rw [Hid, HG2]; exact if_pos rfl
            clear HG1 HG2
            go_wp2
            go_ret
            exact ⟨ret_int (by rw [HG3.out]), HB4.out⟩
          · have HG3 : Hid (lsGo (lspan rest) U x (M - (k + 1)) (k + 1) en = lspan ((longs js).drop i) U) := by rw [Hid, HG2, if_neg ht0]
            clear HG1 HG2
            go_wp2
            go_roundw
            case rel => exact ⟨k + 1, en, by omega, by go_num, rfl, HG3, HB4⟩
            case measure => simp [intOf]; omega
        · by_cases hlt : en < best
          · have HG2 := HG1
            rw [Hid, if_pos (show best < 0 ∨ en < best from .inr hlt)] at HG2
            by_cases ht0 : t = 0
            · subst ht0
              have HG3 : Hid (lspan ((longs js).drop i) U = en) := by rw [Hid, HG2]; exact if_pos rfl
              clear HG1 HG2
              go_wp2
              go_ret
              exact ⟨ret_int (by rw [HG3.out]), HB4.out⟩
            · have HG3 : Hid (lsGo (lspan rest) U x (M - (k + 1)) (k + 1) en = lspan ((longs js).drop i) U) := by rw [Hid, HG2, if_neg ht0]
              clear HG1 HG2
              go_wp2
              go_roundw
              case rel => exact ⟨k + 1, en, by omega, by go_num, rfl, HG3, HB4⟩
              case measure => simp [intOf]; omega
          · have hltd : decide (en < best) = false := decide_eq_false hlt
            have HG2 := HG1
            rw [Hid, if_neg (show ¬ (best < 0 ∨ en < best) by omega)] at HG2
            by_cases ht0 : t = 0
            · subst ht0
              have HG3 : Hid (lspan ((longs js).drop i) U = best) := by rw [Hid, HG2]; exact if_pos rfl
              clear HG1 HG2
              go_wp2
              go_ret
              exact ⟨ret_int (by rw [HG3.out]), HB4.out⟩
            · have HG3 : Hid (lsGo (lspan rest) U x (M - (k + 1)) (k + 1) best = lspan ((longs js).drop i) U) := by rw [Hid, HG2, if_neg ht0]
              clear HG1 HG2
              go_wp2
              go_roundw
              case rel => exact ⟨k + 1, best, by omega, by go_num, rfl, HG3, HB4⟩
              case measure => simp [intOf]; omega
      · obtain rfl : k = M := by omega
        have HE : Hid (lspan ((longs js).drop i) U = best) := by rw [Hid, ← HG.out, Nat.sub_self, lsGo]
        go_wp2
        go_ret
        exact ⟨ret_int (by rw [HE.out]), HB.out⟩
set_option maxHeartbeats 2000000 in
set_option maxRecDepth 100000 in
theorem implLeastSpan_any (w : World) {l h : Nat} (v : Value) (js : List JobD) (M : Int) (hv : Jobs w l h v js) (hh : h ≤ w.heap.size) (hz : js.length ≤ 1048576) (k : I64 M) :
    Calls Try.prog 25 #[v, .int .i64 M] w fun e w' => e = .returned (.tuple #[.int .i64 (leastSpan js M).1, .bool (leastSpan js M).2]) ∧ Below w.heap.size w w' := by
  cases hm : areMach js M
  · have HE := Lib.hid (show leastSpan js M = (0, false) by simp [leastSpan, hm])
    obtain ⟨ja, jc, rfl, hc1, hc2, _⟩ := hv.out
    have HMM := Lib.hid (areMachines_any _ js M w hv hh hz)
    rw [hm] at HMM
    clear hv
    go_enter Try.func25, Try.ntmps25
    go_wp2_with fail
    refine HMM.out.mono ?_
    rintro e w1 ⟨rfl, hb1⟩
    go_wp2
    go_ret2
    exact ⟨ret_p HE.out, hb1⟩
  · obtain ⟨hJ, hM1, hM2⟩ := areMach_out hm
    have hl := areJobs_len hJ
    obtain ⟨Mn, rfl⟩ : ∃ Mn : Nat, M = (Mn : Int) := ⟨M.toNat, by omega⟩
    have HV := Lib.hid hv
    obtain ⟨ja, jc, rfl, hc1, hc2, _⟩ := hv.out
    have HMM := Lib.hid (areMachines_any _ js Mn w hv hh hz)
    rw [hm] at HMM
    have HJ := Lib.hid hJ
    by_cases h9 : js.length ≤ 9
    · have HE := Lib.hid (show leastSpan js (Mn : Int) = (lspan (longs js) (List.replicate Mn 0), true) by simp [leastSpan, hm, h9])
      have h9i : ¬ ((js.length : Int) > 9) := by omega
      have hmm : Mn ≤ maxLen := by unfold maxLen; omega
      obtain ⟨i0, hi, hz0, hz1, hz2⟩ := info_parts info_i64
      clear hv hm hJ
      go_enter Try.func25, Try.ntmps25
      go_wp2_with fail
      refine HMM.out.mono ?_
      rintro e w1 ⟨rfl, hb1⟩
      have HB1 := Lib.hid hb1
      have hs1 := hb1.size
      clear hb1
      go_wp2_with (refine wpList_make_full _ rfl _ _ 32 rfl w1.heap.size 2 i0 (.int .i64 0) 1 Try.underlying32 hi hz0 hz1 .i64 .i64 _ _ Mn rfl rfl rfl rfl ?c1 hmm ?c2 ?_)
      case c1 => rw [hz2]; omega
      case c2 => exact Nat.le_refl _
      intro w2 hown hg
      have hrow := RowI.made hown
      have hb2 : Below w1.heap.size w1 w2 := (Below.refl _ _).grown hg (Nat.le_refl _) (fun k hk => by cases hk)
      have HB2 := Lib.hid (HB1.out.trans (hb2.mono hs1))
      have hs2 := HB2.out.size
      have HS := Lib.hid (implSpanRec_any _ js HJ.out js.length 0 w1.heap.size w2.heap.size _ (List.replicate Mn 0) w2 (by omega) (HV.out.below HB2.out hh) (by omega) (hrow.rd (fun y hy => by rw [List.eq_of_mem_replicate hy]; unfold I64; omega) hrow.lt (Nat.le_refl _)) (Nat.le_refl _) (by simp; omega) (by simp; omega) (fun y hy => by rw [List.eq_of_mem_replicate hy]; omega))
      rw [List.drop_zero] at HS
      clear hown hg hrow hb2 hi hz0 hz1 hz2 hmm
      go_wp2_with fail
      refine HS.out.mono ?_
      rintro e w4 ⟨rfl, hb4⟩
      have HB4 := Lib.hid (HB2.out.trans (hb4.mono hs2))
      clear hb4
      go_wp2
      go_ret2
      exact ⟨ret_p HE.out, HB4.out⟩
    · have HE := Lib.hid (show leastSpan js (Mn : Int) = (0, false) by simp [leastSpan, h9])
      have h9i : (js.length : Int) > 9 := by omega
      clear hv hm hJ
      go_enter Try.func25, Try.ntmps25
      go_wp2_with fail
      refine HMM.out.mono ?_
      rintro e w1 ⟨rfl, hb1⟩
      go_wp2
      go_ret2
      exact ⟨ret_p HE.out, hb1⟩
end Go.Proofs.Yteoikfddebbakaa
