/-
  LeaveLetter: contracts in the reference.
-/
import Derived.Test.YtdeelgnfnhdklaaLeaveP
import Derived.Test.YtdeelgnfnhdklaaLearnI
namespace Go.Proofs.Ytdeelgnfnhdklaa
open Go.RowKit
set_option linter.unusedVariables false

theorem lit_rng {L : Int} {c : List Int} (h : isClause L c = true) : (∀ x ∈ c, -10 ≤ x ∧ x ≤ 10) ∧ c.length ≤ 10 := by
  have hL := (inB_true (clause_in h)).2
  have hc := cons_clause h
  exact ⟨fun x hx => by have := hc.rng hL hx; omega, hc.len hL⟩
set_option maxHeartbeats 2000000 in
set_option maxRecDepth 100000 in
theorem specLeaveLetter_any (w : World) {l h : Nat} (v : Value) (f : FormD) (x : Int) (hv : FormR w l h v f) (hh : h ≤ w.heap.size) (hz : SmallII f.clauses) (kx : I64 x) :
    Calls Try.prog 52 #[v, .int .i64 x] w fun e w' => ∃ r, e = .returned (.tuple #[r, .bool (leaveF f x).2]) ∧ OwnF w' w.heap.size w'.heap.size r (leaveF f x).1 ∧ Below w.heap.size w w' := by
  obtain ⟨u, rfl, hu⟩ := hv.ex
  have kL := hv.rng
  obtain ⟨a0, cap0, V0, e0, hcap1, hcap2, _, _⟩ := hu.out
  subst e0
  obtain ⟨W1, hW1⟩ : ∃ W, W = w.alloc (.cells #[.int .i64 f.letters, .slice a0 f.clauses.length cap0] 29) := ⟨_, rfl⟩
  obtain ⟨W, hW⟩ : ∃ W, W = W1.alloc (.cells #[.int .i64 0, .slice none 0 0] 29) := ⟨_, rfl⟩
  have hs1 : W1.heap.size = w.heap.size + 1 := by rw [hW1]; simp
  have hsW : W.heap.size = w.heap.size + 2 := by rw [hW]; simp [hs1]
  have hB1 : Below w.heap.size w W1 := by rw [hW1]; exact alloc_below _ _
  have hBW : Below w.heap.size w W := by rw [hW]; exact hB1.alloc (by omega) _
  have hbx : TwoC W w.heap.size 29 (.int .i64 f.letters) (.slice a0 f.clauses.length cap0) := by rw [hW]; refine TwoC.alloc ?_ _; rw [hW1]; exact TwoC.new _ _ _ _
  have hbr : TwoC W (w.heap.size + 1) 29 (.int .i64 0) (.slice none 0 0) := by rw [hW, ← hs1]; exact TwoC.new _ _ _ _
  have HU := Lib.hid (hu.below hBW hh)
  have HB := Lib.hid hbx
  have HR := Lib.hid hbr
  have HBW := Lib.hid hBW
  have hcl : f.clauses.length ≤ 1048576 := hz.1
  have HZ := Lib.hid hz
  have hsW2 : w.heap.size + 1 < W.heap.size := by omega
  have hhW : h ≤ W.heap.size := by omega
  clear hbx hu hv hbr hB1 hBW
  go_enter Try.func52, Try.ntmps52
  go_wp2_with fail
  rw [← hW1, ← hW]
  clear hW hW1 hsW hs1
  refine (l05Is_any W _ _ f HB.out.c0 HB.out.c1 (by omega) kL HU.out hhW).mono ?_
  rintro e w2 ⟨rfl, hb2⟩
  have hs2 := hb2.size
  have hbr2 := HR.out.below hb2 HR.out.lt
  have HR2 := Lib.hid hbr2
  have r0 := hbr2.c0
  have r1 := hbr2.c1
  have g0 := hbr2.f0
  have g1 := hbr2.f1
  have hbx2 := HB.out.below hb2 HB.out.lt
  have HB2 := Lib.hid hbx2
  have q0 := hbx2.c0
  have q1 := hbx2.c1
  have HU2 := Lib.hid (HU.out.below hb2 hhW)
  have HBW2 := Lib.hid (HBW.out.trans (hb2.mono (by omega)))
  clear hbr2 hbx2 hb2
  cases hval : validForm f
  · have HE := Lib.hid (leave_no (f := f) (x := x) (by rw [hval]; rfl))
    go_wp2_with fail
    refine bodyPost_ret (v := .tuple #[.agg #[.int .i64 0, .slice none 0 0], .bool false]) (by simp [results, Try.results52, go_sem, r0, r1]) rfl ⟨_, by rw [HE.out], by rw [HE.out]; exact noForm _ _ (Nat.le_refl _) _, ?_⟩
    exact (HBW2.out.setCell (by simp) _).setCell (by simp) _
  cases hin : inB 1 f.letters x
  · have HE := Lib.hid (leave_no (f := f) (x := x) (by rw [hin, Bool.and_false]))
    have HIN := Lib.hid (l00In_any x 1 f.letters w2)
    rw [hin] at HIN
    go_wp2_with fail
    refine HIN.out.mono ?_
    rintro e w' ⟨rfl, rfl⟩
    go_wp2_with fail
    refine bodyPost_ret (v := .tuple #[.agg #[.int .i64 0, .slice none 0 0], .bool false]) (by simp [results, Try.results52, go_sem, r0, r1]) rfl ⟨_, by rw [HE.out], by rw [HE.out]; exact noForm _ _ (Nat.le_refl _) _, ?_⟩
    exact (HBW2.out.setCell (by simp) _).setCell (by simp) _
  have HE := Lib.hid (leave_yes (f := f) (x := x) (by rw [hin, hval]; rfl))
  have bx := inB_true hin
  have bv := validForm_bounds hval
  have hL10 : f.letters ≤ 10 := bv.1.2
  have h48 : f.clauses.length ≤ 48 := bv.2.1
  have HCL := Lib.hid bv.2.2
  have hx1 : 1 ≤ x := bx.1
  have hx2 : x ≤ 10 := by omega
  have HIN := Lib.hid (l00In_any x 1 f.letters w2)
  rw [hin] at HIN
  obtain ⟨W3, hW3⟩ : ∃ W, W = w2.alloc (.cells #[.int .i64 f.letters, .slice none 0 0] 29) := ⟨_, rfl⟩
  have hs3 : W3.heap.size = w2.heap.size + 1 := by rw [hW3]; simp
  have hb3 : Below w2.heap.size w2 W3 := by rw [hW3]; exact alloc_below _ _
  have hp3 : TwoC W3 w2.heap.size 29 (.int .i64 f.letters) (.slice none 0 0) := by rw [hW3]; exact TwoC.new _ _ _ _
  have q1a := (HB2.out.alloc (.cells #[.int .i64 f.letters, .slice none 0 0] 29)).c1
  have HP3 := Lib.hid hp3
  have HB3 := Lib.hid hb3
  have hs23 : w2.heap.size < W3.heap.size := by omega
  clear hval hin bx bv hp3 hb3 hs3
  go_wp2_with fail
  refine HIN.out.mono ?_
  rintro e w' ⟨rfl, rfl⟩
  go_wp2_with fail
  rw [← hW3]
  clear q0 q1 q1a r0 r1 g0 g1 hW3
  go_loopw [29] (fun i wr => ∃ (k : Nat) (ov : Value), k ≤ f.clauses.length ∧ i = .int .i64 k ∧ Hid (TwoC wr w2.heap.size 29 (.int .i64 f.letters) ov) ∧ Hid (OwnII wr (w2.heap.size + 1) wr.heap.size ov (leaveKeep x f.clauses k)) ∧ Hid (Below w2.heap.size w2 wr)) (fun i _ => f.clauses.length - (intOf i).toNat)
  case atStart => exact ⟨0, _, Nat.zero_le _, rfl, HP3, OwnII.nil _ _ _ (Nat.le_refl _), HB3⟩
  case round =>
    clear HP3 HB3
    obtain ⟨k, ov, hk, rfl, HP, HO, HBr⟩ := hrel
    have hsr := HBr.out.size
    obtain ⟨oa, oc, rfl⟩ := HO.out.shape
    have hplt := HP.out.lt
    have hbx := HB2.out.below HBr.out HB2.out.lt
    have q0 := hbx.c0
    have q1 := hbx.c1
    clear hbx
    by_cases hlt : k < f.clauses.length
    · obtain ⟨fb, foff, hfe⟩ := HU2.out.addr (by omega)
      subst hfe
      obtain ⟨ka, kc, hck, hcl2, hfb⟩ := (HU2.out.below HBr.out (by omega)).cellAt hlt
      have hmem : f.clauses[k] ∈ f.clauses := List.getElem_mem hlt
      have hfew := keep_few (x := x) k h48 HCL.out
      have hfe1 := hfew.1
      have hcr := lit_rng (HCL.out _ hmem)
      have hlen := hcr.2
      cases hkp : (!hasI f.clauses[k] x && !hasI f.clauses[k] (-x))
      · have HN : Hid (leaveKeep x f.clauses (k + 1) = leaveKeep x f.clauses k) := keep_no hlt hkp
        obtain ⟨c, hc⟩ : ∃ c, c = f.clauses[k] := ⟨_, rfl⟩
        rw [← hc] at hkp hck hcl2
        have H1 := Lib.hid (l00Has_any _ c x wr hcl2)
        have H2 := Lib.hid (l00Has_any _ c (-x) wr hcl2)
        cases h1 : hasI c x
        · have h2 : hasI c (-x) = true := by rw [h1] at hkp; simpa using hkp
          rw [h1] at H1
          rw [h2] at H2
          clear hkp h1 h2 hfew hcr hmem hcl2 hc
          go_wp2_with fail
          refine H1.out.mono ?_
          rintro e w' ⟨rfl, rfl⟩
          go_wp2_with fail
          refine H2.out.mono ?_
          rintro e w' ⟨rfl, rfl⟩
          go_wp2
          go_roundw
          case rel => exact ⟨k + 1, _, by omega, by go_num, HP, by rw [HN.out]; exact HO, HBr⟩
          case measure => simp [intOf]; omega
        · rw [h1] at H1
          clear hkp h1 hfew hcr hmem hcl2 hc
          go_wp2_with fail
          refine H1.out.mono ?_
          rintro e w' ⟨rfl, rfl⟩
          go_wp2
          go_roundw
          case rel => exact ⟨k + 1, _, by omega, by go_num, HP, by rw [HN.out]; exact HO, HBr⟩
          case measure => simp [intOf]; omega
      · have HN : Hid (leaveKeep x f.clauses (k + 1) = leaveKeep x f.clauses k ++ [f.clauses[k]]) := keep_yes hlt hkp
        have hfs : Few 49 (leaveKeep x f.clauses k ++ [f.clauses[k]]) := hfew.app (m := 1) ⟨by simp, fun c hc => by rw [List.mem_singleton] at hc; rw [hc]; omega⟩
        have hsum : ((leaveKeep x f.clauses k ++ [f.clauses[k]]).map List.length).sum ≤ 1099511627776 := by have := hfs.sum (by omega); omega
        obtain ⟨c, hc⟩ : ∃ c, c = f.clauses[k] := ⟨_, rfl⟩
        rw [← hc] at hkp hck hcl2 hsum HN hlen
        have H1 := Lib.hid (l00Has_any _ c x wr hcl2)
        have H2 := Lib.hid (l00Has_any _ c (-x) wr hcl2)
        have h1 : hasI c x = false := by simp at hkp; exact hkp.1
        have h2 : hasI c (-x) = false := by simp at hkp; exact hkp.2
        rw [h1] at H1
        rw [h2] at H2
        have hAD : Drew (wr.alloc (.cells #[] 2)) (wr.alloc (.cells #[] 2)).drew := ⟨1, rfl⟩
        have hE0 : OwnI (wr.alloc (.cells #[] 2)).drew wr.heap.size (wr.heap.size + 1) (.slice (some ⟨wr.heap.size, 0, none⟩) 0 0) [] := (emptySlice wr).drew hAD
        have hB0 : Below wr.heap.size wr (wr.alloc (.cells #[] 2)) := alloc_below wr _
        have hBA : Below wr.heap.size wr (wr.alloc (.cells #[] 2)).drew := hB0.trans (hAD.below _)
        have hxa := hcl2.below hBA (by omega)
        have hpa := HP.out.below hBA hplt
        have hoa := HO.out.below hBA (by omega)
        have c66 := HP.out.c1
        have c66a := (HP.out.below hB0 hplt).c1
        have hsa : (wr.alloc (.cells #[] 2)).drew.heap.size = wr.heap.size + 1 := by rw [hAD.heap]; simp
        have kb1 : Below w2.heap.size wr (wr.alloc (.cells #[] 2)).drew := hBA.mono (by omega)
        have HXA := Lib.hid hxa
        have HE0 := Lib.hid hE0
        have HPA := Lib.hid hpa
        have HOA := Lib.hid hoa
        have HKB1 := Lib.hid kb1
        clear hE0 hBA hB0 hAD hxa hpa hoa hkp h1 h2 hfew hcr hmem hcl2 hc kb1 hfs
        go_wp2_with fail
        refine H1.out.mono ?_
        rintro e w' ⟨rfl, rfl⟩
        go_wp2_with fail
        refine H2.out.mono ?_
        rintro e w' ⟨rfl, rfl⟩
        go_wp2_with fail
        go_region_law (first | ((refine step_appIs (by rfl) _ _ (by rfl) _ [] (by rfl) HE0.out _ c (by rfl) HXA.out (by simp; omega) (by rw [hsa]; omega) ?_; intro v3 w3 ho3 hsm3 hz3 _; rw [List.nil_append] at ho3; obtain ⟨qa, qc, rfl⟩ := ho3.shape; have kb3 := HKB1.out.trans (hsm3.below (B := w2.heap.size) (by omega) (by rw [hsa]; omega)); have hp3 := HPA.out.same hsm3 (.inl hplt); have ho3' := HOA.out.same hsm3 (.inl (by omega)); have c66b := hp3.c1; have c66c := (hp3.alloc (.cells #[.slice qa c.length qc] 40)).c1)) | ((refine step_appII (by rfl) _ _ (by rfl) _ (leaveKeep x f.clauses k) (by rfl) _ c _ ho3' ho3 (by omega) (by omega) (by rfl) (by omega) hsum (by omega) ?_; intro v4 w4 ho4 hsm4 hz4; obtain ⟨ya, yc, rfl⟩ := ho4.shape1; have hp4 := hp3.same hsm4 (.inl (Nat.lt_succ_self _)); have c4 := hp4.c1; have f4 := hp4.f1; have kb4 := kb3.trans (hsm4.below (B := w2.heap.size) (by omega) (by omega)))))
        all_goals
          have HP4 := Lib.hid (hp4.set1 (.slice ya ((leaveKeep x f.clauses k).length + 1) yc))
          have HO4 : Hid (OwnII (w4.setCell ⟨w2.heap.size, 1, none⟩ (.slice ya ((leaveKeep x f.clauses k).length + 1) yc)) (w2.heap.size + 1) (w4.setCell ⟨w2.heap.size, 1, none⟩ (.slice ya ((leaveKeep x f.clauses k).length + 1) yc)).heap.size (.slice ya ((leaveKeep x f.clauses k).length + 1) yc) (leaveKeep x f.clauses k ++ [c])) := (ho4.same (set1_same _ _ _ _) (.inr (Nat.le_refl _))).mono (Nat.le_refl _) (set1_same _ _ _ _).size (Nat.le_refl _)
          have HB4 := Lib.hid (HBr.out.trans (kb4.setCell (p := ⟨w2.heap.size, 1, none⟩) (Nat.le_refl _) (.slice ya ((leaveKeep x f.clauses k).length + 1) yc)))
          clear ho4 kb4 hsm4 hp3 ho3' ho3 kb3 hsm3
          go_wp2
          go_roundw
          case rel => exact ⟨k + 1, _, by omega, by go_num, HP4, by rw [HN.out]; exact HO4, HB4⟩
          case measure => simp [intOf]; omega
    · obtain rfl : k = f.clauses.length := by omega
      have hOM : Hid (OwnII wr (w2.heap.size + 1) wr.heap.size (.slice oa (leaveKeep x f.clauses f.clauses.length).length oc) (leaveMid x f.clauses 0)) := by rw [Hid, leaveMid_zero]; exact HO.out
      clear hplt HO
      go_wp2_with fail
      clear q0 q1
      go_loopw [60] (fun i wr => ∃ (i' : Nat) (ov : Value), i' ≤ f.clauses.length ∧ i = .int .i64 i' ∧ Hid (TwoC wr w2.heap.size 29 (.int .i64 f.letters) ov) ∧ Hid (OwnII wr (w2.heap.size + 1) wr.heap.size ov (leaveMid x f.clauses i')) ∧ Hid (Below w2.heap.size w2 wr)) (fun i _ => f.clauses.length - (intOf i).toNat)
      case atStart => exact ⟨0, _, Nat.zero_le _, rfl, HP, hOM, HBr⟩
      case round =>
        clear HP hOM HBr hsr
        obtain ⟨i, ov, hi, rfl, HP, HO, HBr⟩ := hrel
        have hsr := HBr.out.size
        obtain ⟨oa2, oc2, rfl⟩ := HO.out.shape
        have hplt := HP.out.lt
        have hbx := HB2.out.below HBr.out HB2.out.lt
        have q0 := hbx.c0
        have q1 := hbx.c1
        clear hbx
        by_cases hlt : i < f.clauses.length
        · obtain ⟨fb, foff, hfe⟩ := HU2.out.addr (by omega)
          subst hfe
          obtain ⟨aa, ac, hak, hal, hfb⟩ := (HU2.out.below HBr.out (by omega)).cellAt hlt
          obtain ⟨aa', ac', hak', hal', _⟩ := HU2.out.cellAt hlt
          have hea : aa' = aa ∧ ac' = ac := by
            rw [HBr.out.cell (p := ⟨fb, foff + i, none⟩) (show fb < w2.heap.size by omega), hak'] at hak
            injection hak with hak
            injection hak with e1 _ e2
            exact ⟨e1, e2⟩
          obtain ⟨rfl, rfl⟩ := hea
          have hmem : f.clauses[i] ∈ f.clauses := List.getElem_mem hlt
          have HCA := Lib.hid (HCL.out _ hmem)
          have HME := Lib.hid (fun h => mid_no (x := x) hlt h)
          have HWE := Lib.hid (leaveWay_end (x := x) hlt)
          have har := lit_rng (HCL.out _ hmem)
          obtain ⟨a, ha⟩ : ∃ a, a = f.clauses[i] := ⟨_, rfl⟩
          rw [← ha] at hak hal hal' hak' HCA HME HWE har
          have HAR := Lib.hid har
          have HAL := Lib.hid hal'
          have HAK := Lib.hid hak'
          have HH := Lib.hid (l00Has_any _ a x wr hal)
          cases hax : hasI a x
          · have HN := Lib.hid (HME.out hax)
            rw [hax] at HH
            clear hax ha hal hal' hak' har hmem
            go_wp2_with fail
            refine HH.out.mono ?_
            rintro e w' ⟨rfl, rfl⟩
            go_wp2
            go_roundw
            case rel => exact ⟨i + 1, _, by omega, by go_num, HP, by rw [HN.out]; exact HO, HBr⟩
            case measure => simp [intOf]; omega
          have HAX := Lib.hid hax
          rw [hax] at HH
          have hOW : Hid (OwnII wr (w2.heap.size + 1) wr.heap.size (.slice oa2 (leaveMid x f.clauses i).length oc2) (leaveWay x f.clauses i a 0)) := by rw [Hid, leaveWay_zero]; exact HO.out
          clear hax ha hal hal' hak' har hmem HO
          go_wp2_with fail
          refine HH.out.mono ?_
          rintro e w' ⟨rfl, rfl⟩
          go_wp2_with fail
          clear q0 q1 hak
          go_loopw [74] (fun k wr => ∃ (k' : Nat) (ov : Value), k' ≤ f.clauses.length ∧ k = .int .i64 k' ∧ Hid (TwoC wr w2.heap.size 29 (.int .i64 f.letters) ov) ∧ Hid (OwnII wr (w2.heap.size + 1) wr.heap.size ov (leaveWay x f.clauses i a k')) ∧ Hid (Below w2.heap.size w2 wr)) (fun k _ => f.clauses.length - (intOf k).toNat)
          case atStart => exact ⟨0, _, Nat.zero_le _, rfl, HP, hOW, HBr⟩
          case round =>
            clear HP hOW HBr hsr HH hplt
            obtain ⟨k, ov, hk, rfl, HP, HO, HBr⟩ := hrel
            have hsr := HBr.out.size
            obtain ⟨oa3, oc3, rfl⟩ := HO.out.shape
            have hplt := HP.out.lt
            have hbx := HB2.out.below HBr.out HB2.out.lt
            have q0 := hbx.c0
            have q1 := hbx.c1
            have HBX := Lib.hid hbx
            clear hbx
            by_cases hkl : k < f.clauses.length
            · obtain ⟨ba, bc, hbk, hbl, _⟩ := (HU2.out.below HBr.out (by omega)).cellAt hkl
              have hmem : f.clauses[k] ∈ f.clauses := List.getElem_mem hkl
              have HCB := Lib.hid (HCL.out _ hmem)
              have hbr := lit_rng (HCL.out _ hmem)
              have HNB : Hid (hasI f.clauses[k] (-x) = false → leaveWay x f.clauses i a (k + 1) = leaveWay x f.clauses i a k) := fun h => leaveWay_noB hkl h
              have HNN : Hid ((resolveN a f.clauses[k] x).2 = false → leaveWay x f.clauses i a (k + 1) = leaveWay x f.clauses i a k) := fun h => leaveWay_none hkl h
              have HNP : Hid (∀ R, hasI f.clauses[k] (-x) = true → resolveN a f.clauses[k] x = (R, true) → leaveWay x f.clauses i a (k + 1) = leaveWay x f.clauses i a k ++ [R]) := fun R h1 h2 => leaveWay_put hkl HAX.out h1 h2
              have hfew := leaveWay_few (x := x) hx1 h48 HCL.out HCA.out (Nat.le_of_lt hlt) hk
              have hfew2 := leaveWay_few (x := x) (k := k + 1) hx1 h48 HCL.out HCA.out (Nat.le_of_lt hlt) hkl
              have hfe1 := hfew.1
              obtain ⟨b, hb⟩ : ∃ b, b = f.clauses[k] := ⟨_, rfl⟩
              rw [← hb] at hbk hbl HCB hbr HNB HNN HNP
              have HBL := Lib.hid hbl
              have HBR := Lib.hid hbr
              have HH := Lib.hid (l00Has_any _ b (-x) wr hbl)
              have hak : wr.cell? ⟨fb, foff + i, none⟩ = some (.slice aa' a.length ac') := by rw [HBr.out.cell (p := ⟨fb, foff + i, none⟩) (show fb < w2.heap.size by omega)]; exact HAK.out
              cases hbx : hasI b (-x)
              · have HN := Lib.hid (HNB.out hbx)
                rw [hbx] at HH
                clear hbx hb hbl hbr hmem hfew hfew2
                go_wp2_with fail
                refine HH.out.mono ?_
                rintro e w' ⟨rfl, rfl⟩
                go_wp2
                go_roundw
                case rel => exact ⟨k + 1, _, by omega, by go_num, HP, by rw [HN.out]; exact HO, HBr⟩
                case measure => simp [intOf]; omega
              obtain ⟨R, t, hRT⟩ : ∃ R t, resolveN a b x = (R, t) := ⟨_, _, rfl⟩
              have hDr : Drew wr wr.drew := ⟨1, rfl⟩
              have HRS : Hid (Calls Try.prog 91 #[.slice aa' a.length ac', .slice ba b.length bc, .int .i64 x] wr.drew fun e w' => ∃ u, e = .returned (.tuple #[u, .bool t]) ∧ OwnI w' wr.heap.size w'.heap.size u R ∧ Below wr.heap.size wr.drew w') := by
                have h1 := l05Resolve_any wr.drew _ _ a b x ((HAL.out.below HBr.out (by omega)).drew hDr) (by show h ≤ wr.heap.size; omega) (HBL.out.drew hDr) (by show h ≤ wr.heap.size; omega) HAR.out.1 HBR.out.1 (by have := HAR.out.2; omega) (by have := HBR.out.2; omega) hx1 hx2
                rw [hRT] at h1
                exact h1
              have HBD : Hid (Below wr.heap.size wr wr.drew) := hDr.below _
              have HBX2 := Lib.hid hbx
              rw [hbx] at HH
              clear hbx hb hbl hbr hmem hDr
              cases t
              · have HN := Lib.hid (HNN.out (by rw [hRT]))
                clear hRT hfew hfew2
                go_wp2_with fail
                refine HH.out.mono ?_
                rintro e w' ⟨rfl, rfl⟩
                go_wp2_with fail
                go_region_law ((go_simp; go_at_call 91; refine HRS.out.mono ?_; rintro e w4 ⟨u4, rfl, ho4, hb4⟩; have HB4 := Lib.hid (HBD.out.trans hb4); have q14 := (HBX.out.below HB4.out (by omega)).c1; have hak4 : w4.cell? ⟨fb, foff + i, none⟩ = some (.slice aa' a.length ac') := (by rw [HB4.out.cell (p := ⟨fb, foff + i, none⟩) (show fb < wr.heap.size by omega)]; exact hak); have hbk4 : w4.cell? ⟨fb, foff + k, none⟩ = some (.slice ba b.length bc) := (by rw [HB4.out.cell (p := ⟨fb, foff + k, none⟩) (show fb < wr.heap.size by omega)]; exact hbk); clear ho4 hb4))
                all_goals
                  have HP4 := Lib.hid (HP.out.below HB4.out hplt)
                  have HO4 : Hid (OwnII w4 (w2.heap.size + 1) w4.heap.size (.slice oa3 (leaveWay x f.clauses i a k).length oc3) (leaveWay x f.clauses i a (k + 1))) := by rw [Hid, HN.out]; exact (HO.out.below HB4.out (Nat.le_refl _)).mono (Nat.le_refl _) HB4.out.size (Nat.le_refl _)
                  have HB44 := Lib.hid (HBr.out.trans (HB4.out.mono hsr))
                  go_wp2
                  go_roundw
                  case rel => exact ⟨k + 1, _, by omega, by go_num, HP4, HO4, HB44⟩
                  case measure => simp [intOf]; omega
              · have HN := Lib.hid (HNP.out R HBX2.out hRT)
                have HLN : Hid ((leaveWay x f.clauses i a k).length + 1 ≤ 1048576) := by rw [Hid]; omega
                have HSM : Hid (((leaveWay x f.clauses i a k ++ [R]).map List.length).sum ≤ 1099511627776) := by rw [Hid, ← HN.out]; have := hfew2.sum (by omega); omega
                clear hRT hfew hfew2
                go_wp2_with fail
                refine HH.out.mono ?_
                rintro e w' ⟨rfl, rfl⟩
                go_wp2_with fail
                go_region_law ((go_simp; go_at_call 91; refine HRS.out.mono ?_; rintro e w4 ⟨u4, rfl, ho4, hb4⟩; obtain ⟨ua, uc, rfl⟩ := ho4.shape; have HB4 := Lib.hid (HBD.out.trans hb4); have q14 := (HBX.out.below HB4.out (by omega)).c1; have hak4 : w4.cell? ⟨fb, foff + i, none⟩ = some (.slice aa' a.length ac') := (by rw [HB4.out.cell (p := ⟨fb, foff + i, none⟩) (show fb < wr.heap.size by omega)]; exact hak); have hbk4 : w4.cell? ⟨fb, foff + k, none⟩ = some (.slice ba b.length bc) := (by rw [HB4.out.cell (p := ⟨fb, foff + k, none⟩) (show fb < wr.heap.size by omega)]; exact hbk); have HO4 := Lib.hid ho4; clear ho4 hb4))
                all_goals
                  have hp4 := HP.out.below HB4.out hplt
                  have HP4 := Lib.hid hp4
                  have HR4 := Lib.hid (HO.out.below HB4.out (Nat.le_refl _))
                  have c66 := hp4.c1
                  have hs4 := HB4.out.size
                  have hlo4 : w2.heap.size + 1 ≤ w4.heap.size := by omega
                  clear hp4 q14 hak4 hbk4
                  go_wp2_with (at_builtin; refine wpList_appII rfl _ _ rfl _ (leaveWay x f.clauses i a k) rfl _ R _ HR4.out HO4.out (Nat.le_refl _) (show w2.heap.size + 1 ≤ wr.heap.size by omega) rfl HLN.out HSM.out hlo4 ?_)
                  intro v5 w5 ho5 hsm5 hz5
                  obtain ⟨ya, yc, rfl⟩ := ho5.shape1
                  have hp5 := HP4.out.same hsm5 (.inl (Nat.lt_succ_self _))
                  have c4 := hp5.c1
                  have f4 := hp5.f1
                  have HP5 := Lib.hid (hp5.set1 (.slice ya ((leaveWay x f.clauses i a k).length + 1) yc))
                  have HO5 : Hid (OwnII (w5.setCell ⟨w2.heap.size, 1, none⟩ (.slice ya ((leaveWay x f.clauses i a k).length + 1) yc)) (w2.heap.size + 1) (w5.setCell ⟨w2.heap.size, 1, none⟩ (.slice ya ((leaveWay x f.clauses i a k).length + 1) yc)).heap.size (.slice ya ((leaveWay x f.clauses i a k).length + 1) yc) (leaveWay x f.clauses i a (k + 1))) := by
                    rw [Hid, HN.out]; exact (ho5.same (set1_same _ _ _ _) (.inr (Nat.le_refl _))).mono (Nat.le_refl _) (set1_same _ _ _ _).size (Nat.le_refl _)
                  have HB5 := Lib.hid (((HBr.out.trans (HB4.out.mono hsr)).trans (hsm5.below (B := w2.heap.size) (by omega) (by omega))).setCell (p := ⟨w2.heap.size, 1, none⟩) (Nat.le_refl _) (.slice ya ((leaveWay x f.clauses i a k).length + 1) yc))
                  clear ho5 hsm5 hz5 hp5 c66
                  go_wp2
                  go_roundw
                  case rel => exact ⟨k + 1, _, by omega, by go_num, HP5, HO5, HB5⟩
                  case measure => simp [intOf]; omega
            · obtain rfl : k = f.clauses.length := by omega
              have HO' : Hid (OwnII wr (w2.heap.size + 1) wr.heap.size (.slice oa3 (leaveWay x f.clauses i a f.clauses.length).length oc3) (leaveMid x f.clauses (i + 1))) := by rw [Hid, ← HWE.out]; exact HO.out
              go_wp2
              go_roundw
              case rel => exact ⟨i + 1, _, by omega, by go_num, HP, HO', HBr⟩
              case measure => simp [intOf]; omega
        · obtain rfl : i = f.clauses.length := by omega
          rw [leaveMid_all] at HO
          have hfew := all_few (x := x) hx1 h48 HCL.out
          have c0 := HP.out.c0
          have c1 := HP.out.c1
          have e0 : (leaveMid x f.clauses f.clauses.length).length = (leaveAll x f.clauses).length := rfl
          rw [e0] at c1
          obtain ⟨rows, hrows⟩ : ∃ r, r = leaveAll x f.clauses := ⟨_, rfl⟩
          rw [← hrows] at HO HE hfew c1
          have HGV := Lib.hid (l05Give_any wr (.agg #[.int .i64 f.letters, .slice oa2 rows.length oc2]) ⟨f.letters, rows⟩ ⟨⟨_, rfl, HO.out.rd⟩, kL⟩ (Nat.le_refl _))
          have HEC : Hid (checkedF ⟨f.letters, rows⟩ = if validForm ⟨f.letters, rows⟩ then (⟨f.letters, rows⟩, true) else (⟨0, []⟩, false)) := rfl
          clear hrows hfew e0
          go_wp2_with fail
          refine HGV.out.mono ?_
          rintro e w7 ⟨r7, rfl, ht7, hf7, hb7⟩
          have hs7 := hb7.size
          have hr7 := HR2.out.below (HBr.out.trans (hb7.mono hsr)) HR2.out.lt
          have r0 := hr7.c0
          have r1 := hr7.c1
          have g0 := hr7.f0
          have g1 := hr7.f1
          have HBF : Hid (Below w.heap.size w w7) := HBW2.out.trans ((HBr.out.trans (hb7.mono hsr)).mono (by omega))
          have HOF := Lib.hid (HO.out.below hb7 (Nat.le_refl _))
          have hsr2 : w.heap.size + 1 < w2.heap.size := HR2.out.lt
          clear hb7 hr7 HGV c0 c1 q0 q1
          cases hvo : validForm ⟨f.letters, rows⟩
          · obtain rfl := hf7 hvo
            have HE2 : Hid (leaveF f x = (⟨0, []⟩, false)) := by rw [Hid, HE.out, HEC.out, hvo]; rfl
            clear ht7 hf7
            go_wp2_with fail
            refine bodyPost_ret (v := .tuple #[.agg #[.int .i64 0, .slice none 0 0], .bool false]) (by simp [results, Try.results52, go_sem, r0, r1]) rfl ⟨_, by rw [HE2.out], by rw [HE2.out]; exact noForm _ _ (Nat.le_refl _) _, ?_⟩
            exact (HBF.out.setCell (by simp) _).setCell (by simp) _
          · obtain rfl := ht7 hvo
            have HE2 : Hid (leaveF f x = (⟨f.letters, rows⟩, true)) := by rw [Hid, HE.out, HEC.out, hvo]; rfl
            clear ht7 hf7
            go_wp2_with fail
            have hS := ((Same.refl w.heap.size (w.heap.size + 2) w7).setCell (p := ⟨w.heap.size + 1, 0, none⟩) (by simp) (by simp) (.int .i64 f.letters)).setCell (p := ⟨w.heap.size + 1, 1, none⟩) (by simp) (by simp) (.slice oa2 rows.length oc2)
            refine bodyPost_ret (v := .tuple #[.agg #[.int .i64 f.letters, .slice oa2 rows.length oc2], .bool true]) (by simp [results, Try.results52, go_sem, r0, r1]) rfl ⟨_, by rw [HE2.out], ?_, HBF.out.trans (hS.below (Nat.le_refl _) HBF.out.size)⟩
            rw [HE2.out]
            exact ⟨⟨_, rfl, (HOF.out.same hS (.inr (by omega))).mono (by omega) (Nat.le_trans hs7 hS.size) (Nat.le_refl _)⟩, kL⟩
end Go.Proofs.Ytdeelgnfnhdklaa
