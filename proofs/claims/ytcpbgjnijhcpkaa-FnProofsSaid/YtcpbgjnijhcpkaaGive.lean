/-
  GiveForm: contracts in the reference and in the program.
-/
import Derived.Test.YtcpbgjnijhcpkaaStep
import Derived.Test.YtcpbgjnijhcpkaaTwo
import Derived.Test.YtcpbgjnijhcpkaaPure
import Derived.Test.YtcpbgjnijhcpkaaThin
namespace Go.Proofs.Ytcpbgjnijhcpkaa
open Go.RowKit
set_option linter.unusedVariables false
set_option maxRecDepth 100000

def givGo (L : Int) : List Int → List Int → Bool
  | _, [] => true
  | pre, x :: r => isLit L x && (!hasI pre x && !hasI pre (-x)) && givGo L (pre ++ [x]) r
theorem absI_eq (x y : Int) : absI x = absI y ↔ x = y ∨ x = -y := by unfold absI; split <;> split <;> omega
theorem givGo_lits (L : Int) (zs pre seen : List Int) (h : ∀ y, y ∈ seen ↔ ∃ x ∈ pre, absI x = y) : givGo L pre zs = litsGo L seen zs := by
  induction zs generalizing pre seen with
  | nil => rfl
  | cons a r ih =>
    rw [givGo, litsGo, ih (pre ++ [a]) (absI a :: seen) (by
      intro y
      simp only [List.mem_cons, h, List.mem_append, List.not_mem_nil, or_false]
      constructor
      · rintro (rfl | ⟨x, hx, rfl⟩)
        · exact ⟨a, .inr rfl, rfl⟩
        · exact ⟨x, .inl hx, rfl⟩
      · rintro ⟨x, hx | rfl, rfl⟩
        · exact .inr ⟨x, hx, rfl⟩
        · exact .inl rfl)]
    congr 2
    rw [Bool.eq_iff_iff]
    simp only [Bool.and_eq_true, Bool.not_eq_true', hasI_false, List.contains_eq_mem, decide_eq_false_iff_not, h]
    constructor
    · rintro ⟨h1, h2⟩ ⟨x, hx, e⟩
      rcases (absI_eq x a).1 e with rfl | rfl
      · exact h1 hx
      · exact h2 hx
    · intro hn
      refine ⟨fun hx => hn ⟨a, hx, rfl⟩, fun hx => hn ⟨-a, hx, (absI_eq _ _).2 (.inr rfl)⟩⟩
theorem givGo_all (L : Int) (zs : List Int) : givGo L [] zs = litsGo L [] zs := givGo_lits L zs [] [] (by simp)
set_option maxHeartbeats 800000 in
set_option maxRecDepth 100000 in
theorem areGiven_any {l h : Nat} (L : Int) (v : Value) (zs : List Int) (w : World) (bL : 1 ≤ L ∧ L ≤ 10) (hv : Ints w l h v zs) (hz : zs.length ≤ 1048576) :
    Calls Try.prog 63 #[.int .i64 L, v] w fun e w' => e = .returned (.bool (litsGo L [] zs)) ∧ w = w' := by
  obtain ⟨a, cap, rfl, hc1, hc2, hd⟩ := hv.out
  have HV := Lib.hid hv
  have HG := Lib.hid (givGo_all L zs)
  clear hv
  go_enter Try.func63, Try.ntmps63
  go_wp2_with fail
  go_loop [9] (fun i => ∃ k : Nat, k ≤ zs.length ∧ i = .int .i64 k ∧ Hid (givGo L (zs.take k) (zs.drop k) = givGo L [] zs)) (fun i => zs.length - (intOf i).toNat)
  case atStart => exact ⟨0, Nat.zero_le _, rfl, Lib.hid rfl⟩
  case round =>
    obtain ⟨k, hk, rfl, H⟩ := hrel
    by_cases hlt : k < zs.length
    · have HD := Lib.hid (drop_cons zs k hlt)
      have HT := Lib.hid (show zs.take (k + 1) = zs.take k ++ [zs[k]] from List.take_succ_eq_append_getElem hlt)
      rcases hd with rfl | ⟨b, off, rfl, hb1, hb2, hb3, hcell⟩
      · simp at hlt
      have hck := hcell k hlt
      have HTK := Lib.hid (HV.out.take (k := k) (by omega))
      clear hcell
      cases hin : isLit L zs[k]
      · go_wp2_with (go_at_call 72; refine (isLiteral_any _ _ bL _).mono ?_; rintro e w' ⟨rfl, rfl⟩)
        go_ret
        exact ⟨ret_bool (by rw [← HG.out, ← H.out, HD.out, givGo, hin]; simp), rfl⟩
      · have hx := isLit_iff.1 hin
        have hx1 := hx.2.1
        have hx2 := hx.2.2
        have hx3 : -10 ≤ zs[k] := by omega
        have hx4 : zs[k] ≤ 10 := by omega
        clear hx
        cases h1 : hasI (zs.take k) zs[k] <;> cases h2 : hasI (zs.take k) (-zs[k])
        case false.false =>
          go_wp2_with (first | (go_at_call 72; refine (isLiteral_any _ _ bL _).mono ?_; rintro e w' ⟨rfl, rfl⟩) | (go_at_call 66; refine (has_any _ _ _ _ HTK.out).mono ?_; rintro e w' ⟨rfl, rfl⟩))
          go_round
          case rel => exact ⟨k + 1, by omega, by go_num, Lib.hid (by rw [← H.out, HD.out, givGo, hin, h1, h2, HT.out]; simp)⟩
          case measure => simp [intOf]; omega
        all_goals
          go_wp2_with (first | (go_at_call 72; refine (isLiteral_any _ _ bL _).mono ?_; rintro e w' ⟨rfl, rfl⟩) | (go_at_call 66; refine (has_any _ _ _ _ HTK.out).mono ?_; rintro e w' ⟨rfl, rfl⟩))
          go_ret
          exact ⟨ret_bool (by rw [← HG.out, ← H.out, HD.out, givGo, hin, h1, h2]; simp), rfl⟩
    · go_wp2
      go_ret
      exact ⟨ret_bool (by rw [← HG.out, ← H.out, drop_len _ _ (by omega), givGo]), rfl⟩
def giveRest (g c : List Int) : List Int := c.filter fun x => !hasI g (-x)
def giveDone (g c : List Int) : Bool := c.any (hasI g)
theorem giveRest_snoc (g c : List Int) (x : Int) : giveRest g (c ++ [x]) = giveRest g c ++ (if hasI g (-x) then [] else [x]) := by
  unfold giveRest; rw [List.filter_append]; cases h : hasI g (-x) <;> simp [h]
theorem giveDone_snoc (g c : List Int) (x : Int) : giveDone g (c ++ [x]) = (giveDone g c || hasI g x) := by simp [giveDone]
def giveTo (g : List Int) (cs : List (List Int)) (n : Nat) : List (List Int) := ((cs.take n).filter fun c => !giveDone g c).map (giveRest g)
theorem giveTo_no {g : List Int} {cs : List (List Int)} {n : Nat} (hn : n < cs.length) (h : giveDone g cs[n] = true) : giveTo g cs (n + 1) = giveTo g cs n := by
  unfold giveTo; rw [List.take_succ_eq_append_getElem hn, List.filter_append]; simp [h]
theorem giveTo_yes {g : List Int} {cs : List (List Int)} {n : Nat} (hn : n < cs.length) (h : giveDone g cs[n] = false) : giveTo g cs (n + 1) = giveTo g cs n ++ [giveRest g cs[n]] := by
  unfold giveTo; rw [List.take_succ_eq_append_getElem hn, List.filter_append]; simp [h]
theorem giveTo_len (g : List Int) (cs : List (List Int)) (n : Nat) : (giveTo g cs n).length ≤ n := by
  have h1 := List.length_filter_le (fun c => !giveDone g c) (cs.take n)
  have h2 := List.length_take_le n cs
  unfold giveTo; rw [List.length_map]; omega
theorem giveRest_len (g c : List Int) : (giveRest g c).length ≤ c.length := List.length_filter_le _ _
theorem giveTo_sum (g : List Int) (cs : List (List Int)) (n : Nat) (hn : n ≤ cs.length) : ((giveTo g cs n).map List.length).sum ≤ offs cs n := by
  induction n with
  | zero => simp [giveTo]
  | succ n ih =>
    have h1 := ih (by omega)
    have h2 := offs_succ cs n (by omega)
    have h3 := giveRest_len g (cs[n]'(by omega))
    cases h : giveDone g (cs[n]'(by omega))
    · rw [giveTo_yes (by omega) h, List.map_append, List.sum_append]; simp; omega
    · rw [giveTo_no (by omega) h]; omega
def giveForm (f : FormD) (g : List Int) : FormD × Bool := if validForm f && litsGo f.letters [] g then (⟨f.letters, giveTo g f.clauses f.clauses.length⟩, true) else (⟨0, []⟩, false)
set_option maxHeartbeats 2000000 in
set_option maxRecDepth 100000 in
theorem implGiveForm_any (w : World) {l h l' h' : Nat} (v : Value) (f : FormD) (v' : Value) (g : List Int) (hv : FormR w l h v f) (hh : h ≤ w.heap.size) (hz : SmallII f.clauses) (hv' : Ints w l' h' v' g) (hh' : h' ≤ w.heap.size) (hz' : g.length ≤ 1048576) :
    Calls Try.prog 46 #[v, v'] w fun e w' => ∃ r, e = .returned (.tuple #[r, .bool (giveForm f g).2]) ∧ OwnF w' w.heap.size w'.heap.size r (giveForm f g).1 ∧ Below w.heap.size w w' := by
  obtain ⟨u, rfl, hu⟩ := hv.ex
  have kL := hv.rng
  obtain ⟨a0, cap0, V0, e0, _⟩ := hu.out
  subst e0
  obtain ⟨ga, gcap, ge, gc1, gc2, _⟩ := hv'.out
  subst ge
  obtain ⟨W1, hW1⟩ : ∃ W, W = w.alloc (.cells #[.int .i64 f.letters, .slice a0 f.clauses.length cap0] 26) := ⟨_, rfl⟩
  obtain ⟨W, hW⟩ : ∃ W, W = W1.alloc (.cells #[.int .i64 0, .slice none 0 0] 26) := ⟨_, rfl⟩
  have hs1 : W1.heap.size = w.heap.size + 1 := by rw [hW1]; simp
  have hsW : W.heap.size = w.heap.size + 2 := by rw [hW]; simp [hs1]
  have hB1 : Below w.heap.size w W1 := by rw [hW1]; exact alloc_below _ _
  have hBW : Below w.heap.size w W := by rw [hW]; exact hB1.alloc (by omega) _
  have hbx : TwoC W w.heap.size 26 (.int .i64 f.letters) (.slice a0 f.clauses.length cap0) := by rw [hW]; refine TwoC.alloc ?_ _; rw [hW1]; exact TwoC.new _ _ _ _
  have hbr : TwoC W (w.heap.size + 1) 26 (.int .i64 0) (.slice none 0 0) := by rw [hW, ← hs1]; exact TwoC.new _ _ _ _
  have HU := Lib.hid (hu.below hBW hh)
  have HF := Lib.hid (hv.below hBW hh)
  have HG := Lib.hid (hv'.below hBW hh')
  have HB := Lib.hid hbx
  have HR := Lib.hid hbr
  have hcl : f.clauses.length ≤ 1048576 := hz.1
  have HZ := Lib.hid hz
  clear hu hv hv' hbr hB1
  go_enter Try.func46, Try.ntmps46
  go_wp2_with fail
  rw [← hW1, ← hW]
  have q0 := hbx.c0
  have q1 := hbx.c1
  clear hW hW1 hbx
  go_wp2_with fail
  refine (implValidForm_any W _ _ HF.out (by omega) HZ.out).mono ?_
  rintro e w2 ⟨rfl, hb2⟩
  clear q0 q1
  have hs2 := hb2.size
  have hbr2 := HR.out.below hb2 HR.out.lt
  have r0 := hbr2.c0
  have r1 := hbr2.c1
  have g0 := hbr2.f0
  have g1 := hbr2.f1
  have hbx2 := HB.out.below hb2 HB.out.lt
  have q0 := hbx2.c0
  have q1 := hbx2.c1
  have HR2 := Lib.hid hbr2
  have HB2 := Lib.hid hbx2
  clear hbr2 hbx2
  cases hval : validForm f
  · have HE := Lib.hid (show giveForm f g = (⟨0, []⟩, false) by simp [giveForm, hval])
    go_wp2_with fail
    refine bodyPost_ret (v := .tuple #[.agg #[.int .i64 0, .slice none 0 0], .bool false]) (by simp [results, Try.results46, go_sem, r0, r1]) rfl ⟨_, by rw [HE.out], by rw [HE.out]; exact noForm _ _ (Nat.le_refl _) _, ?_⟩
    exact ((hBW.trans (hb2.mono hBW.size)).setCell (by simp) _).setCell (by simp) _
  have bL := (validForm_bounds hval).1
  have HG2 := Lib.hid (HG.out.below hb2 (by omega))
  go_wp2_with fail
  refine (areGiven_any f.letters _ g w2 bL HG2.out hz').mono ?_
  rintro e w3 ⟨rfl, e3⟩
  have hb3 : Below w2.heap.size w2 w3 := by rw [← e3]; exact Below.refl _ _
  clear e3
  have hs3 := hb3.size
  clear q0 q1 r0 r1 g0 g1
  have hbr3 := HR2.out.below hb3 HR2.out.lt
  have r0 := hbr3.c0
  have r1 := hbr3.c1
  have g0 := hbr3.f0
  have g1 := hbr3.f1
  have hbx3 := HB2.out.below hb3 HB2.out.lt
  have q0 := hbx3.c0
  have q1 := hbx3.c1
  have HR3 := Lib.hid hbr3
  have HB3 := Lib.hid hbx3
  have hBw3 : Below w.heap.size w w3 := (hBW.trans (hb2.mono hBW.size)).trans (hb3.mono (by omega))
  clear hbr3 hbx3
  cases hgv : litsGo f.letters [] g
  · have HE := Lib.hid (show giveForm f g = (⟨0, []⟩, false) by simp [giveForm, hgv])
    go_wp2_with fail
    refine bodyPost_ret (v := .tuple #[.agg #[.int .i64 0, .slice none 0 0], .bool false]) (by simp [results, Try.results46, go_sem, r0, r1]) rfl ⟨_, by rw [HE.out], by rw [HE.out]; exact noForm _ _ (Nat.le_refl _) _, ?_⟩
    exact (hBw3.setCell (by simp) _).setCell (by simp) _
  · have HE := Lib.hid (show giveForm f g = (⟨f.letters, giveTo g f.clauses f.clauses.length⟩, true) by simp [giveForm, hval, hgv])
    obtain ⟨W3, hW3⟩ : ∃ W, W = w3.alloc (.cells #[.int .i64 f.letters, .slice none 0 0] 26) := ⟨_, rfl⟩
    have hs4 : W3.heap.size = w3.heap.size + 1 := by rw [hW3]; simp
    have hb4 : Below w3.heap.size w3 W3 := by rw [hW3]; exact alloc_below _ _
    have hp3 : TwoC W3 w3.heap.size 26 (.int .i64 f.letters) (.slice none 0 0) := by rw [hW3]; exact TwoC.new _ _ _ _
    have HU3 := Lib.hid ((HU.out.below hb2 (by omega)).below hb3 (by omega))
    have HG3 := Lib.hid (HG2.out.below hb3 (by omega))
    have HLT := Lib.hid (fun c (hc : c ∈ f.clauses) => lits_of_clause (L := f.letters) (n := f.letters.toNat) (by omega) ((validForm_bounds hval).2.2 c hc))
    have q1a := (HB3.out.alloc (.cells #[.int .i64 f.letters, .slice none 0 0] 26)).c1
    clear hval hgv HF
    go_wp2_with fail
    rw [← hW3]
    clear q0 q1 q1a r0 r1 g0 g1 hW3
    go_loopw [30] (fun i wr => ∃ (k : Nat) (ov : Value), k ≤ f.clauses.length ∧ i = .int .i64 k ∧ TwoC wr w3.heap.size 26 (.int .i64 f.letters) ov ∧ OwnII wr (w3.heap.size + 1) wr.heap.size ov (giveTo g f.clauses k) ∧ Below w3.heap.size w3 wr) (fun i _ => f.clauses.length - (intOf i).toNat)
    case atStart => exact ⟨0, _, Nat.zero_le _, rfl, hp3, OwnII.nil _ _ _ (Nat.le_refl _), hb4⟩
    case round =>
      clear hp3 hb4 hs4
      obtain ⟨k, ov, hk, rfl, hp, ho, hb⟩ := hrel
      have hsr := hb.size
      have HP := Lib.hid hp
      have HO := Lib.hid ho
      have hbx := HB3.out.below hb HB3.out.lt
      have q0 := hbx.c0
      have q1 := hbx.c1
      have HBX := Lib.hid hbx
      have hx := HU3.out.below hb (by omega)
      obtain ⟨a1, cap1, V, e1, hc1, hc2, hV, hd⟩ := hx.out
      simp only [Value.slice.injEq] at e1
      obtain ⟨rfl, _, rfl⟩ := e1
      have HV := Lib.hid hV
      clear hV hp ho hx hbx
      by_cases hlt : k < f.clauses.length
      · rcases hd with hd | ⟨b, off, rfl, hb1, hbb2, hbb3, hcell⟩
        · rw [hd] at hlt; simp at hlt
        have hck := hcell k hlt
        obtain ⟨ka, kc, hke, kc1, kc2, kd⟩ := (HV.out k hlt).out
        rw [hke] at hck
        have HCK := Lib.hid hck
        have HXK := Lib.hid (HV.out k hlt)
        have HKL := Lib.hid (HLT.out f.clauses[k] (List.getElem_mem hlt))
        have hzk := HZ.out.row hlt
        generalize hc : f.clauses[k] = c at *
        have HC := Lib.hid hc
        clear hcell hke hc
        obtain ⟨wu, hwu⟩ : ∃ wu : World, wu = wr := ⟨_, rfl⟩
        rw [← hwu] at hb hsr HP HO HBX q0 q1 HV hck HXK HCK kd
        rw [← hwu]
        clear hwu
        go_wp2_with fail
        clear q0 q1 hck
        go_loopw [9, 10, 36] (fun t cv j wr => ∃ m : Nat, m ≤ c.length ∧ j = .int .i64 m ∧ t = .bool (giveDone g (c.take m)) ∧ OwnI wr wu.heap.size wr.heap.size cv (giveRest g (c.take m)) ∧ Below wu.heap.size wu wr) (fun _ _ j _ => c.length - (intOf j).toNat)
        case atStart => exact ⟨0, Nat.zero_le _, rfl, rfl, by simpa [giveRest] using OwnI.nil _ _ _ (Nat.le_refl _), Below.refl _ _⟩
        case round =>
          obtain ⟨m, hm, rfl, rfl, hoi, hbi⟩ := hrel
          have hsw := hbi.size
          have HOI := Lib.hid hoi
          clear hoi
          by_cases hml : m < c.length
          · have HT := Lib.hid (show c.take (m + 1) = c.take m ++ [c[m]] from List.take_succ_eq_append_getElem hml)
            have HDS := Lib.hid (giveDone_snoc g (c.take m) c[m])
            have HRS := Lib.hid (giveRest_snoc g (c.take m) c[m])
            have hrl := giveRest_len g (c.take m)
            have htl : (c.take m).length ≤ c.length := List.length_take_le' _ _
            rcases kd with kd | ⟨kb, ko, rfl, kb1, kb2, kb3, kcell⟩
            · rw [kd] at hml; simp at hml
            have hcm := kcell m hml
            rw [← hbi.cell (p := ⟨kb, ko + m, none⟩) (show kb < wu.heap.size by omega)] at hcm
            have hq := HKL.out c[m] (List.getElem_mem _)
            have hq1 : -10 ≤ c[m] := by have := hq.2; unfold absI at this; split at this <;> omega
            have hq2 : c[m] ≤ 10 := by have := hq.2; unfold absI at this; split at this <;> omega
            have HGR := Lib.hid ((HG3.out.below hb (by omega)).below hbi (by omega))
            skip
            clear kcell hq
            cases h1 : giveDone g (c.take m) <;> cases h2 : hasI g c[m] <;> cases h3 : hasI g (-c[m])
            all_goals first
              | (go_wp2_with (go_at_call 66; refine (has_any _ _ _ _ HGR.out).mono ?_; rintro e w' ⟨rfl, rfl⟩)
                 go_roundw
                 case rel => exact ⟨m + 1, by omega, by go_num, by rw [HT.out, HDS.out, h1, h2]; rfl, by rw [HT.out, HRS.out, h3]; simpa using HOI.out, hbi⟩
                 case measure => simp [intOf]; omega)
              | (go_wp2_with (first | (go_at_call 66; refine (has_any _ _ _ _ HGR.out).mono ?_; rintro e w' ⟨rfl, rfl⟩) | (at_builtin; refine wpList_app1 rfl _ _ rfl _ (giveRest g (c.take m)) rfl c[m] _ HOI.out rfl (by constructor <;> omega) (by omega) hsw ?_))
                 intro v2 w5 ho5 hsm5 hz5 _
                 have HO5 := Lib.hid ho5
                 clear ho5
                 go_wp2
                 go_roundw
                 case rel => exact ⟨m + 1, by omega, by go_num, by rw [HT.out, HDS.out, h1, h2]; rfl, by rw [HT.out, HRS.out, h3]; exact HO5.out, hbi.trans (hsm5.below (Nat.le_refl _) hsw)⟩
                 case measure => simp [intOf]; omega)
          · obtain rfl : m = c.length := by omega
            rw [List.take_length] at HOI
            rw [List.take_length]
            have hoi := HOI.out
            have hp := HP.out.below hbi HP.out.lt
            have ho := HO.out.below hbi (Nat.le_refl _)
            have hzu := HP.out.lt
            have HPR := Lib.hid hp
            have HOR := Lib.hid ho
            cases ht : giveDone g c
            · obtain ⟨oa, oc, rfl⟩ := ho.shape
              obtain ⟨qa, qc, rfl⟩ := hoi.shape
              have c1 := hp.c1
              have hal := hp.alloc (.cells #[.slice qa (giveRest g c).length qc] 34)
              have c1' := hal.c1
              have hln := giveTo_len g f.clauses k
              have hsum : ((giveTo g f.clauses k ++ [giveRest g c]).map List.length).sum ≤ 1099511627776 := by
                have h1 := giveTo_sum g f.clauses k (by omega)
                have h2 := offs_le f.clauses k
                have h3 := HZ.out.2
                have h4 := giveRest_len g c
                simp; omega
              clear ho hoi hp hal
              go_wp2_with (at_builtin; refine wpList_appII rfl _ _ rfl _ (giveTo g f.clauses k) rfl _ (giveRest g c) _ HOR.out HOI.out (Nat.le_refl _) (show w3.heap.size + 1 ≤ wu.heap.size by omega) rfl (by omega) hsum (by omega) ?_)
              intro v4 w4 ho4 hsm4 hz4
              obtain ⟨ya, yc, rfl⟩ := ho4.shape1
              have hp4 := HPR.out.same hsm4 (.inl (Nat.lt_succ_self _))
              have c4 := hp4.c1
              have f4 := hp4.f1
              have kb4 : Below w3.heap.size wu w4 := (hbi.mono (by omega)).trans (hsm4.below (by omega) (by omega))
              have HP4 := Lib.hid hp4
              have HO4 := Lib.hid ho4
              have HF4 := Lib.hid (giveTo_yes (g := g) hlt (by rw [HC.out]; exact ht))
              clear hp4 ho4
              go_wp2
              go_roundw
              case rel =>
                refine ⟨k + 1, _, by omega, by go_num, HP4.out.set1 _, ?_, hb.trans (kb4.setCell (Nat.le_refl _) _)⟩
                rw [HF4.out, HC.out]
                exact (HO4.out.same (set1_same _ _ _ _) (.inr (Nat.le_refl _))).mono (Nat.le_refl _) (set1_same _ _ _ _).size (Nat.le_refl _)
              case measure => simp [intOf]; omega
            · clear ho hoi hp
              go_wp2
              go_roundw
              case rel => exact ⟨k + 1, _, by omega, by go_num, HPR.out, by rw [giveTo_no hlt (by rw [HC.out]; exact ht)]; exact HOR.out.mono (Nat.le_refl _) hsw (Nat.le_refl _), hb.trans (hbi.mono (by omega))⟩
              case measure => simp [intOf]; omega
      · obtain rfl : k = f.clauses.length := by omega
        obtain ⟨oa, oc, rfl⟩ := HO.out.shape
        have hp := HP.out
        have c0 := hp.c0
        have c1 := hp.c1
        have hr := HR3.out.below hb (by omega)
        have r0 := hr.c0
        have r1 := hr.c1
        have g0 := hr.f0
        have g1 := hr.f1
        have hsr2 : w.heap.size + 1 < wr.heap.size := by omega
        go_wp2_with fail
        have hS := ((Same.refl w.heap.size (w.heap.size + 2) wr).setCell (p := ⟨w.heap.size + 1, 0, none⟩) (by simp) (by simp) (.int .i64 f.letters)).setCell (p := ⟨w.heap.size + 1, 1, none⟩) (by simp) (by simp) (.slice oa (giveTo g f.clauses f.clauses.length).length oc)
        refine bodyPost_ret (v := .tuple #[.agg #[.int .i64 f.letters, .slice oa (giveTo g f.clauses f.clauses.length).length oc], .bool true]) (by simp [results, Try.results46, go_sem, r0, r1]) rfl ⟨_, by rw [HE.out], ?_, (hBw3.trans (hb.mono (by omega))).trans (hS.below (Nat.le_refl _) (by omega))⟩
        rw [HE.out]
        exact ⟨⟨_, rfl, (HO.out.same hS (.inr (by omega))).mono (by omega) hS.size (Nat.le_refl _)⟩, kL⟩
end Go.Proofs.Ytcpbgjnijhcpkaa
