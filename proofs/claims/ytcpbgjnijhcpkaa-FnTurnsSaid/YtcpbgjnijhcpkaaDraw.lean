/-
  A form that is drawn: spec.B10Form gives some valid form with few letters and few short clauses.
-/
import Derived.Test.YtcpbgjnijhcpkaaSrc
import Derived.Test.YtcpbgjnijhcpkaaAppII
import Derived.Test.YtcpbgjnijhcpkaaTwoC
import Derived.Test.YtcpbgjnijhcpkaaFormA
import Derived.Deep.RegionLaw
namespace Go.Proofs.Ytcpbgjnijhcpkaa
open Go.RowKit
set_option linter.unusedVariables false
set_option maxRecDepth 100000

def RisD (S : List Int) : Prop := S.Pairwise fun x y => absI x < absI y
theorem risesD {L : Int} {c : List Int} : ∀ {p : Int}, (∀ x ∈ c, isLit L x = true) → RisD c → (∀ x ∈ c, p < absI x) → risesFrom L p c = true := by
  induction c with
  | nil => intro p _ _ _; rfl
  | cons x r ih =>
    intro p h1 h2 h3
    rw [risesFrom, h1 x (List.mem_cons_self ..), decide_eq_true (h3 x (List.mem_cons_self ..)), ih (fun y hy => h1 y (List.mem_cons_of_mem _ hy)) (List.pairwise_cons.1 h2).2 (fun y hy => (List.pairwise_cons.1 h2).1 y hy)]
    rfl
theorem clauseD {L : Int} {c : List Int} (hL : inB 1 10 L = true) (h1 : ∀ x ∈ c, isLit L x = true) (h2 : RisD c) : isClause L c = true := by
  rw [isClause, hL, Bool.true_and]
  exact risesD h1 h2 (fun x hx => by have := isLit_iff.1 (h1 x hx); unfold absI; split <;> omega)
/-- a clause of letters below x -/
def Cl (L : Int) (x : Nat) (c : List Int) : Prop := (∀ y ∈ c, isLit L y = true) ∧ RisD c ∧ ∀ y ∈ c, absI y < x
theorem Cl.nil (L : Int) (x : Nat) : Cl L x [] := ⟨by simp, List.Pairwise.nil, by simp⟩
theorem Cl.up {L : Int} {x : Nat} {c : List Int} (h : Cl L x c) : Cl L (x + 1) c := ⟨h.1, h.2.1, fun y hy => by have := h.2.2 y hy; omega⟩
theorem absI_nat (x : Nat) : absI (x : Int) = x ∧ absI (-(x : Int)) = x := by unfold absI; constructor <;> split <;> omega
theorem Cl.snoc {L : Int} {x : Nat} {c : List Int} (h : Cl L x c) (hx1 : 1 ≤ x) (hx2 : (x : Int) ≤ L) {y : Int} (hy : y = (x : Int) ∨ y = -(x : Int)) : Cl L (x + 1) (c ++ [y]) := by
  have ha : absI y = x := by rcases hy with rfl | rfl; exact (absI_nat x).1; exact (absI_nat x).2
  refine ⟨?_, ?_, ?_⟩
  · intro z hz
    rcases List.mem_append.1 hz with hz | hz
    · exact h.1 z hz
    · obtain rfl := List.mem_singleton.1 hz
      exact isLit_iff.2 (by rcases hy with rfl | rfl <;> omega)
  · refine List.pairwise_append.2 ⟨h.2.1, List.pairwise_singleton _ _, fun a ha' b hb => ?_⟩
    obtain rfl := List.mem_singleton.1 hb
    rw [ha]; exact h.2.2 a ha'
  · intro z hz
    rcases List.mem_append.1 hz with hz | hz
    · have := h.2.2 z hz; omega
    · obtain rfl := List.mem_singleton.1 hz
      rw [ha]; omega
/-- a change of new blocks alone is a change of block q and of new blocks -/
theorem Same.mono_old {lo hi q : Nat} {a w w' : World} (h : Same lo hi w w') (hq : q < lo) (hl : a.heap.size ≤ w.heap.size) (hlo : lo = a.heap.size) (ha : Same q (q + 1) a w) : Same q (q + 1) a w' :=
  ⟨h.os.trans ha.os, h.tape.trans ha.tape, h.output.trans ha.output, Nat.le_trans ha.size h.size, fun k hk hn => (h.block k (by omega) (by omega)).trans (ha.block k hk hn)⟩
theorem Same.after {lo hi l r : Nat} {a w w' : World} (ha : Same l r a w) (h : Same lo hi w w') (hlo : a.heap.size ≤ lo) : Same l r a w' :=
  ⟨h.os.trans ha.os, h.tape.trans ha.tape, h.output.trans ha.output, Nat.le_trans ha.size h.size, fun k hk hn => (h.block k (by have := ha.size; omega) (by omega)).trans (ha.block k hk hn)⟩
set_option maxHeartbeats 2000000 in
set_option maxRecDepth 100000 in
theorem l05DrawClause_any {q n : Nat} (L M : Nat) (w : World) (hq : SrcC w q n) (hn : n ≤ 1000000) (hL1 : 1 ≤ L) (hL2 : L ≤ 10) (hM : M ≤ 10) :
    Calls Try.prog 107 #[.pointer (some ⟨q, 0, none⟩), .int .i64 L, .int .i64 M] w fun e w' => ∃ u c, e = .returned u ∧ OwnI w' w.heap.size w'.heap.size u c ∧ isClause L c = true ∧ c.length ≤ M ∧ SrcC w' q (n + 2 * L) ∧ Same q (q + 1) w w' := by
  have hqw := hq.lt
  have h0 := emptySlice w
  have HQ0 := Lib.hid (hq.alloc (.cells #[] 2))
  have HS0 := Lib.hid ((Same.refl q (q + 1) w).alloc (.cells #[] 2))
  have HO0 : Hid (OwnI (w.alloc (.cells #[] 2)) w.heap.size (w.alloc (.cells #[] 2)).heap.size (.slice (some ⟨w.heap.size, 0, none⟩) 0 0) []) := h0.mono (Nat.le_refl _) (by simp) (Nat.le_refl _)
  clear h0 hq
  go_enter Try.func107, Try.ntmps107
  go_wp2_with fail
  go_loopw [7, 8, 9] (fun ov mv xv wr => ∃ (x m : Nat) (c : List Int), 1 ≤ x ∧ x ≤ L + 1 ∧ xv = .int .i64 x ∧ mv = .int .i64 m ∧ Hid (Cl L x c) ∧ c.length + m ≤ M ∧ OwnI wr w.heap.size wr.heap.size ov c ∧ SrcC wr q (n + 2 * (x - 1)) ∧ Same q (q + 1) w wr) (fun _ _ xv _ => L + 1 - (intOf xv).toNat)
  case atStart => exact ⟨1, M, [], Nat.le_refl _, by omega, rfl, rfl, Lib.hid (Cl.nil _ _), by simp, HO0.out, HQ0.out, HS0.out⟩
  case round =>
    obtain ⟨x, m, c, hx1, hx2, rfl, rfl, HC, hcm, ho, hsrc, hsm⟩ := hrel
    have hsz := hsm.size
    have HO := Lib.hid ho
    have HSR := Lib.hid hsrc
    have HSM := Lib.hid hsm
    obtain ⟨oa, oc, rfl⟩ := ho.shape
    have hon : n + 2 * (x - 1) ≤ 1099511627000 := by omega
    clear ho hsrc hsm
    by_cases hxL : x ≤ L
    · by_cases hm : 0 < m
      · go_wp2_with fail
        refine (srcOne_any 2 wr HSR.out hon (by decide) (by decide)).mono ?_
        rintro e w2 ⟨b1, rfl, hs2, hm2⟩
        have HM2 := Lib.hid hm2
        cases b1
        · go_wp2
          go_roundw
          case rel => exact ⟨x + 1, m, c, by omega, by omega, by go_num, rfl, Lib.hid HC.out.up, hcm, (HO.out.same hm2 (.inr (by omega))).mono (Nat.le_refl _) hm2.size (Nat.le_refl _), hs2.mono (by omega), HSM.out.trans hm2⟩
          case measure => simp [intOf]; omega
        · go_wp2_with fail
          refine (srcOne_any 2 w2 hs2 (by omega) (by decide) (by decide)).mono ?_
          rintro e w3 ⟨b2, rfl, hs3, hm3⟩
          cases b2
          · clear HM2
            have hz2 := hm2.size
            have hz3 := hm3.size
            have hO3 := Lib.hid (((HO.out.same hm2 (.inr (by omega))).same hm3 (.inr (by omega))).mono (Nat.le_refl _) (show wr.heap.size ≤ w3.heap.size by omega) (Nat.le_refl _))
            have HSM3 := Lib.hid ((HSM.out.trans hm2).trans hm3)
            have HS3 := Lib.hid hs3
            have HCY := Lib.hid (HC.out.snoc hx1 (show (x : Int) ≤ L by omega) (.inl rfl))
            have hz4 : w.heap.size ≤ w3.heap.size := by omega
            have hcl : c.length ≤ 10 := by omega
            clear hm2 hs2 hm3 hs3
            go_wp2_with (at_builtin; refine wpList_app1 rfl _ _ rfl _ c rfl ((x : Int)) _ hO3.out rfl (by constructor <;> omega) (by omega) hz4 ?_)
            intro v4 w4 ho4 hsm4 hz5 _
            go_wp2
            go_roundw
            case rel => exact ⟨x + 1, m - 1, c ++ [(x : Int)], by omega, by omega, by go_num, by go_num, HCY, by simp; omega, ho4, (HS3.out.same hsm4 hqw).mono (by omega), hsm4.mono_old hqw hz4 rfl HSM3.out⟩
            case measure => simp [intOf]; omega
          · clear HM2
            have hz2 := hm2.size
            have hz3 := hm3.size
            have hO3 := Lib.hid (((HO.out.same hm2 (.inr (by omega))).same hm3 (.inr (by omega))).mono (Nat.le_refl _) (show wr.heap.size ≤ w3.heap.size by omega) (Nat.le_refl _))
            have HSM3 := Lib.hid ((HSM.out.trans hm2).trans hm3)
            have HS3 := Lib.hid hs3
            have HCY := Lib.hid (HC.out.snoc hx1 (show (x : Int) ≤ L by omega) (.inr rfl))
            have hz4 : w.heap.size ≤ w3.heap.size := by omega
            have hcl : c.length ≤ 10 := by omega
            clear hm2 hs2 hm3 hs3
            go_wp2_with (at_builtin; refine wpList_app1 rfl _ _ rfl _ c rfl (-(x : Int)) _ hO3.out rfl (by constructor <;> omega) (by omega) hz4 ?_)
            intro v4 w4 ho4 hsm4 hz5 _
            go_wp2
            go_roundw
            case rel => exact ⟨x + 1, m - 1, c ++ [-(x : Int)], by omega, by omega, by go_num, by go_num, HCY, by simp; omega, ho4, (HS3.out.same hsm4 hqw).mono (by omega), hsm4.mono_old hqw hz4 rfl HSM3.out⟩
            case measure => simp [intOf]; omega
      · go_wp2
        go_roundw
        case rel => exact ⟨x + 1, m, c, by omega, by omega, by go_num, rfl, Lib.hid HC.out.up, hcm, HO.out, HSR.out.mono (by omega), HSM.out⟩
        case measure => simp [intOf]; omega
    · obtain rfl : x = L + 1 := by omega
      go_wp2
      go_ret
      exact ⟨_, c, rfl, HO.out, clauseD (by rw [inB, decide_eq_true (by omega), decide_eq_true (by omega)]; rfl) HC.out.1 HC.out.2.1, by omega, HSR.out.mono (by omega), HSM.out⟩
/-- what a drawn form is -/
def DrawnF (f : FormD) : Prop := validForm f = true ∧ 1 ≤ f.letters ∧ f.letters ≤ 5 ∧ f.clauses.length ≤ 9 ∧ ∀ c ∈ f.clauses, c.length ≤ 3
set_option maxHeartbeats 2000000 in
set_option maxRecDepth 100000 in
theorem l05DrawOk_any {q n : Nat} (w : World) (hq : SrcC w q n) (hn : n ≤ 1000) :
    Calls Try.prog 50 #[.pointer (some ⟨q, 0, none⟩)] w fun e w' => ∃ u f, e = .returned u ∧ OwnF w' w.heap.size w'.heap.size u f ∧ DrawnF f ∧ Same q (q + 1) w w' := by
  have hqw := hq.lt
  obtain ⟨W1, hW1⟩ : ∃ X, X = w.alloc (.cells #[.int .i64 0, .slice none 0 0] 26) := ⟨_, rfl⟩
  have hr1 : TwoC W1 w.heap.size 26 (.int .i64 0) (.slice none 0 0) := by rw [hW1]; exact TwoC.new _ _ _ _
  have hs1 : Same q (q + 1) w W1 := by rw [hW1]; exact (Same.refl q (q + 1) w).alloc _
  have hq1 : SrcC W1 q n := by rw [hW1]; exact hq.alloc _
  have hz1 : w.heap.size + 1 ≤ W1.heap.size := by rw [hW1]; simp
  clear hq
  go_enter Try.func50, Try.ntmps50
  go_wp2_with fail
  rw [← hW1]
  clear hW1
  refine (srcPick_any 5 W1 hq1 (by omega) (by decide) (by decide)).mono ?_
  rintro e w2 ⟨x, rfl, hx, hq2, hm2⟩
  obtain ⟨L, hL⟩ : ∃ L : Nat, 1 + x = (L : Int) := ⟨(1 + x).toNat, by omega⟩
  have hL1 : 1 ≤ L := by omega
  have hL5 : L ≤ 5 := by omega
  have hr2 := hr1.same hm2 (.inr (by omega))
  have hz2 := hm2.size
  have hw1 : IntKind.i64.wrap (L : Int) = (L : Int) := IntWalk.i64_in _ (by omega)
  obtain ⟨W3, hW3⟩ : ∃ X, X = w2.alloc (.cells #[.int .i64 L, .slice none 0 0] 26) := ⟨_, rfl⟩
  have hp3 : TwoC W3 w2.heap.size 26 (.int .i64 L) (.slice none 0 0) := by rw [hW3]; exact TwoC.new _ _ _ _
  have hs3 : Same q (q + 1) w W3 := by rw [hW3]; exact (hs1.trans hm2).alloc _
  have hq3 : SrcC W3 q (n + 1) := by rw [hW3]; exact hq2.alloc _
  have hr3 : TwoC W3 w.heap.size 26 (.int .i64 0) (.slice none 0 0) := by rw [hW3]; exact hr2.alloc _
  have hz3 : w2.heap.size + 1 ≤ W3.heap.size := by rw [hW3]; simp
  obtain ⟨fb, hfb⟩ : ∃ b, b = w2.heap.size := ⟨_, rfl⟩
  go_wp2_with fail
  rw [← hW3, ← hfb]
  rw [← hfb] at hp3 hz3
  have hfq : w.heap.size + 1 ≤ fb := by omega
  clear hW3 hL hfb hw1 hr1 hq1 hs1 hq2 hm2 hr2 hz2 hx hz1
  refine (srcPick_any 3 W3 hq3 (by omega) (by decide) (by decide)).mono ?_
  rintro e w4 ⟨x, rfl, hx, hq4, hm4⟩
  obtain ⟨M, hM⟩ : ∃ M : Nat, 1 + x = (M : Int) := ⟨(1 + x).toNat, by omega⟩
  have hM3 : M ≤ 3 := by omega
  have hw1 : IntKind.i64.wrap (M : Int) = (M : Int) := IntWalk.i64_in _ (by omega)
  have hp4 := hp3.same hm4 (.inr (by omega))
  have hr4 := hr3.same hm4 (.inr (by omega))
  have hs4 := hs3.trans hm4
  have hz4 := hm4.size
  go_wp2_with fail
  clear hM hw1 hx hq3 hm4 hp3 hr3 hs3
  refine (srcPick_any 10 w4 hq4 (by omega) (by decide) (by decide)).mono ?_
  rintro e w5 ⟨x5, rfl, hx5, hq5, hm5⟩
  obtain ⟨N, rfl⟩ : ∃ N : Nat, x5 = (N : Int) := ⟨x5.toNat, by omega⟩
  have hN9 : N ≤ 9 := by omega
  have HP5 := Lib.hid (hp4.same hm5 (.inr (by omega)))
  have HR5 := Lib.hid (hr4.same hm5 (.inr (by omega)))
  have HS5 := Lib.hid (hs4.trans hm5)
  have HQ5 := Lib.hid hq5
  have hz5 := hm5.size
  clear hx5 hq4 hm5 hp4 hr4 hs4 hq5
  have hfw5 := HP5.out.lt
  go_wp2_with fail
  go_loopw [5] (fun mv wr => ∃ (m : Nat) (cs : List (List Int)) (ov : Value), mv = .int .i64 m ∧ cs.length + m ≤ 9 ∧ (cs.map List.length).sum ≤ 3 * cs.length ∧ Hid (∀ c ∈ cs, isClause L c = true ∧ c.length ≤ 3) ∧ OwnII wr (fb + 1) wr.heap.size ov cs ∧ TwoC wr fb 26 (.int .i64 L) ov ∧ TwoC wr w.heap.size 26 (.int .i64 0) (.slice none 0 0) ∧ SrcC wr q (n + 3 + 10 * cs.length) ∧ Same q (q + 1) w wr ∧ fb < wr.heap.size) (fun mv _ => (intOf mv).toNat)
  case atStart => exact ⟨N, [], _, rfl, by simp; omega, by simp, Lib.hid (by simp), OwnII.nil _ _ _ (Nat.le_refl _), HP5.out, HR5.out, HQ5.out.mono (by simp), HS5.out, hfw5⟩
  case round =>
    obtain ⟨m, cs, ov, rfl, hcm, hsm, HC, ho, hp, hr, hq, hS, hfr⟩ := hrel
    obtain ⟨oa, oc, rfl⟩ := ho.shape
    have HO := Lib.hid ho
    have HP := Lib.hid hp
    have HR := Lib.hid hr
    have HQ := Lib.hid hq
    have HS := Lib.hid hS
    have hsr := hS.size
    by_cases hm : 0 < m
    · have c1 := hp.c1
      have c0 := hp.c0
      have hDw : Drew wr wr.drew := ⟨1, rfl⟩
      have HDC := Lib.hid (l05DrawClause_any L M wr.drew (hq.drew hDw) (by omega) hL1 (by omega) (by omega))
      clear ho hp hr hq hS
      go_wp2_with fail
      go_region_law (first | (go_simp; go_at_call 107; refine HDC.out.mono ?_; rintro e w3 ⟨u3, c, rfl, ho3, hcl, hcM, hq3, hm3⟩; obtain ⟨qa, qc, rfl⟩ := ho3.shape; have hz3 : wr.heap.size ≤ w3.heap.size := hm3.size; have hp3 := (HP.out.drew hDw).same hm3 (.inr (by omega)); have ho3' := (HO.out.below (hDw.below wr.heap.size) (Nat.le_refl _)).same hm3 (.inr (by omega)); have c66b := hp3.c1; have c66c := (hp3.alloc (.cells #[.slice qa c.length qc] 34)).c1) | ((refine step_appII (by rfl) _ _ (by rfl) _ cs (by rfl) _ c _ ho3' ho3 (Nat.le_refl _) (show fb + 1 ≤ wr.heap.size by omega) (by rfl) (by omega) (by simp; omega) (by omega) ?_; intro v4 w6 ho4 hsm4 hz6; obtain ⟨ya, yc, rfl⟩ := ho4.shape1; have hp4 := hp3.same hsm4 (.inl (Nat.lt_succ_self _)); have c4 := hp4.c1; have f4 := hp4.f1)))
      all_goals
        have HS6 := Lib.hid ((((HS.out.trans (Same.of_below (hDw.below wr.heap.size) (Nat.le_refl _))).trans hm3).after hsm4 (by omega)).after (set1_same w6 fb 1 (.slice ya (cs.length + 1) yc)) (by omega))
        have HQ6 := Lib.hid ((hq3.same hsm4 (by omega)).same (set1_same w6 fb 1 (.slice ya (cs.length + 1) yc)) (by omega))
        have HP6 := Lib.hid (hp4.set1 (.slice ya (cs.length + 1) yc))
        have HR6 := Lib.hid (((((HR.out.drew hDw).same hm3 (.inr (by omega))).same hsm4 (.inl (by omega))).same (set1_same w6 fb 1 (.slice ya (cs.length + 1) yc)) (.inl (by omega))))
        have HO6 : Hid (OwnII (w6.setCell ⟨fb, 1, none⟩ (.slice ya (cs.length + 1) yc)) (fb + 1) (w6.setCell ⟨fb, 1, none⟩ (.slice ya (cs.length + 1) yc)).heap.size (.slice ya (cs.length + 1) yc) (cs ++ [c])) := (ho4.same (set1_same _ _ _ _) (.inr (Nat.le_refl _))).mono (Nat.le_refl _) (set1_same _ _ _ _).size (Nat.le_refl _)
        have HC6 : Hid (∀ d ∈ cs ++ [c], isClause L d = true ∧ d.length ≤ 3) := by
          intro d hd
          rcases List.mem_append.1 hd with hd | hd
          · exact HC.out d hd
          · obtain rfl := List.mem_singleton.1 hd; exact ⟨hcl, by omega⟩
        have hsz6 : (w6.setCell ⟨fb, 1, none⟩ (.slice ya (cs.length + 1) yc)).heap.size = w6.heap.size := by simp
        have hsz7 := Lib.hid hsz6
        clear ho4 hsm4 hp3 ho3' ho3 hq3 hm3 hDw hp4 c4 f4 hsz6
        have hsum6 : Hid (((cs ++ [c]).map List.length).sum ≤ 3 * (cs ++ [c]).length) := by simp [Hid]; omega
        go_wp2
        go_roundw
        case rel => exact ⟨m - 1, cs ++ [c], _, by go_num, by simp; omega, hsum6.out, HC6, HO6.out, HP6.out, HR6.out, HQ6.out.mono (by simp; omega), HS6.out, by rw [hsz7.out]; omega⟩
        case measure => simp [intOf]; omega
    · have c1 := hp.c1
      have c0 := hp.c0
      have d0 := hr.f0
      have d1 := hr.f1
      have r0 := hr.c0
      have r1 := hr.c1
      clear ho hp hq hS
      go_wp2_with fail
      have hS2 := ((Same.refl w.heap.size (w.heap.size + 1) wr).setCell (p := ⟨w.heap.size, 0, none⟩) (Nat.le_refl _) (Nat.lt_succ_self _) (.int .i64 L)).setCell (p := ⟨w.heap.size, 1, none⟩) (Nat.le_refl _) (Nat.lt_succ_self _) (.slice oa cs.length oc)
      refine bodyPost_ret (v := .agg #[.int .i64 L, .slice oa cs.length oc]) (by simp [results, Try.results50, go_sem, r0, r1]) rfl ⟨_, ⟨L, cs⟩, rfl, ⟨⟨_, rfl, (HO.out.same hS2 (.inr (by omega))).mono (by omega) (by simp) (Nat.le_refl _)⟩, by constructor <;> (simp only; omega)⟩, ⟨?_, by simp only; omega, by simp only; omega, by simp only; omega, fun c hc => (HC.out c hc).2⟩, HS.out.after hS2 (Nat.le_refl _)⟩
      unfold validForm
      rw [show inB 1 10 ((L : Nat) : Int) = true by (unfold inB; rw [decide_eq_true (by omega), decide_eq_true (by omega)]; rfl), decide_eq_true (show cs.length ≤ 48 by omega), List.all_eq_true.2 (fun c hc => (HC.out c hc).1)]
      rfl
set_option maxHeartbeats 800000 in
set_option maxRecDepth 100000 in
theorem b10Form_any {l h : Nat} (v : Value) (bs : List Int) (w : World) (hv : Byts w l h v bs) (hh : h ≤ w.heap.size) :
    Calls Try.prog 8 #[v] w fun e w' => ∃ u f, e = .returned u ∧ OwnF w' w.heap.size w'.heap.size u f ∧ DrawnF f ∧ Below w.heap.size w w' := by
  obtain ⟨W1, hW1⟩ : ∃ X, X = w.alloc (.cells #[.int .i64 0, .slice none 0 0] 26) := ⟨_, rfl⟩
  have hr1 : TwoC W1 w.heap.size 26 (.int .i64 0) (.slice none 0 0) := by rw [hW1]; exact TwoC.new _ _ _ _
  have hb1 : Below w.heap.size w W1 := by rw [hW1]; exact alloc_below _ _
  have hz1 : w.heap.size + 1 ≤ W1.heap.size := by rw [hW1]; simp
  have HF := Lib.hid (l00From_any v bs W1 (hv.below hb1 hh) (by omega))
  obtain ⟨a, cap, rfl, hc1, hc2, hd⟩ := hv.out
  clear hv hd
  go_enter Try.func8, Try.ntmps8
  go_wp2_with fail
  rw [← hW1]
  clear hW1
  refine HF.out.mono ?_
  rintro e w2 ⟨rfl, hs2, hb2⟩
  have HD := Lib.hid (l05DrawOk_any w2 hs2 (by decide))
  have hz2 := hb2.size
  have HR2 := Lib.hid (hr1.below hb2 (by omega))
  have HB2 := Lib.hid (hb1.trans (hb2.mono (by omega)))
  clear hs2 hr1 hb1 hb2
  go_wp2_with fail
  refine HD.out.mono ?_
  rintro e w3 ⟨u, f, rfl, hf, hdf, hsm⟩
  have HB3 := Lib.hid (HB2.out.trans (hsm.below (B := w.heap.size) (by omega) (by omega)))
  have HR3 := Lib.hid (HR2.out.same hsm (.inl (by omega)))
  have r0 := HR3.out.c0
  have r1 := HR3.out.c1
  have d0 := HR3.out.f0
  have d1 := HR3.out.f1
  obtain ⟨u, rfl, hu⟩ := hf.ex
  obtain ⟨ua, uc, rfl⟩ := hu.shape
  have HO := Lib.hid hu
  have kf := hf.rng
  have hz3 := hsm.size
  have HDF := Lib.hid hdf
  clear hf hsm hdf hu
  go_wp2_with fail
  have hS2 := ((Same.refl w.heap.size (w.heap.size + 1) w3).setCell (p := ⟨w.heap.size, 0, none⟩) (Nat.le_refl _) (Nat.lt_succ_self _) (.int .i64 f.letters)).setCell (p := ⟨w.heap.size, 1, none⟩) (Nat.le_refl _) (Nat.lt_succ_self _) (.slice ua f.clauses.length uc)
  exact bodyPost_ret (v := .agg #[.int .i64 f.letters, .slice ua f.clauses.length uc]) (by simp [results, Try.results8, go_sem, r0, r1]) rfl ⟨_, f, rfl, ⟨⟨_, rfl, (HO.out.same hS2 (.inr (by omega))).mono (by omega) (by simp) (Nat.le_refl _)⟩, kf⟩, HDF.out, HB3.out.trans (hS2.below (Nat.le_refl _) (by omega))⟩
end Go.Proofs.Ytcpbgjnijhcpkaa
