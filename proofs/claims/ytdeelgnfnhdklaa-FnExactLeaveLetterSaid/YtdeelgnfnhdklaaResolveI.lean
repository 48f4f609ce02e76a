/-
  Resolve: contracts in the program, and of Resolve itself.
-/
import Derived.Test.YtdeelgnfnhdklaaResolve
namespace Go.Proofs.Ytdeelgnfnhdklaa
open Go.RowKit
set_option linter.unusedVariables false

def resS (l : Int) (a b : List Int) : List Int := insUp ltL (resD l a b).length (resD l a b)
theorem resolve_same {L l : Int} {a b : List Int} (ha : isClause L a = true) (hb : isClause L b = true) (hc : clash a b l = true) : resolveN a b l = if isClause L (resS l a b) then (resS l a b, true) else ([], false) := by
  rw [resolveN, if_pos hc]; exact resolve_eq ha hb
theorem dedup_take {l x : Int} {S r : List Int} (h : absI x ≠ l) (hh : hasI S x = false) : dedupGo l S (x :: r) = dedupGo l (S ++ [x]) r := by rw [dedupGo, if_pos ⟨h, hh⟩]
theorem dedup_skip {l x : Int} {S r : List Int} (h : ¬ (absI x ≠ l ∧ hasI S x = false)) : dedupGo l S (x :: r) = dedupGo l S r := by rw [dedupGo, if_neg h]
set_option maxHeartbeats 2000000 in
set_option maxRecDepth 100000 in
theorem resolveI_any (w : World) {l' h' l'' h'' : Nat} (L : Int) (va vb : Value) (a b : List Int) (l : Int) (kL : I64 L) (ha : Ints w l' h' va a) (hha : h' ≤ w.heap.size) (hb : Ints w l'' h'' vb b) (hhb : h'' ≤ w.heap.size) (hra : ∀ x ∈ a, -10 ≤ x ∧ x ≤ 10) (hrb : ∀ x ∈ b, -10 ≤ x ∧ x ≤ 10) (hla : a.length ≤ 100) (hlb : b.length ≤ 100) (hl1 : 1 ≤ l) (hl2 : l ≤ 10) (hD : (resD l a b).length ≤ 18) :
    Calls Try.prog 93 #[.int .i64 L, va, vb, .int .i64 l] w fun e w' => ∃ u, e = .returned (.tuple #[u, .bool (isClause L (resS l a b))]) ∧ OwnI w' w.heap.size w'.heap.size u (resS l a b) ∧ Below w.heap.size w w' := by
  have HC := Lib.hid (copyInts_any va a w ha hha (by omega))
  have HB := Lib.hid hb
  have HRG : Hid (∀ x ∈ a ++ b, -10 ≤ x ∧ x ≤ 10) := fun x hx => by
    rcases List.mem_append.1 hx with h | h
    · exact hra x h
    · exact hrb x h
  have hab : (a ++ b).length ≤ 200 := by rw [List.length_append]; omega
  have HRS : Hid (dedupGo l [] (a ++ b) = resD l a b) := rfl
  have HDL := Lib.hid hD
  have HSS : Hid (insUp ltL (resD l a b).length (resD l a b) = resS l a b) := rfl
  clear ha hb hra hrb hD
  go_enter Try.func93, Try.ntmps93
  go_wp2_with fail
  refine HC.out.mono ?_
  rintro e w1 ⟨u, rfl, ho, hb1⟩
  have hs1 := hb1.size
  have HO1 := Lib.hid ho
  have HB1 := Lib.hid hb1
  have HBV := Lib.hid (HB.out.below hb1 hhb)
  clear ho hb1 HC
  go_wp2_with (at_builtin; refine wpList_appIs rfl _ _ rfl _ a rfl HO1.out _ b rfl HBV.out (by omega) hs1 ?_)
  intro v2 w2 ho2 hsm2 hz2 _
  have HO2 := Lib.hid ho2
  have HB2 := Lib.hid (HB1.out.trans (hsm2.below (Nat.le_refl _) hs1))
  have hs2 := HB2.out.size
  obtain ⟨c, hc⟩ : ∃ c, c = a ++ b := ⟨_, rfl⟩
  rw [← hc] at HO2 hab HRS HRG
  obtain ⟨ca, cc, rfl, cc1, cc2, cd⟩ := HO2.out.rd.out
  have CC : Hid (∀ (wx : World) (j : Nat), Below w2.heap.size w2 wx → j < c.length → ∃ g o, ca = some ⟨g, o, none⟩ ∧ wx.cell? ⟨g, o + j, none⟩ = some (.int .i64 (c.getD j 0))) := fun wx j hbx hj => by
    rcases cd with e | ⟨g, o, e, r1, r2, r3, hcl⟩
    · rw [e] at hj; simp at hj
    · exact ⟨g, o, e, by rw [hbx.cell (p := ⟨g, o + j, none⟩) (show g < w2.heap.size by omega)]; exact hcl j hj⟩
  clear ho2 hsm2 cd hc
  go_wp2_with fail
  go_loopw [10, 18] (fun ov i wr => ∃ (k : Nat) (S : List Int), k ≤ c.length ∧ i = .int .i64 k ∧ S.length ≤ k ∧ Hid (∀ y ∈ S, -10 ≤ y ∧ y ≤ 10) ∧ Hid (dedupGo l S (c.drop k) = resD l a b) ∧ OwnI wr w2.heap.size wr.heap.size ov S ∧ Below w2.heap.size w2 wr) (fun _ i _ => c.length - (intOf i).toNat)
  case atStart => exact ⟨0, [], Nat.zero_le _, rfl, Nat.le_refl _, Lib.hid (by simp), HRS, OwnI.nil _ _ _ (Nat.le_refl _), Below.refl _ _⟩
  case round =>
    obtain ⟨k, S, hk, rfl, hSl, HSR, H, ho, hb⟩ := hrel
    have hs := hb.size
    have HO := Lib.hid ho
    have HBB := Lib.hid hb
    clear ho
    by_cases hlt : k < c.length
    · obtain ⟨g, o, rfl, hck⟩ := CC.out wr k hb hlt
      have hge : c.getD k 0 = c[k] := by simp [List.getD, hlt]
      rw [hge] at hck
      have HD : Hid (c.drop k = c[k] :: c.drop (k + 1)) := drop_cons c k hlt
      have hxr := HRG.out c[k] (List.getElem_mem hlt)
      obtain ⟨x, hx⟩ : ∃ x, x = c[k] := ⟨_, rfl⟩
      rw [← hx] at hck HD hxr
      have hx1 := hxr.1
      have hx2 := hxr.2
      have HLX := Lib.hid (letterOf_any x (by omega) (by omega) wr)
      have HHS := Lib.hid (has_any _ S x wr HO.out.rd)
      have HTK : Hid (absI x ≠ l → hasI S x = false → dedupGo l (S ++ [x]) (c.drop (k + 1)) = resD l a b) := fun h1 h2 => by rw [← H.out, HD.out]; exact (dedup_take h1 h2).symm
      have HSK : Hid (¬ (absI x ≠ l ∧ hasI S x = false) → dedupGo l S (c.drop (k + 1)) = resD l a b) := fun h => by rw [← H.out, HD.out]; exact (dedup_skip h).symm
      obtain ⟨ax, hax⟩ : ∃ z, z = absI x := ⟨_, rfl⟩
      rw [← hax] at HLX HTK HSK
      obtain ⟨t, ht⟩ : ∃ t, t = hasI S x := ⟨_, rfl⟩
      rw [← ht] at HHS HTK HSK
      clear hge hx hxr hax hb ht
      by_cases hal : ax = l
      · have hne : (ax != l) = false := by simpa using hal
        have HN : Hid (dedupGo l S (c.drop (k + 1)) = resD l a b) := HSK.out (fun h => h.1 hal)
        clear hal
        go_wp2_with fail
        refine HLX.out.mono ?_
        rintro e w' ⟨rfl, rfl⟩
        go_wp2
        go_roundw
        case rel => exact ⟨k + 1, S, by omega, by go_num, by omega, HSR, HN, HO.out, HBB.out⟩
        case measure => simp [intOf]; omega
      · have hne : (ax != l) = true := by simpa using hal
        cases t
        · have HN : Hid (dedupGo l (S ++ [x]) (c.drop (k + 1)) = resD l a b) := HTK.out hal rfl
          have HSR2 : Hid (∀ y ∈ S ++ [x], -10 ≤ y ∧ y ≤ 10) := fun y hy => by
            rcases List.mem_append.1 hy with hy | hy
            · exact HSR.out y hy
            · rw [List.mem_singleton] at hy; subst hy; exact ⟨hx1, hx2⟩
          clear hal
          go_wp2_with fail
          refine HLX.out.mono ?_
          rintro e w' ⟨rfl, rfl⟩
          go_wp2_with fail
          refine HHS.out.mono ?_
          rintro e w' ⟨rfl, rfl⟩
          go_wp2_with (at_builtin; refine wpList_app1 rfl _ _ rfl _ S rfl x _ HO.out rfl (by unfold I64; omega) (by omega) hs ?_)
          intro v3 w3 ho3 hsm hz3 _
          have HO3 := Lib.hid ho3
          have HB3 := Lib.hid (HBB.out.trans (hsm.below (Nat.le_refl _) hs))
          clear ho3
          go_wp2
          go_roundw
          case rel => exact ⟨k + 1, S ++ [x], by omega, by go_num, by simp; omega, HSR2, HN, HO3.out, HB3.out⟩
          case measure => simp [intOf]; omega
        · have HN : Hid (dedupGo l S (c.drop (k + 1)) = resD l a b) := HSK.out (fun h => by cases h.2)
          clear hal
          go_wp2_with fail
          refine HLX.out.mono ?_
          rintro e w' ⟨rfl, rfl⟩
          go_wp2_with fail
          refine HHS.out.mono ?_
          rintro e w' ⟨rfl, rfl⟩
          go_wp2
          go_roundw
          case rel => exact ⟨k + 1, S, by omega, by go_num, by omega, HSR, HN, HO.out, HBB.out⟩
          case measure => simp [intOf]; omega
    · obtain rfl : k = c.length := by omega
      have hSD : S = resD l a b := by rw [← H.out, drop_len _ _ (Nat.le_refl _)]; rfl
      have HSD := Lib.hid hSD
      have hS18 : S.length ≤ 18 := by rw [hSD]; exact HDL.out
      clear hSD hb
      have HBY := Lib.hid (byLetter_any _ S wr HO.out.rd (Nat.le_refl _) HSR.out (by omega))
      rw [HSD.out, HSS.out] at HBY
      go_wp2_with fail
      refine HBY.out.mono ?_
      rintro e w4 ⟨u4, rfl, ho4, hb4⟩
      have hs4 := hb4.size
      have HO4 := Lib.hid ho4
      have HB4 := Lib.hid (HB2.out.trans ((HBB.out.trans (hb4.mono hs)).mono hs2))
      have hrl : (resS l a b).length ≤ 18 := by rw [← HSS.out, insUp_len]; exact HDL.out
      have HCL := Lib.hid (implIsClause_any w4 L _ (resS l a b) kL ho4.rd (Nat.le_refl _) (by omega))
      clear ho4 hb4
      go_wp2_with fail
      refine HCL.out.mono ?_
      rintro e w5 ⟨rfl, hb5⟩
      have HO5 := Lib.hid (HO4.out.below hb5 (Nat.le_refl _))
      have hs5 := hb5.size
      have HB5 := Lib.hid (HB4.out.trans (hb5.mono (by omega)))
      clear hb5
      go_wp2
      go_ret2
      exact ⟨_, rfl, HO5.out.mono (by omega) hs5 (Nat.le_refl _), HB5.out⟩
def okResolve (L : Int) (a b : List Int) (l : Int) : Bool := isClause L a && (isClause L b && inB 1 L l)
def resolveF (L : Int) (a b : List Int) (l : Int) : List Int × Bool := if okResolve L a b l then resolveN a b l else ([], false)
theorem resolveF_no {L : Int} {a b : List Int} {l : Int} (h : okResolve L a b l = false) : resolveF L a b l = ([], false) := by rw [resolveF, h]; rfl
theorem resolveF_yes {L : Int} {a b : List Int} {l : Int} (h : okResolve L a b l = true) : resolveF L a b l = resolveN a b l := by rw [resolveF, h]; rfl
set_option maxHeartbeats 1600000 in
set_option maxRecDepth 100000 in
theorem specResolve_any (w : World) (L : Int) {l1 h1 l2 h2 : Nat} (va : Value) (a : List Int) (vb : Value) (b : List Int) (l : Int) (kL : I64 L) (ha : Ints w l1 h1 va a) (hha : h1 ≤ w.heap.size) (hza : a.length ≤ 1048576) (hb : Ints w l2 h2 vb b) (hhb : h2 ≤ w.heap.size) (hzb : b.length ≤ 1048576) (kl : I64 l) :
    Calls Try.prog 50 #[.int .i64 L, va, vb, .int .i64 l] w fun e w' => ∃ r, e = .returned (.tuple #[r, .bool (resolveF L a b l).2]) ∧ OwnI w' w.heap.size w'.heap.size r (resolveF L a b l).1 ∧ Below w.heap.size w w' := by
  have HCA := Lib.hid (l05Clause_any w L va a kL ha hha)
  have HA := Lib.hid ha
  have HB := Lib.hid hb
  clear ha hb
  cases hca : isClause L a
  · have HE := Lib.hid (resolveF_no (show okResolve L a b l = false by rw [okResolve, hca]; rfl))
    go_enter Try.func50, Try.ntmps50
    go_wp2_with fail
    refine HCA.out.mono ?_
    rintro e w1 ⟨rfl, hb1⟩
    rw [hca]
    go_wp2
    go_ret2
    exact ⟨_, by rw [HE.out]; rfl, by rw [HE.out]; exact OwnI.nil _ _ _ (Nat.le_refl _), hb1⟩
  cases hcb : isClause L b
  · have HE := Lib.hid (resolveF_no (show okResolve L a b l = false by rw [okResolve, hcb]; simp))
    go_enter Try.func50, Try.ntmps50
    go_wp2_with fail
    refine HCA.out.mono ?_
    rintro e w1 ⟨rfl, hb1⟩
    rw [hca]
    have hs1 := hb1.size
    go_wp2_with fail
    refine (l05Clause_any w1 L vb b kL (HB.out.below hb1 hhb) (by omega)).mono ?_
    rintro e w2 ⟨rfl, hb2⟩
    rw [hcb]
    go_wp2
    go_ret2
    exact ⟨_, by rw [HE.out]; rfl, by rw [HE.out]; exact OwnI.nil _ _ _ (Nat.le_refl _), hb1.trans (hb2.mono hs1)⟩
  cases hil : inB 1 L l
  · have HE := Lib.hid (resolveF_no (show okResolve L a b l = false by rw [okResolve, hil]; simp))
    go_enter Try.func50, Try.ntmps50
    go_wp2_with fail
    refine HCA.out.mono ?_
    rintro e w1 ⟨rfl, hb1⟩
    rw [hca]
    have hs1 := hb1.size
    go_wp2_with fail
    refine (l05Clause_any w1 L vb b kL (HB.out.below hb1 hhb) (by omega)).mono ?_
    rintro e w2 ⟨rfl, hb2⟩
    rw [hcb]
    go_wp2_with fail
    refine (l00In_any _ _ _ _).mono ?_
    rintro e w' ⟨rfl, rfl⟩
    rw [hil]
    go_wp2
    go_ret2
    exact ⟨_, by rw [HE.out]; rfl, by rw [HE.out]; exact OwnI.nil _ _ _ (Nat.le_refl _), hb1.trans (hb2.mono hs1)⟩
  have HE := Lib.hid (resolveF_yes (show okResolve L a b l = true by rw [okResolve, hca, hcb, hil]; rfl))
  have hL := inB_true (clause_in hca)
  have hl := inB_true hil
  have hla := (cons_clause hca).len hL.2
  have hlb := (cons_clause hcb).len hL.2
  have HRA := Lib.hid (cons_rng hca)
  have HRB := Lib.hid (cons_rng hcb)
  go_enter Try.func50, Try.ntmps50
  go_wp2_with fail
  refine HCA.out.mono ?_
  rintro e w1 ⟨rfl, hb1⟩
  rw [hca]
  have hs1 := hb1.size
  go_wp2_with fail
  refine (l05Clause_any w1 L vb b kL (HB.out.below hb1 hhb) (by omega)).mono ?_
  rintro e w2 ⟨rfl, hb2⟩
  rw [hcb]
  have hs2 := hb2.size
  go_wp2_with fail
  refine (l00In_any _ _ _ _).mono ?_
  rintro e w' ⟨rfl, rfl⟩
  rw [hil]
  have HR := Lib.hid (l05Resolve_any w2 va vb a b l ((HA.out.below hb1 hha).below hb2 (by omega)) (by omega) ((HB.out.below hb1 hhb).below hb2 (by omega)) (by omega) HRA.out HRB.out (by omega) (by omega) hl.1 (by omega))
  rw [← HE.out] at HR
  have HB2 := Lib.hid (hb1.trans (hb2.mono hs1))
  clear hca hcb hil hb1 hb2
  go_wp2_with fail
  refine HR.out.mono ?_
  rintro e w3 ⟨u, rfl, hou, hb3⟩
  have HO := Lib.hid hou
  have HB3 := Lib.hid (HB2.out.trans (hb3.mono (by omega)))
  clear hou hb3
  go_wp2
  go_ret2
  exact ⟨_, rfl, HO.out.mono (by omega) (Nat.le_refl _) (Nat.le_refl _), HB3.out⟩
set_option maxHeartbeats 2000000 in
set_option maxRecDepth 100000 in
theorem implResolve_any (w : World) (L : Int) {l1 h1 l2 h2 : Nat} (va : Value) (a : List Int) (vb : Value) (b : List Int) (l : Int) (kL : I64 L) (ha : Ints w l1 h1 va a) (hha : h1 ≤ w.heap.size) (hza : a.length ≤ 1048576) (hb : Ints w l2 h2 vb b) (hhb : h2 ≤ w.heap.size) (hzb : b.length ≤ 1048576) (kl : I64 l) :
    Calls Try.prog 51 #[.int .i64 L, va, vb, .int .i64 l] w fun e w' => ∃ r, e = .returned (.tuple #[r, .bool (resolveF L a b l).2]) ∧ OwnI w' w.heap.size w'.heap.size r (resolveF L a b l).1 ∧ Below w.heap.size w w' := by
  have HCA := Lib.hid (isClause_any w L va a kL ha hha hza)
  have HCB := Lib.hid (isClause_any w L vb b kL hb hhb hzb)
  have HA := Lib.hid ha
  have HB := Lib.hid hb
  clear ha hb
  cases hca : isClause L a
  · have HE := Lib.hid (resolveF_no (show okResolve L a b l = false by rw [okResolve, hca]; rfl))
    go_enter Try.func51, Try.ntmps51
    go_wp2_with fail
    refine HCA.out.mono ?_
    rintro e w1 ⟨rfl, rfl⟩
    rw [hca]
    go_wp2
    go_ret2
    exact ⟨_, by rw [HE.out]; rfl, by rw [HE.out]; exact OwnI.nil _ _ _ (Nat.le_refl _), Below.refl _ _⟩
  cases hcb : isClause L b
  · have HE := Lib.hid (resolveF_no (show okResolve L a b l = false by rw [okResolve, hcb]; simp))
    go_enter Try.func51, Try.ntmps51
    go_wp2_with fail
    refine HCA.out.mono ?_
    rintro e w1 ⟨rfl, rfl⟩
    rw [hca]
    go_wp2_with fail
    refine HCB.out.mono ?_
    rintro e w2 ⟨rfl, rfl⟩
    rw [hcb]
    go_wp2
    go_ret2
    exact ⟨_, by rw [HE.out]; rfl, by rw [HE.out]; exact OwnI.nil _ _ _ (Nat.le_refl _), Below.refl _ _⟩
  cases hil : inB 1 L l
  · have HE := Lib.hid (resolveF_no (show okResolve L a b l = false by rw [okResolve, hil]; simp))
    go_enter Try.func51, Try.ntmps51
    go_wp2_with fail
    refine HCA.out.mono ?_
    rintro e w1 ⟨rfl, rfl⟩
    rw [hca]
    go_wp2_with fail
    refine HCB.out.mono ?_
    rintro e w2 ⟨rfl, rfl⟩
    rw [hcb]
    go_wp2_with fail
    refine (within_any _ _ _ _).mono ?_
    rintro e w' ⟨rfl, rfl⟩
    rw [hil]
    go_wp2
    go_ret2
    exact ⟨_, by rw [HE.out]; rfl, by rw [HE.out]; exact OwnI.nil _ _ _ (Nat.le_refl _), Below.refl _ _⟩
  have HE := Lib.hid (resolveF_yes (show okResolve L a b l = true by rw [okResolve, hca, hcb, hil]; rfl))
  have hL := inB_true (clause_in hca)
  have hl := inB_true hil
  have hla := (cons_clause hca).len hL.2
  have hlb := (cons_clause hcb).len hL.2
  have HRA := Lib.hid (cons_rng hca)
  have HRB := Lib.hid (cons_rng hcb)
  have HSM : Hid (clash a b l = true → resolveN a b l = if isClause L (resS l a b) then (resS l a b, true) else ([], false)) := fun h => resolve_same hca hcb h
  have HLN : Hid (clash a b l = true → (resD l a b).length ≤ 18) := fun h => clash_len hl.1 hca hcb h
  obtain ⟨hl1, hl2⟩ := hl
  have hl3 : l ≤ 10 := by omega
  obtain ⟨aa, ac, rfl, _, _, _⟩ := HA.out.out
  obtain ⟨ba, bc, rfl, _, _, _⟩ := HB.out.out
  go_enter Try.func51, Try.ntmps51
  go_wp2_with fail
  refine HCA.out.mono ?_
  rintro e w1 ⟨rfl, rfl⟩
  rw [hca]
  go_wp2_with fail
  refine HCB.out.mono ?_
  rintro e w2 ⟨rfl, rfl⟩
  rw [hcb]
  clear hca hcb HCA HCB
  go_upto_region 3 with (go_at_call 84; refine (within_any _ _ _ _).mono ?_; rintro e w' ⟨rfl, rfl⟩)
  go_cut [49] from 28 to 49 (fun s wx => s = .bool (!clash a b l) ∧ wx = w)
  case first =>
    clear hil
    cases h1 : hasI a l <;> cases h2 : hasI b (-l) <;> cases h3 : hasI a (-l) <;> cases h4 : hasI b l
    all_goals
      have HC : Hid (clash a b l = ((hasI a l && hasI b (-l)) || (hasI a (-l) && hasI b l))) := rfl
      rw [h1, h2, h3, h4] at HC
      go_wp2_with (first | (go_at_call_of 92 (Value.slice aa a.length ac); refine (has_any _ a _ _ HA.out).mono ?_; rintro e w' ⟨rfl, rfl⟩) | (go_at_call_of 92 (Value.slice ba b.length bc); refine (has_any _ b _ _ HB.out).mono ?_; rintro e w' ⟨rfl, rfl⟩))
      go_meet
      exact ⟨by rw [HC.out]; rfl, rfl⟩
  case rest =>
    clear hil
    obtain ⟨rfl, rfl⟩ := hcut
    cases hcl : clash a b l
    · have HE2 : Hid (resolveF L a b l = ([], false)) := by rw [Hid, HE.out, resolveN, hcl]; rfl
      clear hcl
      go_wp2
      go_ret2
      exact ⟨_, by rw [HE2.out]; rfl, by rw [HE2.out]; exact OwnI.nil _ _ _ (Nat.le_refl _), Below.refl _ _⟩
    have HRS := Lib.hid (resolveI_any wc L _ _ a b l kL HA.out hha HB.out hhb HRA.out HRB.out (by omega) (by omega) hl1 hl3 (HLN.out hcl))
    have HS2 := Lib.hid (HSM.out hcl)
    clear hcl
    cases hic : isClause L (resS l a b)
    · rw [hic] at HRS HS2
      have HE2 : Hid (resolveF L a b l = ([], false)) := by rw [Hid, HE.out, HS2.out]; rfl
      clear hic
      go_wp2_with fail
      refine HRS.out.mono ?_
      rintro e w3 ⟨u, rfl, hou, hb3⟩
      clear hou
      go_wp2
      go_ret2
      exact ⟨_, by rw [HE2.out]; rfl, by rw [HE2.out]; exact OwnI.nil _ _ _ (Nat.le_refl _), hb3⟩
    · rw [hic] at HRS HS2
      have HE2 : Hid (resolveF L a b l = (resS l a b, true)) := by rw [Hid, HE.out, HS2.out]; rfl
      clear hic
      go_wp2_with fail
      refine HRS.out.mono ?_
      rintro e w3 ⟨u, rfl, hou, hb3⟩
      have HO := Lib.hid hou
      clear hou
      go_wp2
      go_ret2
      exact ⟨_, by rw [HE2.out]; rfl, by rw [HE2.out]; exact HO.out, hb3⟩
end Go.Proofs.Ytdeelgnfnhdklaa
