/-
  TwoStages: contracts in the reference and in the program.
-/
import Derived.Test.YtgbomnhidfejbaaSort
import Derived.Test.YtgbomnhidfejbaaDue
namespace Go.Proofs.Ytgbomnhidfejbaa
open Go.RowKit
set_option linter.unusedVariables false

def okLongs (xs : List Int) : Bool := xs.all (inB 1 1000) && inB 1 12 (xs.length : Int)
def twoOk (fs ss : List Int) : Bool := okLongs fs && (okLongs ss && decide (fs.length = ss.length))
def stageKey (fs ss : List Int) (i : Nat) : Int := if fs.getD i 0 ≤ ss.getD i 0 then fs.getD i 0 else 10000 - ss.getD i 0
def stageKeys (fs ss : List Int) (n : Nat) : List Int := (List.range n).map (stageKey fs ss)
theorem stageKeys_succ (fs ss : List Int) (n : Nat) : stageKeys fs ss (n + 1) = stageKeys fs ss n ++ [stageKey fs ss n] := by simp [stageKeys, List.range_succ]
theorem stageKeys_len (fs ss : List Int) (n : Nat) : (stageKeys fs ss n).length = n := by simp [stageKeys]
theorem stageKeys_getD (fs ss : List Int) (n i : Nat) (h : i < n) : (stageKeys fs ss n).getD i 0 = stageKey fs ss i := by simp [stageKeys, List.getD, h]
def stageCmp (fs ss : List Int) (a b : Int) : Int :=
  if fs.getD a.toNat 0 ≤ ss.getD a.toNat 0 then
    if fs.getD b.toNat 0 ≤ ss.getD b.toNat 0 then cmpI (fs.getD a.toNat 0) (fs.getD b.toNat 0) else -1
  else if fs.getD b.toNat 0 ≤ ss.getD b.toNat 0 then 1 else cmpI (ss.getD b.toNat 0) (ss.getD a.toNat 0)
theorem okLongs_out {xs : List Int} (h : okLongs xs = true) : (∀ x ∈ xs, 1 ≤ x ∧ x ≤ 1000) ∧ 0 < xs.length ∧ xs.length ≤ 12 := by
  simp only [okLongs, Bool.and_eq_true, List.all_eq_true] at h
  have := inB_true h.2
  exact ⟨fun x hx => inB_true (h.1 x hx), by omega, by omega⟩
theorem stage_lt {fs ss : List Int} (h1 : ∀ x ∈ fs, 1 ≤ x ∧ x ≤ 1000) (h2 : ∀ x ∈ ss, 1 ≤ x ∧ x ≤ 1000) (hl : fs.length = ss.length) (x y : Int) (hx : 0 ≤ x) (hx2 : x < (fs.length : Int)) (hy : 0 ≤ y) (hy2 : y < (fs.length : Int)) :
    ltOf (stageCmp fs ss) x y = keyLt (stageKeys fs ss fs.length) x y := by
  have a1 := h1 _ (getD_mem (show x.toNat < fs.length by omega))
  have a2 := h2 _ (getD_mem (show x.toNat < ss.length by omega))
  have b1 := h1 _ (getD_mem (show y.toNat < fs.length by omega))
  have b2 := h2 _ (getD_mem (show y.toNat < ss.length by omega))
  unfold ltOf stageCmp keyLt
  rw [stageKeys_getD _ _ _ _ (show x.toNat < fs.length by omega), stageKeys_getD _ _ _ _ (show y.toNat < fs.length by omega)]
  unfold stageKey
  generalize fs.getD x.toNat 0 = fx at *
  generalize fs.getD y.toNat 0 = fy at *
  generalize ss.getD x.toNat 0 = sx at *
  generalize ss.getD y.toNat 0 = sy at *
  by_cases c1 : fx ≤ sx <;> by_cases c2 : fy ≤ sy <;> simp only [c1, c2, if_true, if_false]
  · exact cmpI_lt _ _
  · simp; omega
  · simp; omega
  · rw [cmpI_lt]; simp
def stageGo (fs ss : List Int) : List Int → Int → Int → Int
  | [], _, two => two
  | i :: r, one, two => stageGo fs ss r (one + fs.getD i.toNat 0) (max (one + fs.getD i.toNat 0) two + ss.getD i.toNat 0)
def stageL (fs ss : List Int) : List Int := ordTo (keyLt (stageKeys fs ss fs.length)) fs.length
def twoStages (fs ss : List Int) : List Int × Int × Bool := if twoOk fs ss then (stageL fs ss, stageGo fs ss (stageL fs ss) 0 0, true) else ([], 0, false)
set_option maxHeartbeats 400000 in
set_option maxRecDepth 100000 in
theorem l04Sizes_any {l h : Nat} (v : Value) (zs : List Int) (w : World) (hv : Ints w l h v zs) :
    Calls Try.prog 94 #[v] w fun e w' => e = .returned (.bool (zs.all (inB 1 1000) && inB 1 16 (zs.length : Int))) ∧ w = w' := by
  obtain ⟨a, cap, rfl, hc1, hc2, hd⟩ := hv.out
  go_enter Try.func94, Try.ntmps94
  go_wp2_with fail
  go_loop [3] (fun i => ∃ k : Nat, k ≤ zs.length ∧ i = .int .i64 k ∧ Hid ((zs.drop k).all (inB 1 1000) = zs.all (inB 1 1000))) (fun i => zs.length - (intOf i).toNat)
  case atStart => exact ⟨0, Nat.zero_le _, rfl, Lib.hid (by simp)⟩
  case round =>
    obtain ⟨k, hk, rfl, H⟩ := hrel
    by_cases hlt : k < zs.length
    · have HD := Lib.hid (drop_cons zs k hlt)
      rcases hd with rfl | ⟨b, off, rfl, hb1, hb2, hb3, hcell⟩
      · simp at hlt
      have hck := hcell k hlt
      clear hcell
      cases hin : inB 1 1000 zs[k]
      · go_wp2_with (go_at_call 53; refine (l00In_any _ _ _ _).mono ?_; rintro e w' ⟨rfl, rfl⟩)
        go_ret
        exact ⟨ret_bool (by rw [← H.out, HD.out, List.all_cons, hin, Bool.false_and, Bool.false_and]), rfl⟩
      · go_wp2_with (go_at_call 53; refine (l00In_any _ _ _ _).mono ?_; rintro e w' ⟨rfl, rfl⟩)
        go_round
        case rel => exact ⟨k + 1, by omega, by go_num, Lib.hid (by rw [← H.out, HD.out, List.all_cons, hin, Bool.true_and])⟩
        case measure => simp [intOf]; omega
    · have HA : Hid (zs.all (inB 1 1000) = true) := by rw [Hid, ← H.out, drop_len _ _ (by omega), List.all_nil]
      by_cases h1 : 1 ≤ zs.length
      · have h1i : (1 : Int) ≤ (zs.length : Int) := by omega
        by_cases h2 : zs.length ≤ 16
        · go_wp2
          go_ret
          exact ⟨ret_bool (by rw [HA.out]; simp [inB]; omega), rfl⟩
        · go_wp2
          go_ret
          exact ⟨ret_bool (by rw [HA.out]; simp [inB]; omega), rfl⟩
      · have h1i : ¬ (1 : Int) ≤ (zs.length : Int) := by omega
        go_wp2
        go_ret
        exact ⟨ret_bool (by rw [HA.out]; simp [inB]; omega), rfl⟩
theorem l06Longs_any {l h : Nat} (v : Value) (zs : List Int) (w : World) (hv : Ints w l h v zs) :
    Calls Try.prog 75 #[v] w fun e w' => e = .returned (.bool (okLongs zs)) ∧ w = w' := by
  have HV := Lib.hid hv
  obtain ⟨a, cap, rfl, _⟩ := hv.out
  have HE : Hid (okLongs zs = ((zs.all (inB 1 1000) && inB 1 16 (zs.length : Int)) && decide (zs.length ≤ 12))) := by
    rw [Hid, okLongs, Bool.and_assoc]
    congr 1
    rw [Bool.eq_iff_iff]; simp [inB]; omega
  clear hv
  cases hs : (zs.all (inB 1 1000) && inB 1 16 (zs.length : Int))
  · go_enter Try.func75, Try.ntmps75
    go_wp2_with fail
    refine (l04Sizes_any _ zs w HV.out).mono ?_
    rintro e w' ⟨rfl, rfl⟩
    rw [hs]
    go_wp2
    go_ret
    exact ⟨ret_bool (by rw [HE.out, hs]; rfl), rfl⟩
  by_cases h12 : zs.length ≤ 12
  all_goals
    go_enter Try.func75, Try.ntmps75
    go_wp2_with fail
    refine (l04Sizes_any _ zs w HV.out).mono ?_
    rintro e w' ⟨rfl, rfl⟩
    rw [hs]
    go_wp2
    go_ret
    exact ⟨ret_bool (by rw [HE.out, hs]; simp; omega), rfl⟩
set_option maxHeartbeats 2000000 in
set_option maxRecDepth 100000 in
theorem specTwoStages_any (w : World) {l h l' h' : Nat} (v : Value) (fs : List Int) (v' : Value) (ss : List Int) (hv : Ints w l h v fs) (hh : h ≤ w.heap.size) (hz : fs.length ≤ 1048576) (hv' : Ints w l' h' v' ss) (hh' : h' ≤ w.heap.size) (hz' : ss.length ≤ 1048576) :
    Calls Try.prog 41 #[v, v'] w fun e w' => ∃ r, e = .returned (.tuple #[r, .int .i64 (twoStages fs ss).2.1, .bool (twoStages fs ss).2.2]) ∧ OwnI w' w.heap.size w'.heap.size r (twoStages fs ss).1 ∧ Below w.heap.size w w' := by
  have HV := Lib.hid hv
  have HV' := Lib.hid hv'
  obtain ⟨fa, fc, rfl, fc1, fc2, fd⟩ := hv.out
  obtain ⟨sa, sc, rfl, sc1, sc2, sd⟩ := hv'.out
  clear hv hv'
  cases hf : okLongs fs
  · have HE := Lib.hid (show twoStages fs ss = ([], 0, false) by simp [twoStages, twoOk, hf])
    go_enter Try.func41, Try.ntmps41
    go_wp2_with (go_at_call 75; refine (l06Longs_any _ fs _ HV.out).mono ?_; rintro e w' ⟨rfl, rfl⟩)
    go_ret3
    exact ⟨_, by rw [HE.out]; rfl, by rw [HE.out]; exact OwnI.nil _ _ _ (Nat.le_refl _), Below.refl _ _⟩
  cases hs : okLongs ss
  · have HE := Lib.hid (show twoStages fs ss = ([], 0, false) by simp [twoStages, twoOk, hs])
    go_enter Try.func41, Try.ntmps41
    go_wp2_with fail
    refine (l06Longs_any _ fs _ HV.out).mono ?_
    rintro e w' ⟨rfl, rfl⟩
    rw [hf]
    go_wp2_with fail
    refine (l06Longs_any _ ss _ HV'.out).mono ?_
    rintro e w' ⟨rfl, rfl⟩
    rw [hs]
    go_wp2
    go_ret3
    exact ⟨_, by rw [HE.out]; rfl, by rw [HE.out]; exact OwnI.nil _ _ _ (Nat.le_refl _), Below.refl _ _⟩
  cases hle : decide (fs.length = ss.length)
  · have HE := Lib.hid (show twoStages fs ss = ([], 0, false) by simp [twoStages, twoOk, hle])
    have hne : ((fs.length : Int) != (ss.length : Int)) = true := by simp at hle ⊢; omega
    clear hle
    go_enter Try.func41, Try.ntmps41
    go_wp2_with fail
    refine (l06Longs_any _ fs _ HV.out).mono ?_
    rintro e w' ⟨rfl, rfl⟩
    rw [hf]
    go_wp2_with fail
    refine (l06Longs_any _ ss _ HV'.out).mono ?_
    rintro e w' ⟨rfl, rfl⟩
    rw [hs]
    go_wp2
    go_ret3
    exact ⟨_, by rw [HE.out]; rfl, by rw [HE.out]; exact OwnI.nil _ _ _ (Nat.le_refl _), Below.refl _ _⟩
  have hle' := of_decide_eq_true hle
  have HE := Lib.hid (show twoStages fs ss = (stageL fs ss, stageGo fs ss (stageL fs ss) 0 0, true) by simp [twoStages, twoOk, hf, hs, hle'])
  have hne : ((fs.length : Int) != (ss.length : Int)) = false := by simp [hle']
  have hF := okLongs_out hf
  have hS := okLongs_out hs
  have HF := Lib.hid hF.1
  have HS := Lib.hid hS.1
  have hn0 := hF.2.1
  have hn12 := hF.2.2
  have hls1 : fs.length ≤ ss.length := by omega
  have hls2 : ss.length ≤ fs.length := by omega
  rcases fd with fd | ⟨fb, fo, rfl, fb1, fb2, fb3, fcell⟩
  · rw [fd] at hn0; simp at hn0
  rcases sd with sd | ⟨sb, so, rfl, sb1, sb2, sb3, scell⟩
  · rw [sd] at hls1; simp only [List.length_nil] at hls1; omega
  have FC : Hid (∀ (wx : World) (j : Nat), Below w.heap.size w wx → j < fs.length → wx.cell? ⟨fb, fo + j, none⟩ = some (.int .i64 (fs.getD j 0))) := fun wx j hbx hj => by
    rw [hbx.cell (p := ⟨fb, fo + j, none⟩) (show fb < w.heap.size by omega)]; exact fcell j hj
  have SC : Hid (∀ (wx : World) (j : Nat), Below w.heap.size w wx → j < ss.length → wx.cell? ⟨sb, so + j, none⟩ = some (.int .i64 (ss.getD j 0))) := fun wx j hbx hj => by
    rw [hbx.cell (p := ⟨sb, so + j, none⟩) (show sb < w.heap.size by omega)]; exact scell j hj
  have h0 := emptySlice w
  clear hle hle' hF hS fcell scell
  go_enter Try.func41, Try.ntmps41
  go_wp2_with fail
  refine (l06Longs_any _ fs _ HV.out).mono ?_
  rintro e w' ⟨rfl, rfl⟩
  rw [hf]
  go_wp2_with fail
  refine (l06Longs_any _ ss _ HV'.out).mono ?_
  rintro e w' ⟨rfl, rfl⟩
  rw [hs]
  go_wp2
  clear hne hf hs
  go_loopw [7, 8] (fun kv i wr => ∃ k : Nat, k ≤ fs.length ∧ i = .int .i64 k ∧ OwnI wr w.heap.size wr.heap.size kv (stageKeys fs ss k) ∧ Below w.heap.size w wr) (fun _ i _ => fs.length - (intOf i).toNat)
  case atStart => exact ⟨0, Nat.zero_le _, rfl, by simpa [stageKeys] using h0, below_newW _ _⟩
  case round =>
    clear h0
    obtain ⟨k, hk, rfl, ho, hb⟩ := hrel
    have hsz := hb.size
    have HO := Lib.hid ho
    have hkl : (stageKeys fs ss k).length ≤ 12 := by rw [stageKeys_len]; omega
    clear ho
    by_cases hlt : k < fs.length
    · have HKS := Lib.hid (stageKeys_succ fs ss k)
      have hks : k < ss.length := by omega
      have c1 := FC.out wr k hb hlt
      have c2 := SC.out wr k hb hks
      have b1 := HF.out _ (getD_mem hlt)
      have b2 := HS.out _ (getD_mem hks)
      have HKE : Hid (stageKey fs ss k = if fs.getD k 0 ≤ ss.getD k 0 then fs.getD k 0 else 10000 - ss.getD k 0) := rfl
      generalize fs.getD k 0 = fk at *
      generalize ss.getD k 0 = sk at *
      obtain ⟨wu, hwu⟩ : ∃ wu : World, wu = wr := ⟨_, rfl⟩
      by_cases hq : fk ≤ sk
      · have HK : Hid (stageKey fs ss k = fk) := by rw [Hid, HKE.out, if_pos hq]
        go_wp2_with fail
        go_quiet (fail)
        have HOD := Lib.hid (HO.out.drewN nq)
        go_wp2_with (at_builtin; refine wpList_app1 rfl _ _ rfl _ (stageKeys fs ss k) rfl fk _ HOD.out rfl (by constructor <;> omega) (by omega) (show w.heap.size ≤ (wr.drewN nq).heap.size from hsz) ?_)
        intro v2 w3 ho2 hsm hz3 _
        have HO2 : Hid (OwnI w3 w.heap.size w3.heap.size v2 (stageKeys fs ss (k + 1))) := by rw [Hid, HKS.out, HK.out]; exact ho2
        clear ho2
        go_wp2
        go_roundw
        case rel => exact ⟨k + 1, by omega, by go_num, HO2.out, (hb.trans ((Drew.one wr nq).below _)).trans (hsm.below (Nat.le_refl _) hsz)⟩
        case measure => simp [intOf]; omega
      · have HK : Hid (stageKey fs ss k = 10000 - sk) := by rw [Hid, HKE.out, if_neg hq]
        go_wp2_with fail
        go_quiet (fail)
        have HOD := Lib.hid (HO.out.drewN nq)
        go_wp2_with (at_builtin; refine wpList_app1 rfl _ _ rfl _ (stageKeys fs ss k) rfl (10000 - sk) _ HOD.out rfl (by constructor <;> omega) (by omega) (show w.heap.size ≤ (wr.drewN nq).heap.size from hsz) ?_)
        intro v2 w3 ho2 hsm hz3 _
        have HO2 : Hid (OwnI w3 w.heap.size w3.heap.size v2 (stageKeys fs ss (k + 1))) := by rw [Hid, HKS.out, HK.out]; exact ho2
        clear ho2
        go_wp2
        go_roundw
        case rel => exact ⟨k + 1, by omega, by go_num, HO2.out, (hb.trans ((Drew.one wr nq).below _)).trans (hsm.below (Nat.le_refl _) hsz)⟩
        case measure => simp [intOf]; omega
    · obtain rfl : k = fs.length := by omega
      have HKL := Lib.hid (stageKeys_len fs ss fs.length)
      have HOD := Lib.hid (l06Order_any _ (stageKeys fs ss fs.length) wr HO.out.rd (Nat.le_refl _) (by omega))
      rw [HKL.out] at HOD
      have HSL : Hid (stageL fs ss = ordTo (keyLt (stageKeys fs ss fs.length)) fs.length) := rfl
      have hsl := ordTo_len (keyLt (stageKeys fs ss fs.length)) fs.length
      have HID := Lib.hid (ordTo_idx (keyLt (stageKeys fs ss fs.length)) fs.length)
      generalize ordTo (keyLt (stageKeys fs ss fs.length)) fs.length = S at *
      have hsl1 : S.length ≤ fs.length := by omega
      have hsl2 : fs.length ≤ S.length := by omega
      clear hsl
      go_wp2_with fail
      refine HOD.out.mono ?_
      rintro e w2 ⟨u, rfl, ho2, hb2⟩
      have hbw2 := hb.trans (hb2.mono hsz)
      have HO2 := Lib.hid ho2
      obtain ⟨oa, oc, e, oc1, oc2, od⟩ := ho2.rd.out
      subst e
      rcases od with od | ⟨ob, oo, rfl, ob1, ob2, ob3, ocell⟩
      · rw [od] at hsl2; simp only [List.length_nil] at hsl2; omega
      have OC := Lib.hid ocell
      clear ho2 ocell
      go_wp2_with fail
      go_loopw [10, 11, 12] (fun av bv i wr => ∃ (q : Nat) (one two : Int), q ≤ S.length ∧ i = .int .i64 q ∧ av = .int .i64 one ∧ bv = .int .i64 two ∧ 0 ≤ one ∧ one ≤ 1000 * (q : Int) ∧ 0 ≤ two ∧ two ≤ 2000 * (q : Int) ∧ Hid (stageGo fs ss (S.drop q) one two = stageGo fs ss S 0 0) ∧ Drew w2 wr) (fun _ _ i _ => S.length - (intOf i).toNat)
      case atStart => exact ⟨0, 0, 0, Nat.zero_le _, rfl, rfl, rfl, by omega, by omega, by omega, by omega, Lib.hid rfl, Drew.refl _⟩
      case round =>
        obtain ⟨q, one, two, hq, rfl, rfl, rfl, o1, o2, t1, t2, H, hD⟩ := hrel
        by_cases hql : q < S.length
        · have HD := Lib.hid (drop_cons S q hql)
          have hx := HID.out S[q] (List.getElem_mem _)
          obtain ⟨i, hi⟩ : ∃ i : Nat, S[q] = (i : Int) := ⟨S[q].toNat, by omega⟩
          have hif : i < fs.length := by omega
          have his : i < ss.length := by omega
          have hcq : wr.cell? ⟨ob, oo + q, none⟩ = some (.int .i64 (i : Int)) := by
            rw [hD.cell]; have := OC.out q hql; rw [this]; simp [List.getD, hql, hi]
          have hbx := hbw2.trans (hD.below w.heap.size)
          have c1 := FC.out wr i hbx hif
          have c2 := SC.out wr i hbx his
          have b1 := HF.out _ (getD_mem hif)
          have b2 := HS.out _ (getD_mem his)
          have HST : Hid (stageGo fs ss (S.drop q) one two = stageGo fs ss (S.drop (q + 1)) (one + fs.getD i 0) (max (one + fs.getD i 0) two + ss.getD i 0)) := by
            rw [Hid, HD.out, stageGo, hi, Int.toNat_natCast]
          generalize fs.getD i 0 = fi at *
          generalize ss.getD i 0 = si at *
          clear hx hi hbx
          have hmx1 : max (one + fi) two ≤ 2000 * (q : Int) + 1000 := by omega
          have hmx2 : 0 ≤ max (one + fi) two := by omega
          have hmw : IntKind.i64.wrap (max (one + fi) two + si) = max (one + fi) two + si := IntWalk.i64_in _ (by omega)
          go_wp2_with fail
          go_quiet ((go_at_call 48; exact quiet_same (l00Max_any _ _ _)))
          clear hmw
          go_wp2
          go_roundw
          case rel => exact ⟨q + 1, _, _, by omega, by go_num, rfl, rfl, by omega, by omega, by omega, by omega, Lib.hid (by rw [← H.out, HST.out]), hD.step _⟩
          case measure => simp [intOf]; omega
        · obtain rfl : q = S.length := by omega
          have hres : two = stageGo fs ss S 0 0 := by rw [← H.out, drop_len _ _ (Nat.le_refl _)]; rfl
          have HRES := Lib.hid hres
          clear hres
          go_wp2
          go_ret3
          exact ⟨_, by rw [HE.out, HSL.out, ← HRES.out]; rfl, by rw [HE.out, HSL.out]; exact (HO2.out.drew hD).mono hsz (by rw [hD.heap]; exact Nat.le_refl _) (Nat.le_refl _), hbw2.trans (hD.below _)⟩
set_option maxHeartbeats 800000 in
set_option maxRecDepth 100000 in
theorem stageCmp_any {l h l' h' p q : Nat} (v : Value) (fs : List Int) (v' : Value) (ss : List Int) (w : World) (hp : w.cell? ⟨p, 0, none⟩ = some v) (hp' : w.cell? ⟨q, 0, none⟩ = some v') (hv : Ints w l h v fs) (hv' : Ints w l' h' v' ss) (hl : fs.length = ss.length) (a b : Int) (ha : 0 ≤ a) (ha2 : a < (fs.length : Int)) (hb : 0 ≤ b) (hb2 : b < (fs.length : Int)) (hz : fs.length ≤ 1048576) :
    Calls Try.prog 78 #[.int .i64 a, .int .i64 b, .pointer (some ⟨p, 0, none⟩), .pointer (some ⟨q, 0, none⟩)] w fun e w' => e = .returned (.int .i64 (stageCmp fs ss a b)) ∧ Drew w w' := by
  obtain ⟨an, rfl⟩ : ∃ an : Nat, a = (an : Int) := ⟨a.toNat, by omega⟩
  obtain ⟨bn, rfl⟩ : ∃ bn : Nat, b = (bn : Int) := ⟨b.toNat, by omega⟩
  have h1 : an < fs.length := by omega
  have h2 : bn < fs.length := by omega
  have h3 : an < ss.length := by omega
  have h4 : bn < ss.length := by omega
  have hl1 : fs.length ≤ ss.length := by omega
  have hl2 : ss.length ≤ fs.length := by omega
  clear hl
  obtain ⟨va, cap, rfl, hc1, hc2, hd⟩ := hv.out
  obtain ⟨sa, scap, rfl, sc1, sc2, sd⟩ := hv'.out
  rcases hd with hd | ⟨blk, off, rfl, hb1, hbb2, hb3, hcell⟩
  · rw [hd] at h1; simp at h1
  rcases sd with sd | ⟨sbk, so, rfl, sb1, sb2, sb3, scell⟩
  · rw [sd] at h3; simp at h3
  have ca := hcell an h1
  have cb := hcell bn h2
  have da := scell an h3
  have db := scell bn h4
  clear hcell scell
  have HE : Hid (stageCmp fs ss (an : Int) (bn : Int) = if fs.getD an 0 ≤ ss.getD an 0 then
    if fs.getD bn 0 ≤ ss.getD bn 0 then cmpI (fs.getD an 0) (fs.getD bn 0) else -1
  else if fs.getD bn 0 ≤ ss.getD bn 0 then 1 else cmpI (ss.getD bn 0) (ss.getD an 0)) := by
    rw [Hid, stageCmp, Int.toNat_natCast, Int.toNat_natCast]
  clear hv hv'
  have e1 : fs[an] = fs.getD an 0 := by simp [List.getD, h1]
  have e2 : fs[bn] = fs.getD bn 0 := by simp [List.getD, h2]
  have e3 : ss[an] = ss.getD an 0 := by simp [List.getD, h3]
  have e4 : ss[bn] = ss.getD bn 0 := by simp [List.getD, h4]
  generalize fs.getD an 0 = fx at *
  generalize fs.getD bn 0 = fy at *
  generalize ss.getD an 0 = sx at *
  generalize ss.getD bn 0 = sy at *
  try rw [e1] at ca
  try rw [e2] at cb
  try rw [e3] at da
  try rw [e4] at db
  clear e1 e2 e3 e4
  by_cases c1 : fx ≤ sx <;> by_cases c2 : fy ≤ sy
  · have HR : Hid (stageCmp fs ss (an : Int) (bn : Int) = cmpI fx fy) := by rw [Hid, HE.out, if_pos c1, if_pos c2]
    clear HE
    go_enter Try.func78, Try.ntmps78
    go_wp2_with fail
    go_quiet (fail)
    obtain ⟨w1, hw1⟩ : ∃ w1, w1 = w.drewN nq := ⟨_, rfl⟩
    rw [← hw1]
    have hD1 : Drew w w1 := by rw [hw1]; exact Drew.one _ _
    have k0 : w1.cell? ⟨p, 0, none⟩ = some (.slice (some ⟨blk, off, none⟩) fs.length cap) := by rw [hw1]; exact hp
    have k1 : w1.cell? ⟨q, 0, none⟩ = some (.slice (some ⟨sbk, so, none⟩) ss.length scap) := by rw [hw1]; exact hp'
    have k2 : w1.cell? ⟨blk, off + an, none⟩ = some (.int .i64 fx) := by rw [hw1]; exact ca
    have k3 : w1.cell? ⟨blk, off + bn, none⟩ = some (.int .i64 fy) := by rw [hw1]; exact cb
    have k4 : w1.cell? ⟨sbk, so + an, none⟩ = some (.int .i64 sx) := by rw [hw1]; exact da
    have k5 : w1.cell? ⟨sbk, so + bn, none⟩ = some (.int .i64 sy) := by rw [hw1]; exact db
    clear hw1
    go_wp2_with fail
    go_quiet ((go_at_call 79; exact quiet_same (compare_any _ _ _)))
    go_wp2
    go_ret
    exact ⟨ret_int HR.out.symm, hD1.step _⟩
  · have HR : Hid (stageCmp fs ss (an : Int) (bn : Int) = -1) := by rw [Hid, HE.out, if_pos c1, if_neg c2]
    clear HE
    go_enter Try.func78, Try.ntmps78
    go_wp2_with fail
    go_quiet (fail)
    go_wp2
    go_ret
    exact ⟨ret_int HR.out.symm, Drew.one _ _⟩
  · have HR : Hid (stageCmp fs ss (an : Int) (bn : Int) = 1) := by rw [Hid, HE.out, if_neg c1, if_pos c2]
    clear HE
    go_enter Try.func78, Try.ntmps78
    go_wp2_with fail
    go_quiet (fail)
    go_wp2
    go_ret
    exact ⟨ret_int HR.out.symm, Drew.one _ _⟩
  · have HR : Hid (stageCmp fs ss (an : Int) (bn : Int) = cmpI sy sx) := by rw [Hid, HE.out, if_neg c1, if_neg c2]
    clear HE
    go_enter Try.func78, Try.ntmps78
    go_wp2_with fail
    go_quiet (fail)
    obtain ⟨w1, hw1⟩ : ∃ w1, w1 = w.drewN nq := ⟨_, rfl⟩
    rw [← hw1]
    have hD1 : Drew w w1 := by rw [hw1]; exact Drew.one _ _
    have k0 : w1.cell? ⟨p, 0, none⟩ = some (.slice (some ⟨blk, off, none⟩) fs.length cap) := by rw [hw1]; exact hp
    have k1 : w1.cell? ⟨q, 0, none⟩ = some (.slice (some ⟨sbk, so, none⟩) ss.length scap) := by rw [hw1]; exact hp'
    have k2 : w1.cell? ⟨blk, off + an, none⟩ = some (.int .i64 fx) := by rw [hw1]; exact ca
    have k3 : w1.cell? ⟨blk, off + bn, none⟩ = some (.int .i64 fy) := by rw [hw1]; exact cb
    have k4 : w1.cell? ⟨sbk, so + an, none⟩ = some (.int .i64 sx) := by rw [hw1]; exact da
    have k5 : w1.cell? ⟨sbk, so + bn, none⟩ = some (.int .i64 sy) := by rw [hw1]; exact db
    clear hw1
    go_wp2_with fail
    go_quiet ((go_at_call 79; exact quiet_same (compare_any _ _ _)))
    go_wp2
    go_ret
    exact ⟨ret_int HR.out.symm, hD1.step _⟩
set_option maxHeartbeats 2000000 in
set_option maxRecDepth 100000 in
theorem implTwoStages_any (w : World) {l h l' h' : Nat} (v : Value) (fs : List Int) (v' : Value) (ss : List Int) (hv : Ints w l h v fs) (hh : h ≤ w.heap.size) (hz : fs.length ≤ 1048576) (hv' : Ints w l' h' v' ss) (hh' : h' ≤ w.heap.size) (hz' : ss.length ≤ 1048576) :
    Calls Try.prog 42 #[v, v'] w fun e w' => ∃ r, e = .returned (.tuple #[r, .int .i64 (twoStages fs ss).2.1, .bool (twoStages fs ss).2.2]) ∧ OwnI w' w.heap.size w'.heap.size r (twoStages fs ss).1 ∧ Below w.heap.size w w' := by
  have hvk := hv
  have hvk' := hv'
  obtain ⟨fa, fc, rfl, fc1, fc2, fd⟩ := hv.out
  obtain ⟨sa, sc, rfl, sc1, sc2, sd⟩ := hv'.out
  obtain ⟨W1, hW1⟩ : ∃ W, W = w.alloc (.cells #[.slice fa fs.length fc] 30) := ⟨_, rfl⟩
  obtain ⟨W, hW⟩ : ∃ W, W = W1.alloc (.cells #[.slice sa ss.length sc] 30) := ⟨_, rfl⟩
  have hs1 : W1.heap.size = w.heap.size + 1 := by rw [hW1]; simp
  have hsW : W.heap.size = w.heap.size + 2 := by rw [hW]; simp [hs1]
  have hB1 : Below w.heap.size w W1 := by rw [hW1]; exact alloc_belowS _ _
  have hB2 : Below W1.heap.size W1 W := by rw [hW]; exact alloc_belowS _ _
  have hBW : Below w.heap.size w W := hB1.trans (hB2.mono (by omega))
  have q0 : W.cell? ⟨w.heap.size, 0, none⟩ = some (.slice fa fs.length fc) := by
    rw [hB2.cell (p := ⟨w.heap.size, 0, none⟩) (show w.heap.size < W1.heap.size by omega), hW1]; exact one_new _ _ _
  have q1 : W.cell? ⟨w.heap.size + 1, 0, none⟩ = some (.slice sa ss.length sc) := by rw [hW, ← hs1]; exact one_new _ _ _
  have HF := Lib.hid (hvk.below hBW hh)
  have HS := Lib.hid (hvk'.below hBW hh')
  have hsa : w.heap.size + 1 < W.heap.size := by omega
  clear hv hv' hvk hvk' hB1 hB2 hsW
  cases hA : inB 1 12 (fs.length : Int)
  · have HE := Lib.hid (show twoStages fs ss = ([], 0, false) by simp [twoStages, twoOk, okLongs, hA])
    go_enter Try.func42, Try.ntmps42
    go_wp2_with fail
    rw [← hW1, ← hW]
    clear hW hW1
    go_wp2_with fail
    refine (size_any _ (by omega) _).mono ?_
    rintro e w' ⟨rfl, rfl⟩
    go_wp2_with fail
    refine (within_any _ _ _ _).mono ?_
    rintro e w' ⟨rfl, rfl⟩
    rw [hA]
    go_wp2
    go_ret3
    exact ⟨_, by rw [HE.out]; rfl, by rw [HE.out]; exact OwnI.nil _ _ _ (Nat.le_refl _), hBW⟩
  cases hle : decide (fs.length = ss.length)
  · have HE := Lib.hid (show twoStages fs ss = ([], 0, false) by simp [twoStages, twoOk, hle])
    have hne : ((ss.length : Int) != (fs.length : Int)) = true := by simp at hle ⊢; omega
    clear hle
    go_enter Try.func42, Try.ntmps42
    go_wp2_with fail
    rw [← hW1, ← hW]
    clear hW hW1
    go_wp2_with fail
    refine (size_any _ (by omega) _).mono ?_
    rintro e w' ⟨rfl, rfl⟩
    go_wp2_with fail
    refine (within_any _ _ _ _).mono ?_
    rintro e w' ⟨rfl, rfl⟩
    rw [hA]
    go_wp2
    go_ret3
    exact ⟨_, by rw [HE.out]; rfl, by rw [HE.out]; exact OwnI.nil _ _ _ (Nat.le_refl _), hBW⟩
  have hle' := of_decide_eq_true hle
  have HLE := Lib.hid hle'
  have hne : ((ss.length : Int) != (fs.length : Int)) = false := by simp [hle']
  clear hle hle'
  cases hf : fs.all (inB 1 1000)
  · have HE := Lib.hid (show twoStages fs ss = ([], 0, false) by simp [twoStages, twoOk, okLongs, hf])
    go_enter Try.func42, Try.ntmps42
    go_wp2_with fail
    rw [← hW1, ← hW]
    clear hW hW1
    go_wp2_with fail
    refine (size_any _ (by omega) _).mono ?_
    rintro e w' ⟨rfl, rfl⟩
    go_wp2_with fail
    refine (within_any _ _ _ _).mono ?_
    rintro e w' ⟨rfl, rfl⟩
    rw [hA]
    go_wp2_with fail
    refine (allWithin_any _ _ _ fs _ _ _ HF.out).mono ?_
    rintro e w' ⟨rfl, rfl⟩
    rw [hf]
    go_wp2
    go_ret3
    exact ⟨_, by rw [HE.out]; rfl, by rw [HE.out]; exact OwnI.nil _ _ _ (Nat.le_refl _), hBW⟩
  cases hs : ss.all (inB 1 1000)
  · have HE := Lib.hid (show twoStages fs ss = ([], 0, false) by simp [twoStages, twoOk, okLongs, hs])
    go_enter Try.func42, Try.ntmps42
    go_wp2_with fail
    rw [← hW1, ← hW]
    clear hW hW1
    go_wp2_with fail
    refine (size_any _ (by omega) _).mono ?_
    rintro e w' ⟨rfl, rfl⟩
    go_wp2_with fail
    refine (within_any _ _ _ _).mono ?_
    rintro e w' ⟨rfl, rfl⟩
    rw [hA]
    go_wp2_with fail
    refine (allWithin_any _ _ _ fs _ _ _ HF.out).mono ?_
    rintro e w' ⟨rfl, rfl⟩
    rw [hf]
    go_wp2_with fail
    refine (allWithin_any _ _ _ ss _ _ _ HS.out).mono ?_
    rintro e w' ⟨rfl, rfl⟩
    rw [hs]
    go_wp2
    go_ret3
    exact ⟨_, by rw [HE.out]; rfl, by rw [HE.out]; exact OwnI.nil _ _ _ (Nat.le_refl _), hBW⟩
  have hfl : okLongs fs = true := by simp [okLongs, hf, hA]
  have hsl : okLongs ss = true := by rw [okLongs, ← HLE.out, hs, hA]; rfl
  have HE := Lib.hid (show twoStages fs ss = (stageL fs ss, stageGo fs ss (stageL fs ss) 0 0, true) by simp [twoStages, twoOk, hfl, hsl, HLE.out])
  have hF := okLongs_out hfl
  have hS := okLongs_out hsl
  have HFB := Lib.hid hF.1
  have HSB := Lib.hid hS.1
  have hn0 := hF.2.1
  have hn12 := hF.2.2
  have hls1 : fs.length ≤ ss.length := by rw [HLE.out]; exact Nat.le_refl _
  have hls2 : ss.length ≤ fs.length := by rw [HLE.out]; exact Nat.le_refl _
  have HLT := Lib.hid (stage_lt hF.1 hS.1 HLE.out)
  have HO := Lib.hid (orderBy_any 78 (fun _ _ => by kernel_rfl) #[.pointer (some ⟨w.heap.size, 0, none⟩), .pointer (some ⟨w.heap.size + 1, 0, none⟩)] (stageCmp fs ss) (n := fs.length) W hn0 (by omega) (fun wx hbw a b h1 h2 h3 h4 => by
    have hc : wx.cell? ⟨w.heap.size, 0, none⟩ = some (.slice fa fs.length fc) := by rw [hbw.cell (p := ⟨w.heap.size, 0, none⟩) (show w.heap.size < W.heap.size by omega)]; exact q0
    have hc' : wx.cell? ⟨w.heap.size + 1, 0, none⟩ = some (.slice sa ss.length sc) := by rw [hbw.cell (p := ⟨w.heap.size + 1, 0, none⟩) hsa]; exact q1
    exact stageCmp_any _ fs _ ss wx hc hc' (HF.out.below hbw (by omega)) (HS.out.below hbw (by omega)) HLE.out a b h1 h2 h3 h4 (by omega)))
  rw [ordTo_congr HLT.out fs.length (Nat.le_refl _)] at HO
  rcases fd with fd | ⟨fb, fo, rfl, fb1, fb2, fb3, fcell⟩
  · rw [fd] at hn0; simp at hn0
  rcases sd with sd | ⟨sb, so, rfl, sb1, sb2, sb3, scell⟩
  · rw [sd] at hls1; simp only [List.length_nil] at hls1; omega
  have FC : Hid (∀ (wx : World) (j : Nat), Below w.heap.size w wx → j < fs.length → wx.cell? ⟨fb, fo + j, none⟩ = some (.int .i64 (fs.getD j 0))) := fun wx j hbx hj => by
    rw [hbx.cell (p := ⟨fb, fo + j, none⟩) (show fb < w.heap.size by omega)]; exact fcell j hj
  have SC : Hid (∀ (wx : World) (j : Nat), Below w.heap.size w wx → j < ss.length → wx.cell? ⟨sb, so + j, none⟩ = some (.int .i64 (ss.getD j 0))) := fun wx j hbx hj => by
    rw [hbx.cell (p := ⟨sb, so + j, none⟩) (show sb < w.heap.size by omega)]; exact scell j hj
  have HSL : Hid (stageL fs ss = ordTo (keyLt (stageKeys fs ss fs.length)) fs.length) := rfl
  have hslx := ordTo_len (keyLt (stageKeys fs ss fs.length)) fs.length
  have HID := Lib.hid (ordTo_idx (keyLt (stageKeys fs ss fs.length)) fs.length)
  generalize ordTo (keyLt (stageKeys fs ss fs.length)) fs.length = S at *
  have hsl1 : S.length ≤ fs.length := by omega
  have hsl2 : fs.length ≤ S.length := by omega
  have Q0 := Lib.hid q0
  have Q1 := Lib.hid q1
  clear hslx hF hS fcell scell hfl hsl HLT
  go_enter Try.func42, Try.ntmps42
  go_wp2_with fail
  rw [← hW1, ← hW]
  clear hW hW1
  go_wp2_with fail
  refine (size_any _ (by omega) _).mono ?_
  rintro e w' ⟨rfl, rfl⟩
  go_wp2_with fail
  refine (within_any _ _ _ _).mono ?_
  rintro e w' ⟨rfl, rfl⟩
  rw [hA]
  go_wp2_with fail
  refine (allWithin_any _ _ _ fs _ _ _ HF.out).mono ?_
  rintro e w' ⟨rfl, rfl⟩
  rw [hf]
  go_wp2_with fail
  refine (allWithin_any _ _ _ ss _ _ _ HS.out).mono ?_
  rintro e w' ⟨rfl, rfl⟩
  rw [hs]
  go_wp2_with fail
  refine HO.out.mono ?_
  rintro e w2 ⟨u, rfl, ho2, hb2⟩
  have hbw2 := hBW.trans (hb2.mono (by omega))
  have p0 : w2.cell? ⟨w.heap.size, 0, none⟩ = some (.slice (some ⟨fb, fo, none⟩) fs.length fc) := by rw [hb2.cell (p := ⟨w.heap.size, 0, none⟩) (show w.heap.size < W.heap.size by omega)]; exact Q0.out
  have p1 : w2.cell? ⟨w.heap.size + 1, 0, none⟩ = some (.slice (some ⟨sb, so, none⟩) ss.length sc) := by rw [hb2.cell (p := ⟨w.heap.size + 1, 0, none⟩) hsa]; exact Q1.out
  have HO2 := Lib.hid ho2
  obtain ⟨oa, oc, e, oc1, oc2, od⟩ := ho2.rd.out
  subst e
  rcases od with od | ⟨ob, oo, rfl, ob1, ob2, ob3, ocell⟩
  · rw [od] at hsl2; simp only [List.length_nil] at hsl2; omega
  have OC := Lib.hid ocell
  clear ho2 ocell q0 q1 HO hne hA hf hs hs1
  go_wp2_with fail
  go_loop [8, 9, 40] (fun av bv i => ∃ (q : Nat) (one two : Int), q ≤ S.length ∧ i = .int .i64 q ∧ av = .int .i64 one ∧ bv = .int .i64 two ∧ 0 ≤ one ∧ one ≤ 1000 * (q : Int) ∧ 0 ≤ two ∧ two ≤ 2000 * (q : Int) ∧ Hid (stageGo fs ss (S.drop q) one two = stageGo fs ss S 0 0)) (fun _ _ i => S.length - (intOf i).toNat)
  case atStart => exact ⟨0, 0, 0, Nat.zero_le _, rfl, rfl, rfl, by omega, by omega, by omega, by omega, Lib.hid rfl⟩
  case round =>
    obtain ⟨q, one, two, hq, rfl, rfl, rfl, o1, o2, t1, t2, H⟩ := hrel
    by_cases hql : q < S.length
    · have HD := Lib.hid (drop_cons S q hql)
      have hx := HID.out S[q] (List.getElem_mem _)
      obtain ⟨i, hi⟩ : ∃ i : Nat, S[q] = (i : Int) := ⟨S[q].toNat, by omega⟩
      have hif : i < fs.length := by omega
      have his : i < ss.length := by omega
      have hcq : w2.cell? ⟨ob, oo + q, none⟩ = some (.int .i64 (i : Int)) := by
        have := OC.out q hql; rw [this]; simp [List.getD, hql, hi]
      have c1 := FC.out w2 i hbw2 hif
      have c2 := SC.out w2 i hbw2 his
      have b1 := HFB.out _ (getD_mem hif)
      have b2 := HSB.out _ (getD_mem his)
      have HST : Hid (stageGo fs ss (S.drop q) one two = stageGo fs ss (S.drop (q + 1)) (one + fs.getD i 0) (max (one + fs.getD i 0) two + ss.getD i 0)) := by
        rw [Hid, HD.out, stageGo, hi, Int.toNat_natCast]
      generalize fs.getD i 0 = fi at *
      generalize ss.getD i 0 = si at *
      clear hx hi
      by_cases hmx : one + fi ≤ two
      · have HM : Hid (max (one + fi) two = two) := by rw [Hid]; omega
        go_wp2
        go_round
        case rel => exact ⟨q + 1, one + fi, two + si, by omega, by go_num, by go_num, by go_num, by omega, by omega, by omega, by omega, Lib.hid (by rw [← H.out, HST.out, HM.out])⟩
        case measure => simp [intOf]; omega
      · have HM : Hid (max (one + fi) two = one + fi) := by rw [Hid]; omega
        go_wp2
        go_round
        case rel => exact ⟨q + 1, one + fi, (one + fi) + si, by omega, by go_num, by go_num, by go_num, by omega, by omega, by omega, by omega, Lib.hid (by rw [← H.out, HST.out, HM.out])⟩
        case measure => simp [intOf]; omega
    · obtain rfl : q = S.length := by omega
      have hres : two = stageGo fs ss S 0 0 := by rw [← H.out, drop_len _ _ (Nat.le_refl _)]; rfl
      have HRES := Lib.hid hres
      clear hres
      go_wp2
      go_ret3
      exact ⟨_, by rw [HE.out, HSL.out, ← HRES.out]; rfl, by rw [HE.out, HSL.out]; exact HO2.out.mono (by omega) (Nat.le_refl _) (Nat.le_refl _), hbw2⟩
end Go.Proofs.Ytgbomnhidfejbaa
