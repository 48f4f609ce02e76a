/-
  FnPacks: the best gains, the best pack and its bound, in the program.
-/
import Derived.Test.YtkankfdpodofjaaPackT
import Derived.Test.YtkankfdpodofjaaDigI
namespace Go.Proofs.Ytkankfdpodofjaa
open Go.RowKit
set_option linter.unusedVariables false
set_option maxRecDepth 100000

theorem Ints.seen {w : World} {l h n : Nat} {v : Value} {zs : List Int} (hv : Ints w l h v zs) (hh : h ≤ w.heap.size) (hl : zs.length = n) (h1 : 1 ≤ n) :
    ∃ b off cap, v = .slice (some ⟨b, off, none⟩) n cap ∧ n ≤ cap ∧ cap ≤ 9223372036854775807 ∧ b < w.heap.size ∧ Hid (∀ (wx : World) (j : Nat), Below w.heap.size w wx → j < n → wx.cell? ⟨b, off + j, none⟩ = some (.int .i64 (zs.getD j 0))) := by
  obtain ⟨va, vc, rfl, hc1, hc2, hd⟩ := hv.out
  subst hl
  rcases hd with hd | ⟨b, off, rfl, hb1, hb2, hb3, hcell⟩
  · exfalso; rw [hd] at h1; simp at h1
  · exact ⟨b, off, vc, rfl, hc1, hc2, by omega, fun wx j hbx hj => by rw [hbx.cell (p := ⟨b, off + j, none⟩) (show b < w.heap.size by omega)]; exact hcell j hj⟩
theorem tabs_read {w : World} {lo n R : Nat} {u : Value} {ss gs : List Int} (h : OwnII w lo w.heap.size u (tabs ss gs R n)) :
    ∃ ob oo oc, u = .slice (some ⟨ob, oo, none⟩) (n + 1) oc ∧ n + 1 ≤ oc ∧ oc ≤ 9223372036854775807 ∧ ob < w.heap.size ∧
      ∀ i, i ≤ n → ∃ ib io ic, R + 1 ≤ ic ∧ ic ≤ 9223372036854775807 ∧ Ints w lo w.heap.size (.slice (some ⟨ib, io, none⟩) (R + 1) ic) (tabRow ss gs R i) ∧ Hid (∀ wx, Below w.heap.size w wx → wx.cell? ⟨ob, oo + i, none⟩ = some (.slice (some ⟨ib, io, none⟩) (R + 1) ic)) ∧ Hid (∀ wx r, Below w.heap.size w wx → r ≤ R → wx.cell? ⟨ib, io + r, none⟩ = some (.int .i64 (tab ss gs i r))) := by
  have htl := tabs_len ss gs R n
  obtain ⟨oa, oc, V, rfl, oc1, oc2, hV, hcase⟩ := h.rd.out
  rw [htl] at oc1
  rcases hcase with hcase | ⟨ob, oo, rfl, ob1, ob2, ob3, ocell⟩
  · exfalso; rw [hcase] at htl; simp at htl
  refine ⟨ob, oo, oc, by rw [htl], oc1, oc2, ob2, fun i hi => ?_⟩
  have hVi := hV i (by omega)
  rw [tabs_at] at hVi
  have hoc := ocell i (by omega)
  obtain ⟨ia, ic, hve, ic1, ic2, hid⟩ := hVi.out
  rw [tabRow_len] at hve ic1 hid
  rcases hid with hid | ⟨ib, io, rfl, ib1, ib2, ib3, icell⟩
  · exfalso; have := tabRow_len ss gs R i; rw [hid] at this; simp at this
  rw [hve] at hoc hVi
  refine ⟨ib, io, ic, ic1, ic2, hVi, fun wx hb => ?_, fun wx r hb hr => ?_⟩
  · rw [hb.cell (p := ⟨ob, oo + i, none⟩) ob2]; exact hoc
  · rw [hb.cell (p := ⟨ib, io + r, none⟩) ib2]
    have := icell r (by omega)
    rw [tabRow_at _ _ hr] at this
    exact this
theorem tab_pos {n R : Nat} {ss gs : List Int} (H : PkH n R ss gs) : 1 ≤ tab ss gs n R := by
  have h1 := H.n1
  have hr := H.r1
  have hs := H.sAt (show 0 < n by omega)
  have hg := H.gAt (show 0 < n by omega)
  have h0 : 1 ≤ tab ss gs 1 R := by
    rw [tab, if_pos (by omega)]
    simp only [tab]
    omega
  have : ∀ k, 1 ≤ tab ss gs (1 + k) R := by
    intro k
    induction k with
    | zero => exact h0
    | succ k ih => have := tab_up (ss := ss) (gs := gs) (1 + k) R; rw [← Nat.add_assoc]; omega
  have h2 := this (n - 1)
  rw [show 1 + (n - 1) = n by omega] at h2
  exact h2
theorem implBestGains_any (w : World) {l h l' h' n R : Nat} (v : Value) (ss : List Int) (v' : Value) (gs : List Int) (hv : Ints w l h v ss) (hh : h ≤ w.heap.size) (hv' : Ints w l' h' v' gs) (hh' : h' ≤ w.heap.size) (H : PkH n R ss gs) :
    Calls Try.prog 15 #[v, v', .int .i64 R] w fun e w' => ∃ u, e = .returned (.tuple #[u, .bool true]) ∧ Ints w' w.heap.size w'.heap.size u (tabRow ss gs R n) ∧ Below w.heap.size w w' := by
  have h1 := H.n1
  have h7 := H.n7
  have HG := Lib.hid (gainTables_any w v ss v' gs hv hh hv' hh' H)
  have HA := Lib.hid (arePacks_any _ _ ss gs R w hv (by have := H.ls; omega) hv')
  have hok := H.ok
  obtain ⟨b, off, cap, rfl, hc1, hc2, hb, SC⟩ := hv.seen hh H.ls h1
  obtain ⟨gb, goff, gcap, rfl, gc1, gc2, ghb, GC⟩ := hv'.seen hh' H.lg h1
  clear hv hv' H
  go_enter Try.func15, Try.ntmps15
  go_wp2_with fail
  refine HA.out.mono ?_
  rintro e w' ⟨rfl, rfl⟩
  rw [hok]
  go_wp2_with fail
  refine HG.out.mono ?_
  rintro e w2 ⟨u, rfl, ho2, hb2⟩
  obtain ⟨ob, oo, oc, rfl, oc1, oc2, ohb, HT⟩ := tabs_read ho2
  obtain ⟨ib, io, ic, ic1, ic2, hin, ci, cr⟩ := HT n (Nat.le_refl _)
  have HIN := Lib.hid hin
  have HB2 := Lib.hid hb2
  have c1 := ci.out w2 (Below.refl _ _)
  have zn : (n : Int) < ((n + 1 : Nat) : Int) := by omega
  clear HT ci cr hin ho2 hb2
  go_wp2
  go_ret2
  exact ⟨_, rfl, HIN.out, HB2.out⟩
set_option maxHeartbeats 4000000 in
set_option maxRecDepth 100000 in
theorem implBestPack_any (w : World) {l h l' h' n R : Nat} (v : Value) (ss : List Int) (v' : Value) (gs : List Int) (hv : Ints w l h v ss) (hh : h ≤ w.heap.size) (hv' : Ints w l' h' v' gs) (hh' : h' ≤ w.heap.size) (H : PkH n R ss gs) :
    Calls Try.prog 16 #[v, v', .int .i64 R] w fun e w' => ∃ u, e = .returned (.tuple #[u, .int .i64 (tab ss gs n R), .bool true]) ∧ OwnI w' w.heap.size w'.heap.size u (backGo ss gs n R).reverse ∧ Below w.heap.size w w' := by
  have h1 := H.n1
  have h7 := H.n7
  have hr1 := H.r1
  have hr2 := H.r2
  have HP := Lib.hid H
  have HG := Lib.hid (gainTables_any w v ss v' gs hv hh hv' hh' H)
  have HA := Lib.hid (arePacks_any _ _ ss gs R w hv (by have := H.ls; omega) hv')
  have hok := H.ok
  obtain ⟨b, off, cap, rfl, hc1, hc2, hb, SC⟩ := hv.seen hh H.ls h1
  obtain ⟨gb, goff, gcap, rfl, gc1, gc2, ghb, GC⟩ := hv'.seen hh' H.lg h1
  clear hv hv' H
  go_enter Try.func16, Try.ntmps16
  go_wp2_with fail
  refine HA.out.mono ?_
  rintro e w' ⟨rfl, rfl⟩
  rw [hok]
  go_wp2_with fail
  refine HG.out.mono ?_
  rintro e w2 ⟨u, rfl, ho2, hb2⟩
  obtain ⟨ob, oo, oc, rfl, oc1, oc2, ohb, hT⟩ := tabs_read ho2
  have HT := Lib.hid hT
  obtain ⟨ib, io, ic, ic1, ic2, hin, ci, cr⟩ := hT n (Nat.le_refl _)
  have HB2 := Lib.hid hb2
  have hs2 := hb2.size
  have c1 := ci.out w2 (Below.refl _ _)
  have c2 := cr.out w2 R (Below.refl _ _) (Nat.le_refl _)
  have zn : (n : Int) < ((n + 1 : Nat) : Int) := by omega
  have zR : (R : Int) < ((R + 1 : Nat) : Int) := by omega
  have HTP := Lib.hid (tab_pos HP.out)
  obtain ⟨M, hM⟩ : ∃ M, M = tab ss gs n R := ⟨_, rfl⟩
  rw [← hM] at c2
  have HM := Lib.hid hM
  have zn1 : ((n - 1 : Nat) : Int) = (n : Int) - 1 := by omega
  clear hT ci cr hin ho2 hb2 hM
  go_wp2_with fail
  clear c1 c2
  go_loopw [2, 11, 12] (fun rv sv iv wr => ∃ (k rr : Nat) (x : Int) (T : List Int), k ≤ n ∧ rr ≤ R ∧ x = (k : Int) - 1 ∧ iv = .int .i64 x ∧ rv = .int .i64 rr ∧ T.length + k ≤ n ∧ Hid (T ++ backGo ss gs k rr = backGo ss gs n R) ∧ OwnI wr w2.heap.size wr.heap.size sv T ∧ Below w2.heap.size w2 wr) (fun _ _ iv _ => (intOf iv + 1).toNat)
  case atStart => exact ⟨n, R, (n : Int) - 1, [], Nat.le_refl _, Nat.le_refl _, rfl, rfl, rfl, by simp, rfl, OwnI.nil _ _ _ (Nat.le_refl _), Below.refl _ _⟩
  case round =>
    obtain ⟨k, rr, x, T, hk, hrr, hx, rfl, rfl, htl, HE, ho, hb'⟩ := hrel
    have HO := Lib.hid ho
    have HBW := Lib.hid hb'
    have hs := hb'.size
    by_cases hk0 : k = 0
    · subst hk0
      have hx0 : x < 0 := by omega
      have hx1 : ¬ (0 ≤ x) := by omega
      clear hx
      have hT0 : T = backGo ss gs n R := by have := HE.out; rw [backGo, List.append_nil] at this; exact this
      rcases ho.rowOf with ⟨_, e⟩ | ⟨g, gc, rfl, hg1, hg2, hg3, hrow⟩
      · exfalso
        have e1 := (back_pack (gs := gs) (fun i => (HP.out.s0 i).1) n R).2.2.1
        rw [← hT0, e] at e1
        have := HTP.out
        simp [lSum] at e1; omega
      have hgl := hrow.lt
      have hge := hrow.ge
      have HRV := Lib.hid (reverse_any _ _ _ _ _ _ hrow (by omega))
      have HTE := Lib.hid hT0
      clear hrow ho hb' hT0 HE HTP
      go_wp2_with fail
      refine HRV.out.mono ?_
      rintro e w4 ⟨rfl, hrow4, hb4, _⟩
      have hgl4 := hrow4.lt
      have hb24 := HBW.out.trans hb4
      have HO4 := Lib.hid (hrow4.own (hi := w4.heap.size) (fun y hy => HO.out.rng y (List.mem_reverse.1 hy)) (by omega) hgl4 (Nat.le_refl _))
      have HB4 := Lib.hid hb24
      clear hrow4 hb4 hb24
      go_wp2
      go_ret3
      exact ⟨_, by rw [HM.out]; rfl, by rw [← HTE.out]; exact HO4.out.mono hs2 (Nat.le_refl _) (Nat.le_refl _), HB2.out.trans (HB4.out.mono hs2)⟩
    · obtain ⟨p, rfl⟩ : ∃ p, k = p + 1 := ⟨k - 1, by omega⟩
      obtain rfl : x = (p : Int) := by omega
      obtain ⟨ib1, io1, jc1, ja1, jb1, _, ci1, cr1⟩ := HT.out (p + 1) hk
      obtain ⟨ib2, io2, jc2, ja2, jb2, _, ci2, cr2⟩ := HT.out p (by omega)
      have e1 := ci1.out wr hb'
      have e2 := ci2.out wr hb'
      have e3 := cr1.out wr rr hb' hrr
      have e4 := cr2.out wr rr hb' hrr
      have e5 := SC.out wr p (HB2.out.trans (hb'.mono hs2)) (by omega)
      have b1 := HP.out.sAt (show p < n by omega)
      have HST : Hid (tab ss gs p rr < tab ss gs (p + 1) rr → (ss.getD p 0).toNat ≤ rr) := fun h => (tab_step h).1
      have HBG : Hid (backGo ss gs (p + 1) rr = if tab ss gs p rr < tab ss gs (p + 1) rr then (p : Int) :: backGo ss gs p (rr - (ss.getD p 0).toNat) else backGo ss gs p rr) := rfl
      have t1 := HP.out.tabR (p + 1) rr hk
      have t2 := HP.out.tabR p rr (by omega)
      obtain ⟨s, hs'⟩ : ∃ s : Nat, ss.getD p 0 = (s : Int) := ⟨(ss.getD p 0).toNat, by omega⟩
      have HSP := Lib.hid hs'
      rw [hs'] at e5 b1 HST HBG
      rw [Int.toNat_natCast] at HST HBG
      obtain ⟨y, hy⟩ : ∃ y, y = tab ss gs (p + 1) rr := ⟨_, rfl⟩
      obtain ⟨z, hz⟩ : ∃ z, z = tab ss gs p rr := ⟨_, rfl⟩
      rw [← hy] at e3 t1 HST HBG
      rw [← hz] at e4 t2 HST HBG
      have zp : (p : Int) + 1 < ((n + 1 : Nat) : Int) := by omega
      have zp2 : (p : Int) < ((n + 1 : Nat) : Int) := by omega
      have zr : (rr : Int) < ((R + 1 : Nat) : Int) := by omega
      have zq : ((p : Int) + 1).toNat = p + 1 := by omega
      clear ci1 ci2 cr1 cr2 ho hb' hs' hy hz hk0 hx
      by_cases hzy : z < y
      · have hsr := HST.out hzy
        have HE2 : Hid ((T ++ [(p : Int)]) ++ backGo ss gs p (rr - s) = backGo ss gs n R) := by
          have := HE.out; rw [HBG.out, if_pos hzy] at this; rw [Hid, List.append_assoc]; exact this
        have zrs : (rr : Int) - (s : Int) = ((rr - s : Nat) : Int) := by omega
        go_wp2_with fail
        go_quiet (fail)
        obtain ⟨w5, hw5⟩ : ∃ X, X = wr.drewN nq := ⟨_, rfl⟩
        rw [← hw5]
        have HO5 : Hid (OwnI w5 w2.heap.size w5.heap.size u11 T) := by rw [hw5]; exact HO.out.drewN _
        have HB5 : Hid (Below w2.heap.size w2 w5) := by rw [hw5]; exact HBW.out.trans ((Drew.one wr nq).below _)
        have hs5 := HB5.out.size
        clear hw5 e1 e2 e3 e4 e5 HO HBW hs
        go_wp2_with (at_builtin; refine wpList_app1 rfl _ _ rfl _ T rfl (p : Int) _ HO5.out rfl (by constructor <;> omega) (by omega) hs5 ?_)
        intro v7 w7 ho7 hsm7 hz7 _
        have HO7 := Lib.hid ho7
        have HB7 := Lib.hid (HB5.out.trans (hsm7.below (Nat.le_refl _) hs5))
        have e5 := SC.out w7 p (HB2.out.trans (HB7.out.mono hs2)) (by omega)
        rw [HSP.out] at e5
        clear ho7
        go_wp2
        go_roundw
        case rel => exact ⟨p, rr - s, (p : Int) - 1, T ++ [(p : Int)], by omega, by omega, rfl, by go_num, by go_num, by simp; omega, HE2, HO7.out, HB7.out⟩
        case measure => (simp [intOf]; try omega)
      · have HE2 : Hid (T ++ backGo ss gs p rr = backGo ss gs n R) := by
          have := HE.out; rw [HBG.out, if_neg hzy] at this; exact this
        go_wp2_with fail
        go_quiet (fail)
        go_wp2
        go_roundw
        case rel => exact ⟨p, rr, (p : Int) - 1, T, by omega, hrr, rfl, by go_num, rfl, by omega, HE2, HO.out.drewN _, HBW.out.trans ((Drew.one _ _).below _)⟩
        case measure => (simp [intOf]; try omega)
set_option maxHeartbeats 4000000 in
set_option maxRecDepth 100000 in
theorem implPackBound_any (w : World) {l h l' h' n R : Nat} (v : Value) (ss : List Int) (v' : Value) (gs : List Int) (hv : Ints w l h v ss) (hh : h ≤ w.heap.size) (hv' : Ints w l' h' v' gs) (hh' : h' ≤ w.heap.size) (H : PkH n R ss gs) :
    Calls Try.prog 18 #[v, v', .int .i64 R] w fun e w' => e = .returned (.tuple #[.int .i64 (pbGo ss gs (packOrder ss gs) R 0), .bool true]) ∧ Below w.heap.size w w' := by
  have h1 := H.n1
  have h7 := H.n7
  have hr1 := H.r1
  have hr2 := H.r2
  have HP := Lib.hid H
  have hl := H.ls
  have hok := H.ok
  have HA := Lib.hid (arePacks_any _ _ ss gs R w hv (by omega) hv')
  obtain ⟨o1, o2, o3⟩ := order_facts (gs := gs) hl (fun i hi => H.sAt hi)
  have HID := Lib.hid o2
  have hsl : (packOrder ss gs).length = n := by rw [show packOrder ss gs = ordTo (quoLt ss gs) ss.length from rfl, ordTo_len, hl]
  have HQ := Lib.hid (byQuotient_any v ss v' gs w hv hh hv' hh' (by rw [H.lg, hl]) (by omega) (by omega) (fun x hx => by have := H.sz x hx; omega) (fun x hx => by have := H.gn x hx; omega))
  obtain ⟨S, hS⟩ : ∃ S, S = packOrder ss gs := ⟨_, rfl⟩
  rw [← hS] at hsl HID HQ ⊢
  have hsl1 : S.length ≤ n := by omega
  have hsl2 : n ≤ S.length := by omega
  obtain ⟨b, off, cap, rfl, hc1, hc2, hb, SC⟩ := hv.seen hh hl h1
  obtain ⟨gb, goff, gcap, rfl, gc1, gc2, ghb, GC⟩ := hv'.seen hh' H.lg h1
  clear hv hv' H hl o1 o2 o3 hS hsl
  go_enter Try.func18, Try.ntmps18
  go_wp2_with fail
  refine HA.out.mono ?_
  rintro e w' ⟨rfl, rfl⟩
  rw [hok]
  clear hok
  go_wp2_with fail
  refine HQ.out.mono ?_
  rintro e w2 ⟨u, rfl, ho2, hb2⟩
  rcases ho2.rowOf with ⟨_, e⟩ | ⟨g2, gc2', rfl, hg1, hg2, hg3, hrow2⟩
  · rw [e] at hsl2; simp only [List.length_nil] at hsl2; omega
  have HR2 := Lib.hid hrow2
  have HB2 := Lib.hid hb2
  have hs2 := hb2.size
  clear ho2 hrow2 hb2
  go_wp2_with fail
  go_loopw [2, 8, 20] (fun lv sv kv wr => ∃ (k : Nat) (left sum : Int), k ≤ S.length ∧ kv = .int .i64 k ∧ lv = .int .i64 left ∧ sv = .int .i64 sum ∧ 0 ≤ left ∧ left ≤ 1000 ∧ 0 ≤ sum ∧ sum ≤ 1000 * (k : Int) ∧ Hid (pbGo ss gs (S.drop k) left sum = pbGo ss gs S R 0) ∧ Drew w2 wr) (fun _ _ kv _ => S.length - (intOf kv).toNat)
  case atStart => exact ⟨0, R, 0, Nat.zero_le _, rfl, rfl, rfl, by omega, by omega, by omega, by omega, rfl, Drew.refl _⟩
  case round =>
    obtain ⟨k, left, sum, hk, rfl, rfl, rfl, l1, l2, s1, s2, HE, hd⟩ := hrel
    have HD := Lib.hid hd
    have hbw := HB2.out.trans ((hd.below _).mono hs2)
    have hr2 := HR2.out.drew hd
    by_cases hkl : k < S.length
    · have hdc := drop_cons S k hkl
      have hx := HID.out S[k] (List.getElem_mem _)
      obtain ⟨i, hi⟩ : ∃ i : Nat, S[k] = (i : Int) := ⟨S[k].toNat, by omega⟩
      have hin : i < n := by omega
      have hck := hr2.cell hkl
      have hge : S.getD k 0 = (i : Int) := by simp [List.getD, hkl, hi]
      rw [hge] at hck
      have cs := SC.out wr i hbw hin
      have cg := GC.out wr i hbw hin
      have b1 := HP.out.sAt hin
      have b2 := HP.out.gAt hin
      have HST : Hid (pbGo ss gs (S.drop k) left sum = if left < ss.getD i 0 then sum + gs.getD i 0 * left / ss.getD i 0 else pbGo ss gs (S.drop (k + 1)) (left - ss.getD i 0) (sum + gs.getD i 0)) := by
        rw [Hid, hdc, pbGo, hi, Int.toNat_natCast]
      obtain ⟨si, hsi⟩ : ∃ x, x = ss.getD i 0 := ⟨_, rfl⟩
      obtain ⟨gi, hgi⟩ : ∃ x, x = gs.getD i 0 := ⟨_, rfl⟩
      rw [← hsi] at cs b1 HST
      rw [← hgi] at b2 cg HST
      clear hx hi hge hr2 hbw hsi hgi hdc hd
      by_cases hle : left < si
      · have m0 : 0 ≤ gi * left := Int.mul_nonneg (by omega) l1
        have m1 : gi * left ≤ 12 * 1000 := Int.le_trans (Int.mul_le_mul_of_nonneg_right (show gi ≤ 12 by omega) l1) (by omega)
        have hz : ¬ si = 0 := by omega
        have hdv : (gi * left).tdiv si = gi * left / si := Int.tdiv_eq_ediv_of_nonneg m0
        have q0 : 0 ≤ gi * left / si := Int.ediv_nonneg m0 (by omega)
        have q1 : gi * left / si ≤ gi * left := Int.ediv_le_self _ m0
        have HF : Hid (sum + gi * left / si = pbGo ss gs S R 0) := by rw [Hid, ← HE.out, HST.out, if_pos hle]
        go_wp2_with fail
        go_quiet (fail)
        go_wp2
        go_ret2
        exact ⟨by rw [← HF.out]; rfl, HB2.out.trans (((HD.out.below _).trans ((Drew.one _ _).below _)).mono hs2)⟩
      · have HE2 : Hid (pbGo ss gs (S.drop (k + 1)) (left - si) (sum + gi) = pbGo ss gs S R 0) := by rw [Hid, ← HE.out, HST.out, if_neg hle]
        go_wp2
        go_roundw
        case rel => exact ⟨k + 1, left - si, sum + gi, by omega, by go_num, by go_num, by go_num, by omega, by omega, by omega, by omega, HE2, HD.out⟩
        case measure => (simp [intOf]; try omega)
    · have hE : sum = pbGo ss gs S R 0 := by have := HE.out; rw [drop_len _ _ (by omega), pbGo] at this; exact this
      have HF := Lib.hid hE
      clear hE hr2 hbw
      go_wp2
      go_ret2
      exact ⟨by rw [← HF.out]; rfl, HB2.out.trans ((HD.out.below _).mono hs2)⟩
end Go.Proofs.Ytkankfdpodofjaa
