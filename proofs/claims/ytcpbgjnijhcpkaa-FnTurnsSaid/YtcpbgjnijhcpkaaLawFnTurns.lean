/-
  The law FnTurns returns true for all arguments, and writes nothing that was there.
  There are no conditions.
-/
import Derived.Test.YtcpbgjnijhcpkaaTurnsB
namespace Go.Proofs.Ytcpbgjnijhcpkaa
open Go.ChangeShapes Go.WideShapes Go.ChangeAt Go.RowKit
set_option linter.unusedVariables false
set_option maxRecDepth 100000

set_option maxHeartbeats 8000000 in
set_option maxRecDepth 100000 in
theorem FnTurns_walk (w : World) (v0 : Value) (z0 : List Int) (k0 : Byts w 0 w.heap.size v0 z0) (v1 : Value) (z1 : List Int) (k1 : Byts w 0 w.heap.size v1 z1) :
    Calls Try.prog 5 #[v0, v1] w fun e w' => e = .returned (.bool true) ∧ Below w.heap.size w w' := by
  have HLG := Lib.hid (b10Long_any v0 v1 z0 z1 w k0 k1)
  have HFM := Lib.hid (b10Form_any v0 z0 w k0 (Nat.le_refl _))
  have K0 := Lib.hid k0
  have K1 := Lib.hid k1
  clear k0 k1
  cases hlong : longF z0 z1
  rotate_left
  · rw [hlong] at HLG
    go_enter Try.func5, Try.ntmps5
    go_wp2_with fail
    refine HLG.out.mono ?_
    rintro e w' ⟨rfl, rfl⟩
    go_wp2
    go_ret
    exact ⟨rfl, Below.refl _ _⟩
  rw [hlong] at HLG
  clear hlong
  go_enter Try.func5, Try.ntmps5
  go_wp2_with fail
  refine HLG.out.mono ?_
  rintro e w' ⟨rfl, rfl⟩
  go_wp2_with fail
  refine HFM.out.mono ?_
  rintro e w1 ⟨u, ⟨Lz, cs⟩, rfl, hf, hdf, hb1⟩
  obtain ⟨hval, hL1, hL5, hC9, hC3⟩ := hdf
  simp only at hL1 hL5 hC9 hC3
  obtain ⟨L, rfl⟩ : ∃ L : Nat, Lz = (L : Int) := ⟨Lz.toNat, by omega⟩
  have hl1 : 1 ≤ L := by omega
  have hl5 : L ≤ 5 := by omega
  obtain ⟨u, rfl, hu⟩ := hf.ex
  obtain ⟨fa, fc, rfl⟩ := hu.shape
  simp only at hu
  have hwz : w.heap.size ≤ w1.heap.size := hb1.size
  have hsmC : SmallII cs := few3 hC9 hC3
  obtain ⟨W, hW⟩ : ∃ X, X = w1.alloc (.cells #[.int .i64 L, .slice fa cs.length fc] 26) := ⟨_, rfl⟩
  obtain ⟨b, hbb⟩ : ∃ b, b = w1.heap.size := ⟨_, rfl⟩
  have hbx : TwoC W b 26 (.int .i64 L) (.slice fa cs.length fc) := by rw [hW, hbb]; exact TwoC.new _ _ _ _
  have hbW : Below w1.heap.size w1 W := by rw [hW]; exact alloc_below _ _
  have hcsW : Intss W 0 w1.heap.size (.slice fa cs.length fc) cs := ((hu.below hbW (Nat.le_refl _)).rd).mono (Nat.zero_le _) (Nat.le_refl _) (by have := hbW.size; omega)
  have HBW := Lib.hid (hb1.trans (hbW.mono hwz))
  have hwW : w.heap.size ≤ W.heap.size := HBW.out.size
  have hbl := hbx.lt
  have hw1W : w1.heap.size ≤ W.heap.size := hbW.size
  have kL : I64 (L : Int) := by constructor <;> omega
  have HK : Hid (∀ wx, Below W.heap.size W wx → TwoC wx b 26 (.int .i64 L) (.slice fa cs.length fc)) := fun wx hx => hbx.below hx hbl
  have HI : Hid (∀ wx, Below W.heap.size W wx → Intss wx 0 wx.heap.size (.slice fa cs.length fc) cs) := fun wx hx => (hcsW.below hx hw1W).mono (Nat.zero_le _) (by have := hx.size; omega) (Nat.le_refl _)
  have HF : Hid (∀ wx, Below W.heap.size W wx → FormR wx 0 wx.heap.size (.agg #[.int .i64 L, .slice fa cs.length fc]) ⟨L, cs⟩) := fun wx hx => ⟨⟨_, rfl, HI.out wx hx⟩, kL⟩
  have HSM := Lib.hid hsmC
  have HV := Lib.hid hval
  have hto := turnsOk (f := ⟨(L : Int), cs⟩) (L := L) hval rfl
  obtain ⟨c, hc1, hc2, hc3, hc4⟩ := hto.cnt
  obtain ⟨a, hall⟩ := hto.all (allTo z1 L) (allTo_len z1 L)
  obtain ⟨P, hP⟩ : ∃ P, P = 2 ^ L := ⟨_, rfl⟩
  have hsh := (shl_one L (by omega)).1
  have hP2 := (shl_one L (by omega)).2
  rw [← hP] at hc4 hsh hP2
  have hP0 : 0 < P := by rw [hP]; exact Nat.two_pow_pos L
  have HC1 := Lib.hid hc1
  have HC3 := Lib.hid hc3
  have HC4 := Lib.hid hc4
  have HAL := Lib.hid hall
  clear hval hf hu hbW hcsW hb1 hto hc1 hc3 hc4 hall hP hL1 hL5 hC9 hC3 hsmC hbx
  have he0 := emptySliceB W
  have he1 := emptySliceB (W.alloc (.cells #[] 4))
  have he2 := emptySliceB ((W.alloc (.cells #[] 4)).alloc (.cells #[] 4))
  have hs1 : (W.alloc (.cells #[] 4)).heap.size = W.heap.size + 1 := by simp
  have hs2 : ((W.alloc (.cells #[] 4)).alloc (.cells #[] 4)).heap.size = W.heap.size + 2 := by simp
  obtain ⟨W3, hW3⟩ : ∃ X, X = ((W.alloc (.cells #[] 4)).alloc (.cells #[] 4)).alloc (.cells #[] 4) := ⟨_, rfl⟩
  have HA0 : Hid (OwnB W3 W.heap.size W3.heap.size (.slice (some ⟨W.heap.size, 0, none⟩) 0 0) []) := by rw [hW3]; exact ((he0.alloc _).alloc _).mono (Nat.le_refl _) (by simp) (Nat.le_refl _)
  have HA1 : Hid (OwnB W3 W.heap.size W3.heap.size (.slice (some ⟨W.heap.size + 1, 0, none⟩) 0 0) []) := by rw [hW3]; rw [hs1] at he1; exact (he1.alloc _).mono (by omega) (by simp) (Nat.le_refl _)
  have HA2 : Hid (OwnB W3 W.heap.size W3.heap.size (.slice (some ⟨W.heap.size + 2, 0, none⟩) 0 0) []) := by rw [hW3]; rw [hs2] at he2; exact he2.mono (by omega) (by simp) (Nat.le_refl _)
  have HB3 : Hid (Below W.heap.size W W3) := by rw [hW3]; exact ((alloc_below _ _).alloc (by simp) _).alloc (by simp only [World.size_alloc]; omega) _
  clear he0 he1 he2 hs1 hs2
  go_upto_region 4 with (fail)
  rw [← hW, ← hbb]
  clear hW hbb
  go_wp2_with fail
  rw [← hW3]
  clear hW3
  go_loopw [6, 7, 8, 9] (fun av bv cv xv wr => ∃ k : Nat, k ≤ L ∧ xv = .int .i64 ((k + 1 : Nat)) ∧ OwnB wr W.heap.size wr.heap.size av (allTo z1 k) ∧ OwnB wr W.heap.size wr.heap.size bv (List.replicate k false) ∧ OwnB wr W.heap.size wr.heap.size cv (List.replicate k true) ∧ Hid (Apart av bv) ∧ Hid (Apart av cv) ∧ Hid (Apart bv cv) ∧ Below W.heap.size W wr) (fun _ _ _ xv _ => L + 1 - (intOf xv).toNat)
  case atStart => exact ⟨0, Nat.zero_le _, rfl, HA0.out, HA1.out, HA2.out, Lib.hid (by intro p hp; simp [Value.ownBlock] at hp ⊢; omega), Lib.hid (by intro p hp; simp [Value.ownBlock] at hp ⊢; omega), Lib.hid (by intro p hp; simp [Value.ownBlock] at hp ⊢; omega), HB3.out⟩
  case round =>
    obtain ⟨av, hav⟩ : ∃ v, v = u6 := ⟨_, rfl⟩
    obtain ⟨bv, hbv⟩ : ∃ v, v = u7 := ⟨_, rfl⟩
    obtain ⟨cv, hcv⟩ : ∃ v, v = u8 := ⟨_, rfl⟩
    rw [← hav, ← hbv, ← hcv] at hrel
    rw [← hav, ← hbv, ← hcv]
    clear hav hbv hcv
    obtain ⟨k, hk, rfl, hoa, hob, hoc, HAB, HAC, HBC, hbr⟩ := hrel
    have HA := Lib.hid hoa
    have HE := Lib.hid hob
    have HG := Lib.hid hoc
    have HBR := Lib.hid hbr
    have hsr : W.heap.size ≤ wr.heap.size := hbr.size
    have q0 := (HK.out wr hbr).c0
    have q1 := (HK.out wr hbr).c1
    clear hoa hob hoc hbr
    by_cases hlt : k < L
    · have HAT := Lib.hid (b10At_any v1 z1 (k + 1) 2 wr (K1.out.below (HBW.out.trans (HBR.out.mono hwW)) (Nat.le_refl _)) (by omega) (by decide) (by decide))
      obtain ⟨x, hx⟩ : ∃ x, x = atF z1 ((k + 1 : Nat) : Int) 2 := ⟨_, rfl⟩
      have hcs := allTo_succ z1 k
      rw [← hx] at HAT hcs
      have HCS := Lib.hid hcs
      have hl1' : Hid ((allTo z1 k).length + 1 ≤ 1099511627776) := by rw [Hid, allTo_len]; omega
      have hl2' : Hid ((List.replicate k false).length + 1 ≤ 1099511627776) := by rw [Hid, List.length_replicate]; omega
      have hl3' : Hid ((List.replicate k true).length + 1 ≤ 1099511627776) := by rw [Hid, List.length_replicate]; omega
      clear hx hcs
      go_wp2_with fail
      refine HAT.out.mono ?_
      rintro e w' ⟨rfl, rfl⟩
      go_wp2_with (at_builtin; refine wpList_app1BK rfl _ _ rfl _ (allTo z1 k) rfl (decide (x = 0)) _ HA.out rfl hl1'.out hsr ?_)
      intro v6 w6 ho6 hk6 hsm6 hz6 hbk6
      have HA6 : Hid (OwnB w6 W.heap.size w6.heap.size v6 (allTo z1 (k + 1))) := by rw [Hid, HCS.out]; exact ho6
      have HE6 := Lib.hid (HE.out.beside (u := av) (by omega) (by omega) hk6 (fun p hp hq => HAB.out p hq hp))
      have HG6 := Lib.hid (HG.out.beside (u := av) (by omega) (by omega) hk6 (fun p hp hq => HAC.out p hq hp))
      have HAB6 : Hid (Apart v6 bv) := (HAB.out.symm.grow (fun p hp => HE.out.own.blk p hp) hbk6).symm
      have HAC6 : Hid (Apart v6 cv) := (HAC.out.symm.grow (fun p hp => HG.out.own.blk p hp) hbk6).symm
      have HB6 := Lib.hid (HBR.out.trans (hsm6.below (Nat.le_refl _) hsr))
      have hs6 : W.heap.size ≤ w6.heap.size := by omega
      clear ho6 hk6 hsm6 hz6 hbk6
      go_wp2_with (at_builtin; refine wpList_app1BK rfl _ _ rfl _ (List.replicate k false) rfl false _ HE6.out rfl hl2'.out hs6 ?_)
      intro v7 w7 ho7 hk7 hsm7 hz7 hbk7
      have HE7 : Hid (OwnB w7 W.heap.size w7.heap.size v7 (List.replicate (k + 1) false)) := by rw [Hid, rep_succ]; exact ho7
      have HA7 := Lib.hid (HA6.out.beside (u := bv) (by omega) (by omega) hk7 (fun p hp => HAB6.out p hp))
      have HG7 := Lib.hid (HG6.out.beside (u := bv) (by omega) (by omega) hk7 (fun p hp hq => HBC.out p hq hp))
      have HAB7 : Hid (Apart v6 v7) := HAB6.out.grow (fun p hp => HA6.out.own.blk p hp) hbk7
      have HBC7 : Hid (Apart v7 cv) := (HBC.out.symm.grow (fun p hp => HG6.out.own.blk p hp) hbk7).symm
      have HB7 := Lib.hid (HB6.out.trans (hsm7.below (Nat.le_refl _) hs6))
      have hs7 : W.heap.size ≤ w7.heap.size := by omega
      clear ho7 hk7 hsm7 hz7 hbk7
      go_wp2_with (at_builtin; refine wpList_app1BK rfl _ _ rfl _ (List.replicate k true) rfl true _ HG7.out rfl hl3'.out hs7 ?_)
      intro v8 w8 ho8 hk8 hsm8 hz8 hbk8
      have HG8 : Hid (OwnB w8 W.heap.size w8.heap.size v8 (List.replicate (k + 1) true)) := by rw [Hid, rep_succ]; exact ho8
      have HA8 := Lib.hid (HA7.out.beside (u := cv) (by omega) (by omega) hk8 (fun p hp => HAC6.out p hp))
      have HE8 := Lib.hid (HE7.out.beside (u := cv) (by omega) (by omega) hk8 (fun p hp => HBC7.out p hp))
      have HAC8 : Hid (Apart v6 v8) := HAC6.out.grow (fun p hp => HA7.out.own.blk p hp) hbk8
      have HBC8 : Hid (Apart v7 v8) := HBC7.out.grow (fun p hp => HE7.out.own.blk p hp) hbk8
      have HB8 := Lib.hid (HB7.out.trans (hsm8.below (Nat.le_refl _) hs7))
      clear ho8 hk8 hsm8 hz8 hbk8
      go_wp2
      go_roundw
      case rel => exact ⟨k + 1, by omega, by go_num, HA8.out, HE8.out, HG8.out, HAB7, HAC8, HBC8, HB8.out⟩
      case measure => simp [intOf]; omega
    · obtain rfl : L = k := by omega
      have hlA : (allTo z1 L).length ≤ 1048576 := by rw [allTo_len]; omega
      have hlE : (List.replicate L false).length ≤ 1048576 := by rw [List.length_replicate]; omega
      have hlG : (List.replicate L true).length ≤ 1048576 := by rw [List.length_replicate]; omega
      go_wp2_with fail
      refine (specCountModels_any wr _ _ (HF.out wr HBR.out) (Nat.le_refl _) HSM.out).mono ?_
      rintro e y0 ⟨he, hb0⟩
      rw [HC1.out] at he
      subst he
      have HY0 := Lib.hid (HBR.out.trans (hb0.mono (by have := HBR.out.size; omega)))
      have HA0' := HA.out.below hb0 (Nat.le_refl _)
      have HA0 := Lib.hid HA0'
      have HE0' := HE.out.below hb0 (Nat.le_refl _)
      have HE0 := Lib.hid HE0'
      have HG0' := HG.out.below hb0 (Nat.le_refl _)
      have HG0 := Lib.hid HG0'
      have hzz1 : wr.heap.size ≤ y0.heap.size := by have := hb0.size; omega
      have q0 := (HK.out y0 HY0.out).c0
      have q1 := (HK.out y0 HY0.out).c1
      clear hb0 HA0' HE0' HG0'
      go_wp2_with fail
      refine (implAllSome_any y0 _ _ av (allTo z1 L) (HF.out y0 HY0.out) (Nat.le_refl _) HSM.out HA0.out.rd hzz1 hlA).mono ?_
      rintro e y1 ⟨he, hb1⟩
      rw [HAL.out] at he
      subst he
      have HY1 := Lib.hid (HY0.out.trans (hb1.mono (by have := HY0.out.size; omega)))
      have HA1' := HA0.out.below hb1 hzz1
      have HA1 := Lib.hid HA1'
      have HE1' := HE0.out.below hb1 hzz1
      have HE1 := Lib.hid HE1'
      have HG1' := HG0.out.below hb1 hzz1
      have HG1 := Lib.hid HG1'
      have hzz2 : wr.heap.size ≤ y1.heap.size := by have := hb1.size; omega
      have q0 := (HK.out y1 HY1.out).c0
      have q1 := (HK.out y1 HY1.out).c1
      clear hb1 HA1' HE1' HG1'
      go_wp2_with fail
      refine (specAllSome_any y1 _ _ av (allTo z1 L) (HF.out y1 HY1.out) (Nat.le_refl _) HSM.out HA1.out.rd hzz2 hlA).mono ?_
      rintro e y2 ⟨he, hb2⟩
      rw [HAL.out] at he
      subst he
      have HY2 := Lib.hid (HY1.out.trans (hb2.mono (by have := HY1.out.size; omega)))
      have HA2' := HA1.out.below hb2 hzz2
      have HA2 := Lib.hid HA2'
      have HE2' := HE1.out.below hb2 hzz2
      have HE2 := Lib.hid HE2'
      have HG2' := HG1.out.below hb2 hzz2
      have HG2 := Lib.hid HG2'
      have hzz3 : wr.heap.size ≤ y2.heap.size := by have := hb2.size; omega
      have q0 := (HK.out y2 HY2.out).c0
      have q1 := (HK.out y2 HY2.out).c1
      clear hb2 HA2' HE2' HG2'
      go_wp2_with fail
      refine (implAllSome_any y2 _ _ bv (List.replicate L false) (HF.out y2 HY2.out) (Nat.le_refl _) HSM.out HE2.out.rd hzz3 hlE).mono ?_
      rintro e y3 ⟨he, hb3⟩
      rw [HC3.out] at he
      subst he
      have HY3 := Lib.hid (HY2.out.trans (hb3.mono (by have := HY2.out.size; omega)))
      have HA3' := HA2.out.below hb3 hzz3
      have HA3 := Lib.hid HA3'
      have HE3' := HE2.out.below hb3 hzz3
      have HE3 := Lib.hid HE3'
      have HG3' := HG2.out.below hb3 hzz3
      have HG3 := Lib.hid HG3'
      have hzz4 : wr.heap.size ≤ y3.heap.size := by have := hb3.size; omega
      have q0 := (HK.out y3 HY3.out).c0
      have q1 := (HK.out y3 HY3.out).c1
      clear hb3 HA3' HE3' HG3'
      go_wp2_with fail
      refine (implAllSome_any y3 _ _ cv (List.replicate L true) (HF.out y3 HY3.out) (Nat.le_refl _) HSM.out HG3.out.rd hzz4 hlG).mono ?_
      rintro e y4 ⟨he, hb4⟩
      rw [HC4.out] at he
      subst he
      have HY4 := Lib.hid (HY3.out.trans (hb4.mono (by have := HY3.out.size; omega)))
      have HA4' := HA3.out.below hb4 hzz4
      have HA4 := Lib.hid HA4'
      have HE4' := HE3.out.below hb4 hzz4
      have HE4 := Lib.hid HE4'
      have HG4' := HG3.out.below hb4 hzz4
      have HG4 := Lib.hid HG4'
      have hzz5 : wr.heap.size ≤ y4.heap.size := by have := hb4.size; omega
      have q0 := (HK.out y4 HY4.out).c0
      have q1 := (HK.out y4 HY4.out).c1
      clear hb4 HA4' HE4' HG4'
      go_wp2_with fail
      refine (implFirstMove_any y4 _ _ av (allTo z1 L) (HF.out y4 HY4.out) (Nat.le_refl _) HSM.out HA4.out.rd hzz5 hlA).mono ?_
      rintro e y5 ⟨he, hb5⟩
      obtain ⟨mv, hmv⟩ : ∃ x, x = (firstMove ⟨(L : Int), cs⟩ (allTo z1 L)).1 := ⟨_, rfl⟩
      obtain ⟨mf, hmf⟩ : ∃ x, x = (firstMove ⟨(L : Int), cs⟩ (allTo z1 L)).2 := ⟨_, rfl⟩
      rw [← hmv, ← hmf] at he
      have HMV := Lib.hid hmv
      have HMF := Lib.hid hmf
      clear hmv hmf
      subst he
      have HY5 := Lib.hid (HY4.out.trans (hb5.mono (by have := HY4.out.size; omega)))
      have HA5' := HA4.out.below hb5 hzz5
      have HA5 := Lib.hid HA5'
      have HE5' := HE4.out.below hb5 hzz5
      have HE5 := Lib.hid HE5'
      have HG5' := HG4.out.below hb5 hzz5
      have HG5 := Lib.hid HG5'
      have hzz6 : wr.heap.size ≤ y5.heap.size := by have := hb5.size; omega
      have q0 := (HK.out y5 HY5.out).c0
      have q1 := (HK.out y5 HY5.out).c1
      clear hb5 HA5' HE5' HG5'
      go_wp2_with fail
      refine (specFirstMove_any y5 _ _ av (allTo z1 L) (HF.out y5 HY5.out) (Nat.le_refl _) HSM.out HA5.out.rd hzz6 hlA).mono ?_
      rintro e y6 ⟨he, hb6⟩
      rw [← HMV.out, ← HMF.out] at he
      subst he
      have HY6 := Lib.hid (HY5.out.trans (hb6.mono (by have := HY5.out.size; omega)))
      have HA6' := HA5.out.below hb6 hzz6
      have HA6 := Lib.hid HA6'
      have HE6' := HE5.out.below hb6 hzz6
      have HE6 := Lib.hid HE6'
      have HG6' := HG5.out.below hb6 hzz6
      have HG6 := Lib.hid HG6'
      have hzz7 : wr.heap.size ≤ y6.heap.size := by have := hb6.size; omega
      have q0 := (HK.out y6 HY6.out).c0
      have q1 := (HK.out y6 HY6.out).c1
      clear hb6 HA6' HE6' HG6'
      by_cases hcP : c = (P : Int)
      · have hc0 : (0 : Int) < c := by omega
        have g1 : decide ((0 : Int) < c) = true := decide_eq_true hc0
        subst hcP
        rw [g1, decide_eq_true (rfl : (P : Int) = (P : Int))]
        cases mf
        · go_upto_region 22 with (fail)
          exact join_part (by assumption) (turns2 w _ (HBW.out.trans (HY6.out.mono hwW)) K0.out K1.out (HK.out y6 HY6.out) (HI.out y6 HY6.out) HSM.out HV.out)
        · go_upto_region 22 with (fail)
          exact join_part (by assumption) (turns2 w _ (HBW.out.trans (HY6.out.mono hwW)) K0.out K1.out (HK.out y6 HY6.out) (HI.out y6 HY6.out) HSM.out HV.out)
      · by_cases hc0 : (0 : Int) < c
        · have g1 : decide ((0 : Int) < c) = true := decide_eq_true hc0
          have g2 : (c == (P : Int)) = false := by simp; exact hcP
          rw [g1, decide_eq_false hcP]
          cases mf
          · go_upto_region 22 with (fail)
            exact join_part (by assumption) (turns2 w _ (HBW.out.trans (HY6.out.mono hwW)) K0.out K1.out (HK.out y6 HY6.out) (HI.out y6 HY6.out) HSM.out HV.out)
          · go_upto_region 22 with (fail)
            exact join_part (by assumption) (turns2 w _ (HBW.out.trans (HY6.out.mono hwW)) K0.out K1.out (HK.out y6 HY6.out) (HI.out y6 HY6.out) HSM.out HV.out)
        · obtain rfl : c = 0 := by omega
          have g2 : ((0 : Int) == (P : Int)) = false := by simp; omega
          rw [decide_eq_false hc0, decide_eq_false hcP]
          cases mf
          · go_upto_region 22 with (fail)
            exact join_part (by assumption) (turns2 w _ (HBW.out.trans (HY6.out.mono hwW)) K0.out K1.out (HK.out y6 HY6.out) (HI.out y6 HY6.out) HSM.out HV.out)
          · go_upto_region 22 with (fail)
            exact join_part (by assumption) (turns2 w _ (HBW.out.trans (HY6.out.mono hwW)) K0.out K1.out (HK.out y6 HY6.out) (HI.out y6 HY6.out) HSM.out HV.out)

set_option maxRecDepth 100000 in
theorem FnTurns_lifted (os : Os) (started : os.Started) (H : Type) (enc : TypeId × Value → H) :
    ReturnsInHanded {} Try.checked os 5 .any (Rows.fnTurnsSpec.pre6 enc Try.prog Try.f5 Rows.fnTurnsRow.domain false) (Rows.fnTurnsSpec.post enc Try.prog Try.f5 false true false false) := by
  refine returnsInHanded_of_change (C := Try.checked) own_knob started (by kernel_rfl) Try.func5
    (ChangeSpec.witness6 (enc := enc) (C := Try.checked) false ⟨#[], #[.slice none 0 0, .slice none 0 0], []⟩ 8 (by kernel_rfl) (by kernel_rfl) (by kernel_rfl) (by kernel_rfl)) ?_
  intro W base args ds gs before hval0 hW hcnd _
  have hval : ∀ (j : Nat) t v, Try.f5.params[j]? = some t → args[j]? = some v → Value.okWide Try.prog W .any base t v := hval0
  have hW' := hW
  obtain ⟨p, q, hA0, hV, rfl, hfz, hnd⟩ := hW
  have hA : DataW.TrodAll enc Try.prog W 0 (fun _ => true) true Try.f5.params.toList args.toList ds p := hA0
  rw [Try.params5] at hA hval
  obtain ⟨v0, vs0, d0, ds0, p0, q0, hargs, rfl, rfl, h0, r0⟩ := trodAll_cons hA
  obtain ⟨v1, vs1, d1, ds1, p1, q1, rfl, rfl, rfl, h1, r1⟩ := trodAll_cons r0
  obtain ⟨rfl, rfl, rfl⟩ := trodAll_nil r1
  obtain rfl : args = #[v0, v1] := by cases args; simp_all
  obtain ⟨rfl, rfl⟩ := trodVars_none hV
  have lt0 : ∀ x ∈ p0, x.block < W.heap.size := by obtain ⟨m, hm⟩ := h0; exact DataW.trod_lt m _ _ _ hm
  obtain ⟨z0, k0⟩ := open_Y (hval 0 22 v0 rfl rfl) h0
  have lt1 : ∀ x ∈ p1, x.block < W.heap.size := by obtain ⟨m, hm⟩ := h1; exact DataW.trod_lt m _ _ _ hm
  obtain ⟨z1, k1⟩ := open_Y (hval 1 22 v1 rfl rfl) h1
  clear hA0 hval0
  refine (FnTurns_walk W v0 z0 k0 v1 z1 k1).mono fun e W' ⟨he, bel⟩ => ?_
  subst he
  exact ⟨_, rfl, _, _, _, [], _, [], hW', trodAll_mk1 (shut_bool Try.underlying4 _), (trodAll_cons_mk (Below.trod laid_out (by kernel_rfl) (of_decide_eq_true (by kernel_rfl)) h0 bel lt0) (trodAll_cons_mk (Below.trod laid_out (by kernel_rfl) (of_decide_eq_true (by kernel_rfl)) h1 bel lt1) trodAll_mk0)), rfl, bel.frame _, fun h => by cases h⟩

theorem FnTurns_over : Rows.fnTurnsRow.holds Try.pinned (OpenSpec.ofChange Rows.fnTurnsSpec) :=
  OpenClaim.holds_of_wide 5 Try.f5 rfl rfl rfl rfl rfl rfl rfl ⟨rfl, rfl, rfl, rfl, rfl⟩ rfl rfl rfl rfl rfl (by kernel_rfl) Try.func5 (by kernel_rfl)
    (of_decide_eq_true (by kernel_rfl)) (by unfold Func.isWrapper; first | (rw [if_pos (by decide +kernel)]; kernel_rfl) | (rw [if_neg (by decide +kernel)]; exact ⟨rfl, rfl⟩))
    (fun os started H enc _ => FnTurns_lifted os started H enc)

/-- The statement. -/
theorem FnTurns_proved : Rows.FnTurnsSaid := FnTurns_over

end Go.Proofs.Ytcpbgjnijhcpkaa
