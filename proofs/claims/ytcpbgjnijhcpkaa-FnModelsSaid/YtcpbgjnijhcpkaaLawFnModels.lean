/-
  The law FnModels returns true for all arguments, and writes nothing that was there.
  There are no conditions.
-/
import Derived.Test.YtcpbgjnijhcpkaaModelsP
import Derived.Test.YtcpbgjnijhcpkaaDraw
import Derived.Test.YtcpbgjnijhcpkaaAt
import Derived.Test.YtcpbgjnijhcpkaaOpenY
import Derived.Test.YtcpbgjnijhcpkaaApp2
import Derived.Test.YtcpbgjnijhcpkaaShared
import Derived.Test.YtcpbgjnijhcpkaaSameForm
import Derived.Deep.RegionHeld3
namespace Go.Proofs.Ytcpbgjnijhcpkaa
open Go.ChangeShapes Go.WideShapes Go.ChangeAt Go.RowKit
set_option linter.unusedVariables false
set_option maxRecDepth 100000

theorem OwnB.shape {w : World} {lo hi : Nat} {v : Value} {zs : List Bool} (h : OwnB w lo hi v zs) : ∃ a cap, v = .slice a zs.length cap := by
  rcases h.rowOf with ⟨rfl, rfl⟩ | ⟨g, cap, rfl, _⟩
  · exact ⟨none, 0, rfl⟩
  · exact ⟨_, _, rfl⟩
theorem sum_le3 {l : List (List Int)} (h : ∀ c ∈ l, c.length ≤ 3) : (l.map List.length).sum ≤ 3 * l.length := by
  induction l with
  | nil => simp
  | cons a r ih =>
    have h1 := h a (by simp)
    have h2 := ih fun c hc => h c (by simp [hc])
    rw [List.map_cons, List.sum_cons, List.length_cons, Nat.mul_succ]
    omega
theorem few3 {cs : List (List Int)} (h1 : cs.length ≤ 9) (h2 : ∀ c ∈ cs, c.length ≤ 3) : SmallII cs := by
  have := sum_le3 h2
  exact ⟨by omega, by omega⟩
/-- the slice of two equal forms -/
theorem twoForms {w : World} {lo hi : Nat} {L : Int} {u : Value} {cs : List (List Int)} (hu : Intss w lo hi u cs) (hh : hi ≤ w.heap.size) (kL : I64 L) (t : TypeId) :
    Forms (w.alloc (.cells #[.int .i64 L, u, .int .i64 L, u] t)) 0 (w.heap.size + 1) (.slice (some ⟨w.heap.size, 0, none⟩) 2 2) [⟨L, cs⟩, ⟨L, cs⟩] := by
  have hb := (Below.refl w.heap.size w).alloc (Nat.le_refl _) (.cells #[.int .i64 L, u, .int .i64 L, u] t)
  refine ⟨⟨fun _ => u, ⟨some ⟨w.heap.size, 0, none⟩, 2, rfl, Nat.le_refl _, by decide, .inr ⟨w.heap.size, 0, rfl, Nat.zero_le _, Nat.lt_succ_self _, by simp, fun i hi => ?_⟩⟩, fun i hi => ?_⟩, ?_⟩
  · rw [World.cell?_alloc_at _ _ _ _ rfl]
    have hi4 : i < 4 := by simpa using hi
    rcases (show i = 0 ∨ i = 1 ∨ i = 2 ∨ i = 3 by omega) with rfl | rfl | rfl | rfl <;> simp [formCell]
  · have hi2 : i < 2 := by simpa using hi
    have hx : Intss (w.alloc (.cells #[.int .i64 L, u, .int .i64 L, u] t)) 0 (w.heap.size + 1) u cs := (hu.below hb hh).mono (Nat.zero_le _) (by omega) (by simp)
    rcases (show i = 0 ∨ i = 1 by omega) with rfl | rfl <;> exact hx
  · intro f hf; simp at hf; rcases hf with rfl | rfl <;> exact kL

theorem sameForm_self (f : FormD) : sameForm f f = true := by unfold sameForm; exact decide_eq_true rfl
theorem twoInts (w : World) (c : Int) (hc : I64 c) : Ints (w.alloc (.cells #[.int .i64 c, .int .i64 c] 2)) w.heap.size (w.heap.size + 1) (.slice (some ⟨w.heap.size, 0, none⟩) 2 2) [c, c] := by
  have h : OwnI (w.alloc (.cells #[.int .i64 c, .int .i64 c] 2)) w.heap.size (w.heap.size + 1) (.slice (some ⟨w.heap.size, 0, none⟩) 2 2) [c, c] :=
    ⟨⟨World.ownsRow_lit w #[.int .i64 c, .int .i64 c] 2 (Nat.le_refl _) (by simp [maxLen]) (by simp), fun k e => by simp [Value.ownBlock] at e; omega, by simp⟩, by simpa using hc, by simp⟩
  exact h.rd
theorem shared_two {f : FormD} {c a : Int} (hv : validForm f = true) (hc : countModels f = (c, true)) (h1 : 1 ≤ a) (h2 : a ≤ 8) : sharedF [f, f] a = ([c, c], true) := by
  have e : cntF f = c := by
    unfold countModels at hc
    rw [if_pos hv] at hc
    exact congrArg Prod.fst hc
  rw [shared_yes (by simp [hv, inB]; omega)]
  simp [e]
set_option maxHeartbeats 8000000 in
set_option maxRecDepth 100000 in
theorem FnModels_walk (w : World) (v0 : Value) (z0 : List Int) (k0 : Byts w 0 w.heap.size v0 z0) (v1 : Value) (z1 : List Int) (k1 : Byts w 0 w.heap.size v1 z1) :
    Calls Try.prog 4 #[v0, v1] w fun e w' => e = .returned (.bool true) ∧ Below w.heap.size w w' := by
  have HLG := Lib.hid (b10Long_any v0 v1 z0 z1 w k0 k1)
  have HFM := Lib.hid (b10Form_any v0 z0 w k0 (Nat.le_refl _))
  have K1 := Lib.hid k1
  clear k0 k1
  cases hlong : longF z0 z1
  rotate_left
  · rw [hlong] at HLG
    go_enter Try.func4, Try.ntmps4
    go_wp2_with fail
    refine HLG.out.mono ?_
    rintro e w' ⟨rfl, rfl⟩
    go_wp2
    go_ret
    exact ⟨rfl, Below.refl _ _⟩
  rw [hlong] at HLG
  clear hlong
  go_enter Try.func4, Try.ntmps4
  go_wp2_with fail
  refine HLG.out.mono ?_
  rintro e w' ⟨rfl, rfl⟩
  go_wp2_with fail
  refine HFM.out.mono ?_
  rintro e w1 ⟨u, ⟨Lz, cs⟩, rfl, hf, hdf, hb1⟩
  obtain ⟨hval, hL1, hL5, hC9, hC3⟩ := hdf
  simp only at hL1 hL5 hC9 hC3
  obtain ⟨L, rfl⟩ : ∃ L : Nat, Lz = (L : Int) := ⟨Lz.toNat, by omega⟩
  have hl1 : 1 ≤ L := by omega
  have hl5 : L ≤ 5 := by omega
  obtain ⟨u, rfl, hu⟩ := hf.ex
  obtain ⟨fa, fc, rfl⟩ := hu.shape
  simp only at hu
  obtain ⟨W, hW⟩ : ∃ X, X = w1.alloc (.cells #[.int .i64 L, .slice fa cs.length fc] 26) := ⟨_, rfl⟩
  obtain ⟨b, hb⟩ : ∃ b, b = w1.heap.size := ⟨_, rfl⟩
  have hbx : TwoC W b 26 (.int .i64 L) (.slice fa cs.length fc) := by rw [hW, hb]; exact TwoC.new _ _ _ _
  have hbW : Below w1.heap.size w1 W := by rw [hW]; exact alloc_below _ _
  have hbl := hbx.lt
  have hsz1 := hb1.size
  have kL : I64 (L : Int) := by constructor <;> omega
  have HSM : Hid (SmallII cs) := few3 hC9 hC3
  have huW := hu.below hbW (Nat.le_refl _)
  have HK : Hid (∀ wx, Below W.heap.size W wx → wx.cell? ⟨b, 0, none⟩ = some (.int .i64 L) ∧ wx.cell? ⟨b, 1, none⟩ = some (.slice fa cs.length fc)) := by
    intro wx hx
    have := hbx.below hx hbl
    exact ⟨this.c0, this.c1⟩
  have HF : Hid (∀ wx, Below W.heap.size W wx → FormR wx 0 wx.heap.size (.agg #[.int .i64 L, .slice fa cs.length fc]) ⟨L, cs⟩) := by
    intro wx hx
    exact ⟨⟨_, rfl, ((huW.below hx (by omega)).rd).mono (Nat.zero_le _) (by have := hx.size; have := hbW.size; omega) (Nat.le_refl _)⟩, kL⟩
  have HI : Hid (∀ wx, Below W.heap.size W wx → Intss wx 0 wx.heap.size (.slice fa cs.length fc) cs) := by
    intro wx hx
    exact ((huW.below hx (by omega)).rd).mono (Nat.zero_le _) (by have := hx.size; have := hbW.size; omega) (Nat.le_refl _)
  have HY : Hid (∀ wx, Below W.heap.size W wx → Byts wx 0 wx.heap.size v1 z1) := by
    intro wx hx
    have h1 := hbW.size
    have h2 := hx.size
    exact ((K1.out.below (hb1.trans (hbW.mono hsz1)) (Nat.le_refl _)).below hx (by omega)).mono (Nat.le_refl _) (by omega) (Nat.le_refl _)
  have HBW : Hid (Below w.heap.size w W) := hb1.trans (hbW.mono hsz1)
  have hWs : w.heap.size ≤ W.heap.size := HBW.out.size
  obtain ⟨tf, htf⟩ : ∃ tf : Nat → Bool, tf = fun (n : Nat) => decide (atF z1 (n : Int) 2 = 0) := ⟨_, rfl⟩
  have HT : Hid (∀ n : Nat, tf n = decide (atF z1 (n : Int) 2 = 0)) := fun n => by rw [htf]
  have hvW : validForm ⟨(L : Int), cs⟩ = true := hval
  obtain ⟨one, hM⟩ : ∃ one, ModelsOk ⟨(L : Int), cs⟩ L tf one := ⟨_, modelsOk hvW rfl tf⟩
  have HM := Lib.hid hM
  have HV := Lib.hid hvW
  have hC : cs.length ≤ 9 := hC9
  clear hM hvW hval htf hC3 hC9 hL1 hL5 hf hu huW hbx
  go_wp2_with fail
  rw [← hW, ← hb]
  have HW : Hid (b < W.heap.size) := hbl
  clear hW hb hbW hb1 hbl hsz1
  have q0 := (HK.out W (Below.refl _ _)).1
  have q1 := (HK.out W (Below.refl _ _)).2
  refine (implFirstModel_any W _ _ (HF.out W (Below.refl _ _)) (Nat.le_refl _) HSM.out).mono ?_
  rintro e w2 ⟨r, he, hr, hb2⟩
  rw [HM.out.fst] at he
  subst he
  have HB2 := Lib.hid hb2
  have HR2 := Lib.hid hr
  obtain ⟨ra, rc, rfl⟩ := hr.shape
  have q0 := (HK.out w2 hb2).1
  have q1 := (HK.out w2 hb2).2
  obtain ⟨ms, hms⟩ : ∃ ms, ms = (firstModel ⟨(L : Int), cs⟩).1 := ⟨_, rfl⟩
  rw [← hms] at HR2
  have HLM : Hid (one = true → ms.length = L) := by rw [hms]; exact HM.out.len
  rw [← hms]
  have HMS := Lib.hid hms
  clear hb2 hr hms
  go_wp2_with fail
  obtain ⟨c, hc1, hc2, hc3, hc4, hc5, s, hs1, hs2, hs3⟩ := HM.out.cnt
  have hz2 := HB2.out.size
  refine (implCountModels_any w2 _ _ (HF.out w2 HB2.out) (Nat.le_refl _) HSM.out).mono ?_
  rintro e w3 ⟨he, hb3⟩
  rw [hc1] at he
  subst he
  have HB3 := Lib.hid (HB2.out.trans (hb3.mono hz2))
  have hz3 : w2.heap.size ≤ w3.heap.size := hb3.size
  have HR3 := Lib.hid (HR2.out.below hb3 (Nat.le_refl _))
  have q0 := (HK.out w3 HB3.out).1
  have q1 := (HK.out w3 HB3.out).2
  have HC5 := Lib.hid hc5
  have HS1 := Lib.hid hs1
  have HCM := Lib.hid hc1
  have HCI : Hid (I64 c) := by constructor <;> omega
  have HC3 := Lib.hid hc3
  have HC4 := Lib.hid hc4
  have HS3 := Lib.hid hs3
  clear hb3 hc1 hc5 hs1 hc3 hc4 hs3
  go_wp2_with fail
  obtain ⟨m, vs, hm1, hm2, hm3, hm4, hm5⟩ := HM.out.mst
  refine (implMostTrue_any w3 _ _ (HF.out w3 HB3.out) (Nat.le_refl _) HSM.out).mono ?_
  rintro e w4 ⟨vr, he, hvr, hb4⟩
  rw [hm1] at he
  rw [hm1] at hvr
  subst he
  simp only at hvr
  have HB4 := Lib.hid (HB3.out.trans (hb4.mono (by omega)))
  have hz4 : w3.heap.size ≤ w4.heap.size := hb4.size
  have HR4 := Lib.hid ((HR3.out.below hb4 (by omega)).mono (Nat.le_refl _) (show w2.heap.size ≤ w4.heap.size by omega) (Nat.le_refl _))
  have HV4 := Lib.hid (hvr.mono (show W.heap.size ≤ w3.heap.size by omega) (Nat.le_refl _) (Nat.le_refl _))
  have q0 := (HK.out w4 HB4.out).1
  have q1 := (HK.out w4 HB4.out).2
  obtain ⟨va, vc, hve⟩ := hvr.shape
  rw [hm2] at hve
  subst hve
  have HM3 := Lib.hid hm3
  have HM4 := Lib.hid hm4
  have HM5 := Lib.hid hm5
  have HVL := Lib.hid hm2
  clear hb4 hm1 hvr hm2 hm3 hm4 hm5 HR2 HR3 HB2 HB3
  have he0 := emptySlice w4
  have he1 := emptySlice (w4.alloc (.cells #[] 2))
  obtain ⟨W5, hW5⟩ : ∃ X, X = (w4.alloc (.cells #[] 2)).alloc (.cells #[] 2) := ⟨_, rfl⟩
  have HA5 : Hid (OwnI W5 w4.heap.size W5.heap.size (.slice (some ⟨w4.heap.size, 0, none⟩) 0 0) []) := by rw [hW5]; exact (he0.alloc _).mono (Nat.le_refl _) (by simp) (Nat.le_refl _)
  have HE5 : Hid (OwnI W5 w4.heap.size W5.heap.size (.slice (some ⟨w4.heap.size + 1, 0, none⟩) 0 0) []) := by
    rw [hW5]
    have hx : (w4.alloc (.cells #[] 2)).heap.size = w4.heap.size + 1 := by simp
    rw [hx] at he1
    exact he1.mono (by omega) (by simp) (Nat.le_refl _)
  have hb45 : Below w4.heap.size w4 W5 := by rw [hW5]; exact (alloc_below _ _).alloc (by simp) _
  have HB45 := Lib.hid hb45
  have hz5 : w4.heap.size ≤ W5.heap.size := hb45.size
  have HKK : Hid (∀ wx, Below w4.heap.size W5 wx → Below W.heap.size W wx ∧ OwnB wx W.heap.size wx.heap.size (.slice ra ms.length rc) ms ∧ OwnB wx W.heap.size wx.heap.size (.slice va L vc) vs) := by
    intro wx hx
    have hy := HB45.out.trans hx
    have hzx := hy.size
    exact ⟨HB4.out.trans (hy.mono (by omega)), (HR4.out.below hy (Nat.le_refl _)).mono (Nat.le_refl _) hzx (Nat.le_refl _), (HV4.out.below hy (Nat.le_refl _)).mono (Nat.le_refl _) hzx (Nat.le_refl _)⟩
  clear he0 he1 hb45
  go_wp2_with fail
  rw [← hW5]
  clear hW5
  go_loopw [13, 14, 15] (fun av bv xv wr => ∃ k : Nat, k ≤ L ∧ xv = .int .i64 ((k + 1 : Nat)) ∧ OwnI wr w4.heap.size wr.heap.size av (chosen tf k) ∧ OwnI wr w4.heap.size wr.heap.size bv (upTo k) ∧ Hid (∀ p, av.ownBlock = some p → bv.ownBlock ≠ some p) ∧ Below w4.heap.size W5 wr) (fun _ _ xv _ => L + 1 - (intOf xv).toNat)
  case atStart => exact ⟨0, Nat.zero_le _, rfl, HA5.out, HE5.out, Lib.hid (by intro p hp; simp [Value.ownBlock] at hp ⊢; omega), Below.refl _ _⟩
  case round =>
    clear q0 q1
    obtain ⟨av, hav⟩ : ∃ v, v = u13 := ⟨_, rfl⟩
    obtain ⟨bv, hbv⟩ : ∃ v, v = u14 := ⟨_, rfl⟩
    rw [← hav, ← hbv] at hrel
    rw [← hav, ← hbv]
    clear hav hbv
    obtain ⟨k, hk, rfl, hoa, hob, HAP, hbr⟩ := hrel
    have HA := Lib.hid hoa
    have HE := Lib.hid hob
    have HBR := Lib.hid hbr
    have hsr : w4.heap.size ≤ wr.heap.size := by have := hbr.size; omega
    have q0 := (HK.out wr (HKK.out wr hbr).1).1
    have q1 := (HK.out wr (HKK.out wr hbr).1).2
    have hla := chosen_len tf k
    clear hoa hob hbr
    by_cases hlt : k < L
    · have HAT := Lib.hid (b10At_any v1 z1 (k + 1) 2 wr (HY.out wr (HKK.out wr HBR.out).1) (by omega) (by decide) (by decide))
      obtain ⟨x, hx⟩ : ∃ x, x = atF z1 ((k + 1 : Nat) : Int) 2 := ⟨_, rfl⟩
      have HTK := HT.out (k + 1)
      rw [← hx] at HAT HTK
      have hcs := chosen_succ tf k
      rw [HTK] at hcs
      clear hx HTK
      by_cases hx0 : x = 0
      · subst hx0
        have HCS : Hid (chosen tf (k + 1) = chosen tf k ++ [((k + 1 : Nat) : Int)]) := by rw [Hid, hcs]; rfl
        clear hcs
        go_wp2_with fail
        refine HAT.out.mono ?_
        rintro e w' ⟨rfl, rfl⟩
        go_wp2_with (at_builtin; refine wpList_app1K rfl _ _ rfl _ (chosen tf k) rfl ((k + 1 : Nat) : Int) _ HA.out rfl (by constructor <;> omega) (by omega) hsr ?_)
        intro v6 w6 ho6 hk6 hsm6 hz6 hbk6
        have HA6 := Lib.hid ho6
        have HE6 := Lib.hid (HE.out.beside (by omega) (by omega) hk6 (fun p hp hq => HAP.out p hq hp))
        have HAP6 : Hid (∀ p, v6.ownBlock = some p → Value.ownBlock bv ≠ some p) := fun p hp hq => apart_grow (w := wr) (B := wr.heap.size) (fun p hp hq => HAP.out p hq hp) (fun p hp => HE.out.own.blk p hp) hbk6 p hq hp
        have HB6 := Lib.hid (HBR.out.trans (hsm6.below (Nat.le_refl _) hsr))
        have hs6 : w4.heap.size ≤ w6.heap.size := by omega
        clear ho6 hk6 hsm6 hz6 hbk6
        go_wp2_with (at_builtin; refine wpList_app1K rfl _ _ rfl _ (upTo k) rfl ((k + 1 : Nat) : Int) _ HE6.out rfl (by constructor <;> omega) (by rw [upTo_len]; omega) hs6 ?_)
        intro v7 w7 ho7 hk7 hsm7 hz7 hbk7
        have HE7 : Hid (OwnI w7 w4.heap.size w7.heap.size v7 (upTo (k + 1))) := by rw [Hid, upTo_succ]; exact ho7
        have HA7 := Lib.hid (HA6.out.beside (by omega) (by omega) hk7 (fun p hp => HAP6.out p hp))
        have HAP7 : Hid (∀ p, Value.ownBlock v6 = some p → v7.ownBlock ≠ some p) := apart_grow (w := w6) (B := w6.heap.size) HAP6.out (fun p hp => HA6.out.own.blk p hp) hbk7
        have HB7 := Lib.hid (HB6.out.trans (hsm7.below (Nat.le_refl _) hs6))
        clear ho7 hk7 hsm7 hz7 hbk7
        go_wp2
        go_roundw
        case rel => exact ⟨k + 1, by omega, by go_num, by rw [HCS.out]; exact HA7.out, HE7.out, HAP7, HB7.out⟩
        case measure => simp [intOf]; omega
      · have HCS : Hid (chosen tf (k + 1) = chosen tf k) := by rw [Hid, hcs, if_neg (by simp [hx0])]
        clear hcs
        go_wp2_with fail
        refine HAT.out.mono ?_
        rintro e w' ⟨rfl, rfl⟩
        go_wp2_with (at_builtin; refine wpList_app1K rfl _ _ rfl _ (upTo k) rfl ((k + 1 : Nat) : Int) _ HE.out rfl (by constructor <;> omega) (by rw [upTo_len]; omega) hsr ?_)
        intro v7 w7 ho7 hk7 hsm7 hz7 hbk7
        have HE7 : Hid (OwnI w7 w4.heap.size w7.heap.size v7 (upTo (k + 1))) := by rw [Hid, upTo_succ]; exact ho7
        have HA7 := Lib.hid (HA.out.beside (by omega) (by omega) hk7 (fun p hp => HAP.out p hp))
        have HAP7 : Hid (∀ p, Value.ownBlock av = some p → v7.ownBlock ≠ some p) := apart_grow (w := wr) (B := wr.heap.size) HAP.out (fun p hp => HA.out.own.blk p hp) hbk7
        have HB7 := Lib.hid (HBR.out.trans (hsm7.below (Nat.le_refl _) hsr))
        clear ho7 hk7 hsm7 hz7 hbk7
        go_wp2
        go_roundw
        case rel => exact ⟨k + 1, by omega, by go_num, by rw [HCS.out]; exact HA7.out, HE7.out, HAP7, HB7.out⟩
        case measure => simp [intOf]; omega
    · obtain rfl : L = k := by omega
      clear hla
      have hzr := HBR.out.size
      go_wp2_with fail
      refine (implCountOn_any wr _ _ av (chosen tf L) (HF.out wr (HKK.out wr HBR.out).1) (Nat.le_refl _) HSM.out HA.out.rd (Nat.le_refl _) (by have := chosen_len tf L; omega)).mono ?_
      rintro e w6 ⟨he, hb6⟩
      rw [HS1.out] at he
      subst he
      have HB6 := Lib.hid (HBR.out.trans (hb6.mono hsr))
      have HE6 := Lib.hid (HE.out.below hb6 (Nat.le_refl _))
      have hz6 : wr.heap.size ≤ w6.heap.size := hb6.size
      have q0 := (HK.out w6 (HKK.out w6 HB6.out).1).1
      have q1 := (HK.out w6 (HKK.out w6 HB6.out).1).2
      clear hb6
      go_wp2_with fail
      refine (implCountOn_any w6 _ _ bv (upTo L) (HF.out w6 (HKK.out w6 HB6.out).1) (Nat.le_refl _) HSM.out HE6.out.rd hz6 (by rw [upTo_len]; omega)).mono ?_
      rintro e w7 ⟨he, hb7⟩
      rw [HC5.out] at he
      subst he
      have HB7 := Lib.hid (HB6.out.trans (hb7.mono (by omega)))
      have hz7 : w6.heap.size ≤ w7.heap.size := hb7.size
      have q0 := (HK.out w7 (HKK.out w7 HB7.out).1).1
      have q1 := (HK.out w7 (HKK.out w7 HB7.out).1).2
      clear hb7
      obtain ⟨nn, hn1, hn2, hn3⟩ := HM.out.non
      have HN1 := Lib.hid hn2
      have HN0 := Lib.hid hn3
      go_wp2_with fail
      refine (implCountOn_any w7 _ _ (.slice none 0 0) [] (HF.out w7 (HKK.out w7 HB7.out).1) (Nat.le_refl _) HSM.out (Ints.nil _ 0 0) (Nat.zero_le _) (by simp)).mono ?_
      rintro e w8 ⟨he, hb8⟩
      rw [hn1] at he
      subst he
      have HB8 := Lib.hid (HB7.out.trans (hb8.mono (by omega)))
      have hz8 : w7.heap.size ≤ w8.heap.size := hb8.size
      have q0 := (HK.out w8 (HKK.out w8 HB8.out).1).1
      have q1 := (HK.out w8 (HKK.out w8 HB8.out).1).2
      have HDW : Hid (Drew w8 w8.drew) := ⟨1, rfl⟩
      have hk8 := (HKK.out w8 HB8.out).1
      have HK8 := Lib.hid hk8
      have kD : Below W.heap.size W w8.drew := hk8.trans (HDW.out.below _)
      have hdz : Drew (w8.alloc (.cells #[.int .i64 L, .slice fa cs.length fc, .int .i64 L, .slice fa cs.length fc] 26)) (w8.alloc (.cells #[.int .i64 L, .slice fa cs.length fc, .int .i64 L, .slice fa cs.length fc] 26)).drew := ⟨1, rfl⟩
      have hdz2 : (w8.alloc (.cells #[.int .i64 L, .slice fa cs.length fc, .int .i64 L, .slice fa cs.length fc] 26)).drew.heap.size = w8.heap.size + 1 := by rw [hdz.heap]; simp
      have ka : Below W.heap.size W (w8.alloc (.cells #[.int .i64 L, .slice fa cs.length fc, .int .i64 L, .slice fa cs.length fc] 26)).drew := (hk8.alloc hk8.size _).trans (hdz.below _)
      have HAT := Lib.hid (fun wx (hx : Below W.heap.size W wx) => b10At_any v1 z1 0 8 wx (HY.out wx hx) (by decide) (by decide) (by decide))
      have hxr := atF_rng z1 0 8 (by decide)
      obtain ⟨x, hx⟩ : ∃ x, x = atF z1 0 8 := ⟨_, rfl⟩
      simp only [show ((0 : Nat) : Int) = 0 from rfl, ← hx] at HAT
      rw [← hx] at hxr
      clear hx
      have hxw : IntKind.i64.wrap (1 + x) = 1 + x := IntWalk.i64_in _ (by omega)
      have HSHR : Hid (Calls Try.prog 24 #[.slice (some ⟨w8.heap.size, 0, none⟩) 2 2, .int .i64 (1 + x)] (w8.alloc (.cells #[.int .i64 L, .slice fa cs.length fc, .int .i64 L, .slice fa cs.length fc] 26)).drew fun e w' => ∃ r, e = .returned (.tuple #[r, .bool true]) ∧ OwnI w' (w8.heap.size + 1) w'.heap.size r [c, c] ∧ Below (w8.heap.size + 1) (w8.alloc (.cells #[.int .i64 L, .slice fa cs.length fc, .int .i64 L, .slice fa cs.length fc] 26)).drew w') := by
        have ht := twoForms (w := w8) (L := (L : Int)) (HI.out w8 hk8) (Nat.le_refl _) kL 26
        have := implFormsShared_any _ _ _ (1 + x) (ht.drew hdz) (by rw [hdz2]; exact Nat.le_refl _) ⟨by simp, by intro f hf; simp at hf; rcases hf with rfl | rfl <;> exact HSM.out⟩ (by constructor <;> omega)
        rw [shared_two HV.out HCM.out (by omega) (by omega)] at this
        rw [hdz2] at this
        exact this
      have HSQ := Lib.hid (fun r (wx : World) (ho : OwnI (wx.alloc (.cells #[.int .i64 c, .int .i64 c] 2)) (w8.heap.size + 1) wx.heap.size r [c, c]) => b10Ints_any r (.slice (some ⟨wx.heap.size, 0, none⟩) 2 2) [c, c] [c, c] (wx.alloc (.cells #[.int .i64 c, .int .i64 c] 2)) ho.rd (twoInts wx c HCI.out))
      have hKz : W.heap.size ≤ w8.heap.size + 1 := by have := hk8.size; omega
      have hKS : Hid (∀ wx, Below W.heap.size W wx → (wx.cell? ⟨b, 0, none⟩ = some (.int .i64 L) ∧ wx.cell? ⟨b, 1, none⟩ = some (.slice fa cs.length fc))) := HK
      have hWz : W.heap.size ≤ w8.heap.size := hk8.size
      cases one
      · obtain rfl : c = 0 := HC4.out rfl
        obtain rfl : s = 0 := by omega
        obtain rfl : nn = 0 := HN0.out rfl
        have hm1 : m < (cs.length : Int) := HM4.out rfl
        have hm2 : m ≠ (cs.length : Int) := by omega
        have g1 : (m == (cs.length : Int)) = false := by simp; omega
        clear HM3 hm1 HC3 HC4 HS3
        go_wp2_with fail
        go_region_held3 (fun w' => w'.cell? ⟨b, 0, none⟩ = some (.int .i64 L) ∧ w'.cell? ⟨b, 1, none⟩ = some (.slice fa cs.length fc)) (first | exact hKS.out _ kD | exact hKS.out _ ka | exact hKS.out _ kb10) (first | (go_at_call 16; refine (HAT.out _ (by first | exact kD | exact ka)).mono ?_; rintro e wz ⟨rfl, rfl⟩) | (go_at_call 24; refine HSHR.out.mono ?_; rintro e w10 ⟨r9, rfl, ho10, hb10⟩; have kb10 := ka.trans (hb10.mono hKz); obtain ⟨r9a, r9c, rfl⟩ := ho10.shape2))
        all_goals
          have HO10 := Lib.hid (ho10)
          have HB10 := Lib.hid kb10
          have hz10 : w8.heap.size + 1 ≤ w10.heap.size := by have := ho10.own.hsz; have := hb10.size; rw [hdz2] at this; omega
          have hr10 : OwnB w10 W.heap.size w8.heap.size (.slice ra ms.length rc) ms ∧ OwnB w10 W.heap.size w8.heap.size (.slice va L vc) vs := by
            have hy : Below w8.heap.size w8 w10 := ((Below.refl w8.heap.size w8).alloc (Nat.le_refl _) _).trans ((hdz.below _).trans (hb10.mono (by omega)))
            exact ⟨(HKK.out w8 HB8.out).2.1.below hy (Nat.le_refl _), (HKK.out w8 HB8.out).2.2.below hy (Nat.le_refl _)⟩
          have HR10 := Lib.hid hr10
          have q0 := (HK.out w10 kb10).1
          have q1 := (HK.out w10 kb10).2
          clear hr10 kb10 hb10 ho10
          go_wp2_with fail
          refine (implValidForm_any w10 _ _ (HF.out w10 HB10.out) (Nat.le_refl _) HSM.out).mono ?_
          rintro e w11 ⟨he11, hb11⟩
          rw [HV.out] at he11
          subst he11
          have HB11 := Lib.hid (HB10.out.trans (hb11.mono HB10.out.size))
          have HO11 := Lib.hid (HO10.out.below hb11 (Nat.le_refl _))
          have hz11 := hb11.size
          have HR11 : Hid (OwnB w11 W.heap.size w8.heap.size (.slice ra ms.length rc) ms ∧ OwnB w11 W.heap.size w8.heap.size (.slice va L vc) vs) := ⟨HR10.out.1.below hb11 (by omega), HR10.out.2.below hb11 (by omega)⟩
          have q0 := (HK.out w11 HB11.out).1
          have q1 := (HK.out w11 HB11.out).2
          clear hb11
          go_wp2_with fail
          refine (implSameForm_any w11 _ _ _ _ (HF.out w11 HB11.out) (Nat.le_refl _) HSM.out (HF.out w11 HB11.out) (Nat.le_refl _) HSM.out).mono ?_
          rintro e w12 ⟨he12, hb12⟩
          rw [sameForm_self] at he12
          subst he12
          have HB12 := Lib.hid (HB11.out.trans (hb12.mono HB11.out.size))
          have HO12 := Lib.hid (HO11.out.below hb12 hz11)
          have hz12 := hb12.size
          have HR12 : Hid (OwnB w12 W.heap.size w8.heap.size (.slice ra ms.length rc) ms ∧ OwnB w12 W.heap.size w8.heap.size (.slice va L vc) vs) := ⟨HR11.out.1.below hb12 (by omega), HR11.out.2.below hb12 (by omega)⟩
          have q0 := (HK.out w12 HB12.out).1
          have q1 := (HK.out w12 HB12.out).2
          clear hb12
          go_wp2_with fail
          have hq12 := HO12.out.alloc (.cells #[.int .i64 0, .int .i64 0] 2)
          refine (b10Ints_any _ _ [0, 0] [0, 0] _ hq12.rd (twoInts w12 0 HCI.out)).mono ?_
          rintro e w13 ⟨he13, hd13⟩
          obtain rfl : e = Ending.returned (Value.bool true) := by rw [he13]; simp
          clear he13
          have hy13 : Below w12.heap.size w12 w13 := ((Below.refl w12.heap.size w12).alloc (Nat.le_refl _) _).trans (hd13.below _)
          have HB13 := Lib.hid (HB12.out.trans (hy13.mono HB12.out.size))
          have hz13 := hy13.size
          have HR13 : Hid (OwnB w13 W.heap.size w8.heap.size (.slice ra ms.length rc) ms ∧ OwnB w13 W.heap.size w8.heap.size (.slice va L vc) vs) := ⟨HR12.out.1.below hy13 (by omega), HR12.out.2.below hy13 (by omega)⟩
          have q0 := (HK.out w13 HB13.out).1
          have q1 := (HK.out w13 HB13.out).2
          clear hy13 hd13 hq12
          go_wp2_with fail
          refine (specHoldsBy_any w13 _ _ _ vs (HF.out w13 HB13.out) (Nat.le_refl _) HSM.out HR13.out.2.rd (by omega) (by rw [HVL.out]; omega)).mono ?_
          rintro e w14 ⟨he14, hb14⟩
          rw [HM5.out] at he14
          subst he14
          have HB14 := Lib.hid (HB13.out.trans (hb14.mono HB13.out.size))
          have hz14 := hb14.size
          have HR14 : Hid (OwnB w14 W.heap.size w8.heap.size (.slice ra ms.length rc) ms ∧ OwnB w14 W.heap.size w8.heap.size (.slice va L vc) vs) := ⟨HR13.out.1.below hb14 (by omega), HR13.out.2.below hb14 (by omega)⟩
          have q0 := (HK.out w14 HB14.out).1
          have q1 := (HK.out w14 HB14.out).2
          clear hb14
          go_wp2_with fail
          refine (implHoldsBy_any w14 _ _ _ vs (HF.out w14 HB14.out) (Nat.le_refl _) HSM.out HR14.out.2.rd (by omega) (by rw [HVL.out]; omega)).mono ?_
          rintro e w15 ⟨he15, hb15⟩
          rw [HM5.out] at he15
          subst he15
          have HB15 := Lib.hid (HB14.out.trans (hb15.mono HB14.out.size))
          have hz15 := hb15.size
          have HR15 : Hid (OwnB w15 W.heap.size w8.heap.size (.slice ra ms.length rc) ms ∧ OwnB w15 W.heap.size w8.heap.size (.slice va L vc) vs) := ⟨HR14.out.1.below hb15 (by omega), HR14.out.2.below hb15 (by omega)⟩
          have q0 := (HK.out w15 HB15.out).1
          have q1 := (HK.out w15 HB15.out).2
          clear hb15
          go_wp2_with fail
          go_ret
          exact ⟨rfl, HBW.out.trans (HB15.out.mono hWs)⟩
      · have hc0 : (0 : Int) < c := HC3.out rfl
        have hs0 : (0 : Int) < s := HS3.out rfl
        obtain rfl : nn = 1 := HN1.out rfl
        obtain rfl : m = (cs.length : Int) := HM3.out rfl
        have g1 : decide ((0 : Int) < c) = true := decide_eq_true hc0
        have g2 : decide ((0 : Int) < s) = true := decide_eq_true hs0
        have g3 : decide (c < s) = false := decide_eq_false (by omega)
        have g4 : decide (c < 0) = false := decide_eq_false (by omega)
        have g5 : ¬ c < s := by omega
        have g6 : ¬ c < 0 := by omega
        have hml : ms.length = L := HLM.out rfl
        clear HM3 HM4 HC3 HC4 HS3 HN1 HN0
        rw [hml] at HR4 HKK
        rw [hml]
        have HML := Lib.hid hml
        clear hml
        go_wp2_with fail
        go_region_held3 (fun w' => w'.cell? ⟨b, 0, none⟩ = some (.int .i64 L) ∧ w'.cell? ⟨b, 1, none⟩ = some (.slice fa cs.length fc)) (first | exact hKS.out _ kD | exact hKS.out _ ka | exact hKS.out _ kb10) (first | (go_at_call 16; refine (HAT.out _ (by first | exact kD | exact ka)).mono ?_; rintro e wz ⟨rfl, rfl⟩) | (go_at_call 24; refine HSHR.out.mono ?_; rintro e w10 ⟨r9, rfl, ho10, hb10⟩; have kb10 := ka.trans (hb10.mono hKz); obtain ⟨r9a, r9c, rfl⟩ := ho10.shape2))
        all_goals
          have HO10 := Lib.hid (ho10)
          have HB10 := Lib.hid kb10
          have hz10 : w8.heap.size + 1 ≤ w10.heap.size := by have := ho10.own.hsz; have := hb10.size; rw [hdz2] at this; omega
          have hr10 : OwnB w10 W.heap.size w8.heap.size (.slice ra L rc) ms ∧ OwnB w10 W.heap.size w8.heap.size (.slice va L vc) vs := by
            have hy : Below w8.heap.size w8 w10 := ((Below.refl w8.heap.size w8).alloc (Nat.le_refl _) _).trans ((hdz.below _).trans (hb10.mono (by omega)))
            exact ⟨(HKK.out w8 HB8.out).2.1.below hy (Nat.le_refl _), (HKK.out w8 HB8.out).2.2.below hy (Nat.le_refl _)⟩
          have HR10 := Lib.hid hr10
          have q0 := (HK.out w10 kb10).1
          have q1 := (HK.out w10 kb10).2
          clear hr10 kb10 hb10 ho10
          go_wp2_with fail
          refine (implValidForm_any w10 _ _ (HF.out w10 HB10.out) (Nat.le_refl _) HSM.out).mono ?_
          rintro e w11 ⟨he11, hb11⟩
          rw [HV.out] at he11
          subst he11
          have HB11 := Lib.hid (HB10.out.trans (hb11.mono HB10.out.size))
          have HO11 := Lib.hid (HO10.out.below hb11 (Nat.le_refl _))
          have hz11 := hb11.size
          have HR11 : Hid (OwnB w11 W.heap.size w8.heap.size (.slice ra L rc) ms ∧ OwnB w11 W.heap.size w8.heap.size (.slice va L vc) vs) := ⟨HR10.out.1.below hb11 (by omega), HR10.out.2.below hb11 (by omega)⟩
          have q0 := (HK.out w11 HB11.out).1
          have q1 := (HK.out w11 HB11.out).2
          clear hb11
          go_wp2_with fail
          refine (implSameForm_any w11 _ _ _ _ (HF.out w11 HB11.out) (Nat.le_refl _) HSM.out (HF.out w11 HB11.out) (Nat.le_refl _) HSM.out).mono ?_
          rintro e w12 ⟨he12, hb12⟩
          rw [sameForm_self] at he12
          subst he12
          have HB12 := Lib.hid (HB11.out.trans (hb12.mono HB11.out.size))
          have HO12 := Lib.hid (HO11.out.below hb12 hz11)
          have hz12 := hb12.size
          have HR12 : Hid (OwnB w12 W.heap.size w8.heap.size (.slice ra L rc) ms ∧ OwnB w12 W.heap.size w8.heap.size (.slice va L vc) vs) := ⟨HR11.out.1.below hb12 (by omega), HR11.out.2.below hb12 (by omega)⟩
          have q0 := (HK.out w12 HB12.out).1
          have q1 := (HK.out w12 HB12.out).2
          clear hb12
          go_wp2_with fail
          have hq12 := HO12.out.alloc (.cells #[.int .i64 c, .int .i64 c] 2)
          refine (b10Ints_any _ _ [c, c] [c, c] _ hq12.rd (twoInts w12 c HCI.out)).mono ?_
          rintro e w13 ⟨he13, hd13⟩
          obtain rfl : e = Ending.returned (Value.bool true) := by rw [he13]; simp
          clear he13
          have hy13 : Below w12.heap.size w12 w13 := ((Below.refl w12.heap.size w12).alloc (Nat.le_refl _) _).trans (hd13.below _)
          have HB13 := Lib.hid (HB12.out.trans (hy13.mono HB12.out.size))
          have hz13 := hy13.size
          have HR13 : Hid (OwnB w13 W.heap.size w8.heap.size (.slice ra L rc) ms ∧ OwnB w13 W.heap.size w8.heap.size (.slice va L vc) vs) := ⟨HR12.out.1.below hy13 (by omega), HR12.out.2.below hy13 (by omega)⟩
          have q0 := (HK.out w13 HB13.out).1
          have q1 := (HK.out w13 HB13.out).2
          clear hy13 hd13 hq12
          go_wp2_with fail
          refine (specHoldsBy_any w13 _ _ _ vs (HF.out w13 HB13.out) (Nat.le_refl _) HSM.out HR13.out.2.rd (by omega) (by rw [HVL.out]; omega)).mono ?_
          rintro e w14 ⟨he14, hb14⟩
          rw [HM5.out] at he14
          subst he14
          have HB14 := Lib.hid (HB13.out.trans (hb14.mono HB13.out.size))
          have hz14 := hb14.size
          have HR14 : Hid (OwnB w14 W.heap.size w8.heap.size (.slice ra L rc) ms ∧ OwnB w14 W.heap.size w8.heap.size (.slice va L vc) vs) := ⟨HR13.out.1.below hb14 (by omega), HR13.out.2.below hb14 (by omega)⟩
          have q0 := (HK.out w14 HB14.out).1
          have q1 := (HK.out w14 HB14.out).2
          clear hb14
          go_wp2_with fail
          refine (implHoldsBy_any w14 _ _ _ vs (HF.out w14 HB14.out) (Nat.le_refl _) HSM.out HR14.out.2.rd (by omega) (by rw [HVL.out]; omega)).mono ?_
          rintro e w15 ⟨he15, hb15⟩
          rw [HM5.out] at he15
          subst he15
          have HB15 := Lib.hid (HB14.out.trans (hb15.mono HB14.out.size))
          have hz15 := hb15.size
          have HR15 : Hid (OwnB w15 W.heap.size w8.heap.size (.slice ra L rc) ms ∧ OwnB w15 W.heap.size w8.heap.size (.slice va L vc) vs) := ⟨HR14.out.1.below hb15 (by omega), HR14.out.2.below hb15 (by omega)⟩
          have q0 := (HK.out w15 HB15.out).1
          have q1 := (HK.out w15 HB15.out).2
          clear hb15
          go_wp2_with fail
          refine (specFirstModel_any w15 _ _ (HF.out w15 HB15.out) (Nat.le_refl _) HSM.out).mono ?_
          rintro e w16 ⟨r16, he16, ho16, hb16⟩
          rw [HM.out.fst] at he16
          subst he16
          rw [← HMS.out] at ho16
          have HB16 := Lib.hid (HB15.out.trans (hb16.mono HB15.out.size))
          have hz16 := hb16.size
          have HP16 : Hid (OwnB w16 W.heap.size w8.heap.size (.slice ra L rc) ms) := HR15.out.1.below hb16 (by omega)
          obtain ⟨r16a, r16c, hre⟩ := ho16.shape
          rw [HML.out] at hre
          subst hre
          have HO16 := Lib.hid ho16
          have q0 := (HK.out w16 HB16.out).1
          have q1 := (HK.out w16 HB16.out).2
          clear hb16 ho16
          go_wp2_with fail
          go_loopw [234] (fun iv wr2 => ∃ k2 : Nat, k2 ≤ L ∧ iv = .int .i64 k2 ∧ Drew w16 wr2) (fun iv _ => L - (intOf iv).toNat)
          case atStart => exact ⟨0, Nat.zero_le _, rfl, Drew.refl _⟩
          case round =>
            obtain ⟨k2, hk2, rfl, hD2⟩ := hrel
            have hcw := hD2.cell
            by_cases hlt2 : k2 < L
            · rcases HP16.out.rd.out with ⟨a1, c1, ee1, _, _, hd1⟩
              rcases HO16.out.rd.out with ⟨a2, c2, ee2, _, _, hd2⟩
              have hl1' : k2 < ms.length := by rw [HML.out]; exact hlt2
              rw [HML.out] at ee1 ee2
              injection ee1 with x1 x2 x3
              injection ee2 with y1 y2 y3
              subst x1 x3 y1 y3
              rcases hd1 with hd1 | ⟨b1, o1, rfl, _, _, _, hcell1⟩
              · rw [hd1] at hl1'; simp at hl1'
              rcases hd2 with hd2 | ⟨b2, o2, rfl, _, _, _, hcell2⟩
              · rw [hd2] at hl1'; simp at hl1'
              have hck := hcell1 k2 hl1'
              have gck := hcell2 k2 hl1'
              obtain ⟨y, hy⟩ : ∃ y, y = ms.getD k2 false := ⟨_, rfl⟩
              rw [← hy] at hck gck
              clear hcell1 hcell2 hy hl1' x2 y2
              go_wp2_with fail
              go_quiet (fail)
              go_wp2
              go_roundw
              case rel => exact ⟨k2 + 1, by omega, by go_num, hD2.step _⟩
              case measure => simp [intOf]; omega
            · obtain rfl : L = k2 := by omega
              go_wp2
              go_ret
              exact ⟨rfl, HBW.out.trans ((HB16.out.trans (hD2.below _)).mono hWs)⟩

set_option maxRecDepth 100000 in
theorem FnModels_lifted (os : Os) (started : os.Started) (H : Type) (enc : TypeId × Value → H) :
    ReturnsInHanded {} Try.checked os 4 .any (Rows.fnModelsSpec.pre6 enc Try.prog Try.f4 Rows.fnModelsRow.domain false) (Rows.fnModelsSpec.post enc Try.prog Try.f4 false true false false) := by
  refine returnsInHanded_of_change (C := Try.checked) own_knob started (by kernel_rfl) Try.func4
    (ChangeSpec.witness6 (enc := enc) (C := Try.checked) false ⟨#[], #[.slice none 0 0, .slice none 0 0], []⟩ 8 (by kernel_rfl) (by kernel_rfl) (by kernel_rfl) (by kernel_rfl)) ?_
  intro W base args ds gs before hval0 hW hcnd _
  have hval : ∀ (j : Nat) t v, Try.f4.params[j]? = some t → args[j]? = some v → Value.okWide Try.prog W .any base t v := hval0
  have hW' := hW
  obtain ⟨p, q, hA0, hV, rfl, hfz, hnd⟩ := hW
  have hA : DataW.TrodAll enc Try.prog W 0 (fun _ => true) true Try.f4.params.toList args.toList ds p := hA0
  rw [Try.params4] at hA hval
  obtain ⟨v0, vs0, d0, ds0, p0, q0, hargs, rfl, rfl, h0, r0⟩ := trodAll_cons hA
  obtain ⟨v1, vs1, d1, ds1, p1, q1, rfl, rfl, rfl, h1, r1⟩ := trodAll_cons r0
  obtain ⟨rfl, rfl, rfl⟩ := trodAll_nil r1
  obtain rfl : args = #[v0, v1] := by cases args; simp_all
  obtain ⟨rfl, rfl⟩ := trodVars_none hV
  have lt0 : ∀ x ∈ p0, x.block < W.heap.size := by obtain ⟨m, hm⟩ := h0; exact DataW.trod_lt m _ _ _ hm
  obtain ⟨z0, k0⟩ := open_Y (hval 0 22 v0 rfl rfl) h0
  have lt1 : ∀ x ∈ p1, x.block < W.heap.size := by obtain ⟨m, hm⟩ := h1; exact DataW.trod_lt m _ _ _ hm
  obtain ⟨z1, k1⟩ := open_Y (hval 1 22 v1 rfl rfl) h1
  clear hA0 hval0
  refine (FnModels_walk W v0 z0 k0 v1 z1 k1).mono fun e W' ⟨he, bel⟩ => ?_
  subst he
  exact ⟨_, rfl, _, _, _, [], _, [], hW', trodAll_mk1 (shut_bool Try.underlying4 _), (trodAll_cons_mk (Below.trod laid_out (by kernel_rfl) (of_decide_eq_true (by kernel_rfl)) h0 bel lt0) (trodAll_cons_mk (Below.trod laid_out (by kernel_rfl) (of_decide_eq_true (by kernel_rfl)) h1 bel lt1) trodAll_mk0)), rfl, bel.frame _, fun h => by cases h⟩

theorem FnModels_over : Rows.fnModelsRow.holds Try.pinned (OpenSpec.ofChange Rows.fnModelsSpec) :=
  OpenClaim.holds_of_wide 4 Try.f4 rfl rfl rfl rfl rfl rfl rfl ⟨rfl, rfl, rfl, rfl, rfl⟩ rfl rfl rfl rfl rfl (by kernel_rfl) Try.func4 (by kernel_rfl)
    (of_decide_eq_true (by kernel_rfl)) (by unfold Func.isWrapper; first | (rw [if_pos (by decide +kernel)]; kernel_rfl) | (rw [if_neg (by decide +kernel)]; exact ⟨rfl, rfl⟩))
    (fun os started H enc _ => FnModels_lifted os started H enc)

/-- The statement. -/
theorem FnModels_proved : Rows.FnModelsSaid := FnModels_over

end Go.Proofs.Ytcpbgjnijhcpkaa
