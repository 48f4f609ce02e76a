/-
  FnPacks: the least number of bins, in the program.
-/
import Derived.Test.YtkankfdpodofjaaPackU
import Derived.Test.YtkankfdpodofjaaStepI
import Derived.Deep.RegionLaw
import Derived.Deep.DeepCutAuto
namespace Go.Proofs.Ytkankfdpodofjaa
open Go.RowKit
set_option linter.unusedVariables false
set_option maxRecDepth 100000

theorem oneIntB (w : World) (x : Int) (hx : I64 x) (t : TypeId) : Ints (w.alloc (.cells #[.int .i64 x] t)) w.heap.size (w.heap.size + 1) (.slice (some ⟨w.heap.size, 0, none⟩) 1 1) [x] :=
  ⟨⟨some ⟨w.heap.size, 0, none⟩, 1, rfl, Nat.le_refl _, by omega, .inr ⟨w.heap.size, 0, rfl, Nat.le_refl _, by omega, by simp, fun i hi => by
    have : i = 0 := by simp at hi; omega
    subst this
    exact one_new _ _ _⟩⟩, by simpa using hx⟩
theorem wrapB (x : Int) (h : I64 x) : IntKind.i64.wrap x = x := by
  unfold I64 at h
  exact IntWalk.i64_in _ (by omega)
theorem OwnI.shapeB {w : World} {lo hi : Nat} {v : Value} {zs : List Int} {z : Int} (h : OwnI w lo hi v (zs ++ [z])) : ∃ a cap, v = .slice a (zs.length + 1) cap := by
  obtain ⟨a, cap, e, _⟩ := h.rd.out; exact ⟨a, cap, by rw [e, List.length_append]; rfl⟩
set_option maxHeartbeats 4000000 in
set_option maxRecDepth 100000 in
theorem fewest_any {n R : Nat} {ss gs : List Int} (H : PkH n R ss gs) : ∀ (d i : Nat), i + d = n → ∀ (w : World) {l h l' h' : Nat} (v : Value) (u : Value) (B : List Int), Ints w l h v ss → h ≤ w.heap.size → Ints w l' h' u B → h' ≤ w.heap.size → B.length ≤ i → (∀ e ∈ B, 0 ≤ e ∧ e ≤ (R : Int)) →
    Calls Try.prog 67 #[v, u, .int .i64 R, .int .i64 i] w fun e w' => e = .returned (.int .i64 (few R (ss.drop i) B)) ∧ Below w.heap.size w w' := by
  have h1 := H.n1
  have h7 := H.n7
  have hr1 := H.r1
  have hr2 := H.r2
  have HP := Lib.hid H
  have HL := Lib.hid H.ls
  intro d
  induction d with
  | zero =>
    intro i hid w l h l' h' v u B hv hh hu hh' hl hB
    obtain rfl : i = n := by omega
    obtain ⟨b, off, cap, rfl, hc1, hc2, hb, SC⟩ := hv.seen hh HL.out h1
    obtain ⟨ua, uc, rfl, u1, u2, ud⟩ := hu.out
    have HF : Hid (few R (ss.drop i) B = (B.length : Int)) := by rw [Hid, drop_len _ _ (by have := HL.out; omega)]; rfl
    clear hv hu ud
    go_enter Try.func67, Try.ntmps67
    go_wp2_with fail
    refine (size_any _ (by omega) _).mono ?_
    rintro e wz ⟨rfl, rfl⟩
    go_wp2
    go_ret
    exact ⟨by rw [HF.out]; rfl, Below.refl _ _⟩
  | succ d ih =>
    intro i hid w l h l' h' v u B hv hh hu hh' hl hB
    have hin : i < n := by omega
    have zne : ¬ ((i : Int) = (n : Int)) := by omega
    have zeq : ((i : Int) == (n : Int)) = false := by simp; omega
    have HV := Lib.hid hv
    have HU := Lib.hid hu
    have hcp : ∀ wx, Below w.heap.size w wx → Calls Try.prog 52 #[u] wx fun e w' => ∃ u', e = .returned u' ∧ OwnI w' wx.heap.size w'.heap.size u' B ∧ Below wx.heap.size wx w' := fun wx hb => copyInts_any _ B wx (hu.below hb hh') (by have := hb.size; omega) (by omega)
    have hsr := HP.out.sAt hin
    have hrec : ∀ wx (uv : Value) (V : List Int), Below w.heap.size w wx → OwnI wx w.heap.size wx.heap.size uv V → V.length ≤ i + 1 → (∀ e ∈ V, 0 ≤ e ∧ e ≤ (R : Int)) → Calls Try.prog 67 #[v, uv, .int .i64 R, .int .i64 ((i : Int) + 1)] wx fun e w' => e = .returned (.int .i64 (few R (ss.drop (i + 1)) V)) ∧ Below wx.heap.size wx w' := fun wx uv V hb ho hl2 hV => by
      have := ih (i + 1) (by omega) wx v uv V (hv.below hb hh) (by have := hb.size; omega) ho.rd (Nat.le_refl _) hl2 hV
      rw [show ((i + 1 : Nat) : Int) = (i : Int) + 1 by omega] at this
      exact this
    have hdr : ss.drop i = ss.getD i 0 :: ss.drop (i + 1) := by
      have := HL.out
      rw [drop_cons ss i (by omega)]; simp [List.getD, show i < ss.length by omega]
    obtain ⟨rest, hrest⟩ : ∃ r, r = ss.drop (i + 1) := ⟨_, rfl⟩
    rw [← hrest] at hrec hdr
    rw [hdr]
    obtain ⟨b, off, cap, rfl, hc1, hc2, hb, SC0⟩ := hv.seen hh HL.out h1
    have sc : ∀ wx, Below w.heap.size w wx → wx.cell? ⟨b, off + i, none⟩ = some (.int .i64 (ss.getD i 0)) := fun wx hb => SC0.out wx i hb hin
    obtain ⟨s, hs⟩ : ∃ s, s = ss.getD i 0 := ⟨_, rfl⟩
    rw [← hs] at sc hsr ⊢
    have SC := Lib.hid sc
    have HCP := Lib.hid hcp
    have HREC := Lib.hid hrec
    obtain ⟨ua, uc, rfl, u1, u2, ud⟩ := hu.out
    have HUD := Lib.hid ud
    have HBR := Lib.hid hB
    have HF0 : Hid (fewTo R s rest B 0 = few R rest (B ++ [(R : Int) - s])) := fewTo_zero _ _ _ _
    have HFE : Hid (few R (s :: rest) B = fewTo R s rest B B.length) := few_cons _ _ _ _
    have HFS : Hid (∀ k, fewTo R s rest B (k + 1) = if s ≤ B.getD k 0 then min (fewTo R s rest B k) (few R rest (B.set k (B.getD k 0 - s))) else fewTo R s rest B k) := fewTo_succ _ _ _ _
    clear hv hu ud hcp hrec hdr hrest SC0 sc hs hB ih
    go_enter Try.func67, Try.ntmps67
    go_upto_region 3 with (fail)
    go_cut [9] from 20 to 34 (fun bv wx => bv = .int .i64 (fewTo R s rest B 0) ∧ Hid (Below w.heap.size w wx))
    case first =>
      have hDr : Drew w w.drew := ⟨1, rfl⟩
      have HBD : Hid (Below w.heap.size w w.drew) := hDr.below _
      have k0 := SC.out w.drew HBD.out
      obtain ⟨x, hx⟩ : ∃ x, x = (R : Int) - s := ⟨_, rfl⟩
      have ki : I64 x := by unfold I64; omega
      have hwx : IntKind.i64.wrap ((R : Int) - s) = x := by rw [hx]; exact wrapB _ (by rw [← hx]; exact ki)
      have hwx2 : (R : Int) - s = x := hx.symm
      have hwi : IntKind.i64.wrap ((i : Int) + 1) = (i : Int) + 1 := wrapB _ (by unfold I64; omega)
      have hwx3 : IntKind.i64.wrap x = x := wrapB _ ki
      have HBD2 : Hid (Below w.heap.size w (w.drew.alloc (.cells #[.int .i64 x] 2))) := HBD.out.trans ((below_newW w.drew _).mono (Nat.le_refl _))
      have HX2 : Hid (Ints (w.drew.alloc (.cells #[.int .i64 x] 2)) w.heap.size (w.heap.size + 1) (.slice (some ⟨w.heap.size, 0, none⟩) 1 1) [x]) := oneIntB w.drew _ ki 2
      have HLN : Hid (B.length + [x].length ≤ 1099511627776) := by rw [Hid]; simp; omega
      have HKI := Lib.hid ki
      have HNR : Hid (∀ e ∈ B ++ [x], 0 ≤ e ∧ e ≤ (R : Int)) := fun e he => by
        rcases List.mem_append.1 he with he | he
        · exact HBR.out e he
        · rw [List.mem_singleton] at he; omega
      have HNL : Hid ((B ++ [x]).length ≤ i + 1) := by rw [Hid]; simp; omega
      rw [hwx2] at HF0
      clear hDr ki HFE HFS hx
      go_region_law (first
        | (go_simp; go_at_call 52; refine (HCP.out w.drew HBD.out).mono ?_; rintro e w3 ⟨u3, rfl, ho3, hb3⟩; obtain ⟨qa, qc, rfl⟩ := ho3.shape'; have hb3' : Below w.heap.size w w3 := HBD.out.trans hb3; have hs3 := hb3.size; have j0 := SC.out w3 hb3'; have hba3 : Below w3.heap.size w3 (w3.alloc (.cells #[.int .i64 x] 2)) := below_newW _ _; have HOA : Hid (OwnI (w3.alloc (.cells #[.int .i64 x] 2)) w.heap.size w3.heap.size (.slice qa B.length qc) B) := Lib.hid (ho3.below hba3 (Nat.le_refl _)); have HXA := Lib.hid (oneIntB w3 _ HKI.out 2); have HBB := Lib.hid (hb3'.trans (hba3.mono hs3)); clear ho3 hb3 hb3' hba3)
        | (go_simp; go_at_call 52; refine (HCP.out (w.drew.alloc (.cells #[.int .i64 x] 2)) HBD2.out).mono ?_; rintro e w3 ⟨u3, rfl, ho3, hb3⟩; obtain ⟨qa, qc, rfl⟩ := ho3.shape'; have hsB := HBD2.out.size; have hs3 := hb3.size; have hb3' : Below w.heap.size w w3 := HBD2.out.trans (hb3.mono hsB); have HOA : Hid (OwnI w3 w.heap.size w3.heap.size (.slice qa B.length qc) B) := Lib.hid (ho3.mono hsB (Nat.le_refl _) (Nat.le_refl _)); have HXA := Lib.hid (HX2.out.below hb3 (by simp)); have HBB := Lib.hid hb3'; clear ho3 hb3 hb3')
        | (refine step_appIs (by rfl) _ _ (by rfl) _ B (by first | (simp [Act.eval]; done) | (simp [Act.eval, Act.put]; done)) HOA.out _ [x] (by first | (simp [Act.eval]; done) | (simp [Act.eval, Act.put]; done)) HXA.out HLN.out HBB.out.size ?_; intro v4 w4 ho4 hsm4 hz4 _; have HB4 := Lib.hid (HBB.out.trans (hsm4.below (Nat.le_refl _) HBB.out.size)); obtain ⟨ya, yc, rfl⟩ := ho4.shapeB; have HO4 := Lib.hid ho4; clear ho4 hsm4 hz4)
        | (go_simp; go_at_call 67; refine (HREC.out w4 _ _ HB4.out HO4.out HNL.out HNR.out).mono ?_; rintro e w5 ⟨rfl, h5⟩; have H5 := Lib.hid (HB4.out.trans (h5.mono HB4.out.size)); clear h5))
      all_goals
        go_wp2_with fail
        go_meet
        exact ⟨by rw [HF0.out], H5.out⟩
    case rest =>
      obtain ⟨rfl, HBC⟩ := hcut
      clear HF0
      obtain ⟨wq, hwq⟩ : ∃ X, X = wc := ⟨_, rfl⟩
      rw [← hwq] at HBC ⊢
      clear hwq
      have hsq := HBC.out.size
      go_wp2_with fail
      go_loopw [9, 37] (fun bv kv wr => ∃ k : Nat, k ≤ B.length ∧ kv = .int .i64 k ∧ bv = .int .i64 (fewTo R s rest B k) ∧ Hid (Below w.heap.size w wr)) (fun _ kv _ => B.length - (intOf kv).toNat)
      case atStart => exact ⟨0, Nat.zero_le _, rfl, rfl, HBC⟩
      case round =>
        clear HBC hsq
        obtain ⟨k, hk, rfl, rfl, HB⟩ := hrel
        obtain ⟨w2, rfl⟩ : ∃ X, X = wr := ⟨_, rfl⟩
        have hs2 := HB.out.size
        by_cases hkl : k < B.length
        · rcases HUD.out with e | ⟨ub, uo, rfl, ub1, ub2, ub3, ucell⟩
          · exfalso; rw [e] at hkl; simp at hkl
          have ck : w2.cell? ⟨ub, uo + k, none⟩ = some (.int .i64 (B.getD k 0)) := by rw [HB.out.cell (p := ⟨ub, uo + k, none⟩) (show ub < w.heap.size by omega)]; exact ucell k hkl
          have cs := SC.out w2 HB.out
          have her := HBR.out _ (getD_mem hkl)
          have HST := Lib.hid (HFS.out k)
          have HSETR : Hid (∀ y, 0 ≤ y → y ≤ (R : Int) → ∀ e ∈ B.set k y, 0 ≤ e ∧ e ≤ (R : Int)) := fun y y1 y2 e he => by
            rcases List.mem_or_eq_of_mem_set he with he | rfl
            · exact HBR.out e he
            · exact ⟨y1, y2⟩
          obtain ⟨e, he⟩ : ∃ e, e = B.getD k 0 := ⟨_, rfl⟩
          have HEQ := Lib.hid he
          rw [← he] at ck her HST
          obtain ⟨f, hf⟩ : ∃ f, f = fewTo R s rest B k := ⟨_, rfl⟩
          rw [← hf] at HST ⊢
          have zk : (k : Int) < (B.length : Int) := by omega
          clear he hf ucell
          by_cases hle : s ≤ e
          · have HCW := Lib.hid (HCP.out w2 HB.out)
            have HN : Hid (fewTo R s rest B (k + 1) = min f (few R rest (B.set k (e - s)))) := by rw [HST.out, if_pos hle]; exact rfl
            clear HST
            go_wp2_with fail
            refine HCW.out.mono ?_
            rintro e3 w3 ⟨u3, rfl, ho3, hb3⟩
            rcases ho3.rowOf with ⟨_, h0⟩ | ⟨g, gc, rfl, g1, g2, g3, hrow⟩
            · exfalso; rw [h0] at hkl; simp at hkl
            have hgg := hrow.ge
            have HB3 := Lib.hid (HB.out.trans (hb3.mono hs2))
            have hs3 := hb3.size
            have ce := hrow.cell hkl
            rw [← HEQ.out] at ce
            have fr := hrow.frozen k
            have cs3 := SC.out w3 HB3.out
            have HRR : Hid (RowI (w3.setCell ⟨g, k, none⟩ (.int .i64 (e - s))) w2.heap.size g B.length gc (B.set k (e - s))) := hrow.stored k _
            have HBB : Hid (Below w.heap.size w (w3.setCell ⟨g, k, none⟩ (.int .i64 (e - s)))) := HB3.out.setCell (show w.heap.size ≤ g by omega) _
            clear ho3 hb3 hrow HB cs ck HCW HEQ
            go_wp2_with fail
            go_region
            have hR9 : RowI ((w3.setCell ⟨g, k, none⟩ (.int .i64 (e - s))).drew) w2.heap.size g B.length gc (B.set k (e - s)) := HRR.out.drewN 1
            have hB9 : Below w.heap.size w ((w3.setCell ⟨g, k, none⟩ (.int .i64 (e - s))).drew) := HBB.out.trans ((Drew.one _ 1).below _)
            generalize hw9 : ((w3.setCell ⟨g, k, none⟩ (.int .i64 (e - s))).drew) = w9 at hR9 hB9 ⊢
            clear hw9 HRR HBB
            have HB9 := Lib.hid hB9
            have hs9 := hB9.size
            have hset := HSETR.out (e - s) (by omega) (by omega)
            have HO9 : Hid (OwnI w9 w.heap.size w9.heap.size (.slice (some ⟨g, 0, none⟩) B.length gc) (B.set k (e - s))) := (hR9.own (hi := w9.heap.size) (fun y hy => by have := hset y hy; unfold I64; omega) (by omega) hR9.lt (Nat.le_refl _)).mono hs2 (Nat.le_refl _) (Nat.le_refl _)
            have HRC := Lib.hid (HREC.out w9 _ _ HB9.out HO9.out (by rw [List.length_set]; omega) hset)
            clear hR9 hB9 hset ce fr cs3
            go_wp2_with fail
            refine HRC.out.mono ?_
            rintro e5 w5 ⟨rfl, h5⟩
            have HB5 := Lib.hid (HB9.out.trans (h5.mono hs9))
            clear h5 HRC
            go_wp2
            go_roundw
            case rel => exact ⟨k + 1, by omega, by go_num, by rw [HN.out], HB5⟩
            case measure => (simp [intOf]; try omega)
          · have HN : Hid (fewTo R s rest B (k + 1) = f) := by rw [HST.out, if_neg hle]; exact rfl
            clear HST HEQ
            go_wp2
            go_roundw
            case rel => exact ⟨k + 1, by omega, by go_num, by rw [HN.out], HB⟩
            case measure => (simp [intOf]; try omega)
        · obtain rfl : k = B.length := by omega
          go_wp2
          go_ret
          exact ⟨by rw [HFE.out]; rfl, HB.out⟩
set_option maxHeartbeats 1000000 in
set_option maxRecDepth 100000 in
theorem implLeastBins_any (w : World) {l h n R : Nat} (v : Value) (ss gs : List Int) (hv : Ints w l h v ss) (hh : h ≤ w.heap.size) (H : PkH n R ss gs) :
    Calls Try.prog 23 #[v, .int .i64 R] w fun e w' => e = .returned (.tuple #[.int .i64 (few R ss []), .bool true]) ∧ Below w.heap.size w w' := by
  have h1 := H.n1
  have h7 := H.n7
  have hr1 := H.r1
  have hr2 := H.r2
  have hl := H.ls
  have HA : Hid (Calls Try.prog 59 #[v] w fun e w' => e = .returned (.bool true) ∧ w = w') := by
    have := areSizes_any v ss w hv (by omega)
    rw [H.things] at this
    exact this
  have HI : Hid (Calls Try.prog 60 #[.int .i64 R] w fun e w' => e = .returned (.bool true) ∧ w = w') := by
    have := isRoom_any (R : Int) w
    rw [show inB 0 1000 (R : Int) = true from by rw [inB_iff]; omega] at this
    exact this
  have hmx : maxL ss < (R : Int) + 1 := (maxL_lt ss (by intro e; rw [e] at hl; simp at hl; omega) _).2 fun z hz => by have := H.sz z hz; omega
  have hmx2 : maxL ss ≤ (R : Int) := by omega
  have HMX := Lib.hid (slicesMax_any _ _ _ ss w hv (by omega))
  have HFW := Lib.hid (fewest_any H n 0 (by omega) w v (.slice none 0 0) [] hv hh (Ints.nil w 0 0) (Nat.zero_le _) (Nat.le_refl _) (by simp))
  rw [show ((0 : Nat) : Int) = 0 from rfl, List.drop_zero] at HFW
  obtain ⟨mx, hmxe⟩ : ∃ x, x = maxL ss := ⟨_, rfl⟩
  rw [← hmxe] at hmx2 HMX
  have hmx3 : ¬ ((R : Int) < mx) := by omega
  obtain ⟨b, off, cap, rfl, hc1, hc2, hb, SC⟩ := hv.seen hh hl h1
  have z10 : ¬ ((10 : Int) < (n : Int)) := by omega
  clear hv H hmx hmxe SC hl
  go_enter Try.func23, Try.ntmps23
  go_wp2_with fail
  refine HA.out.mono ?_
  rintro e w' ⟨rfl, rfl⟩
  go_wp2_with fail
  refine HI.out.mono ?_
  rintro e w' ⟨rfl, rfl⟩
  go_wp2_with fail
  refine HMX.out.mono ?_
  rintro e w' ⟨rfl, rfl⟩
  go_wp2_with fail
  refine HFW.out.mono ?_
  rintro e w2 ⟨rfl, hb2⟩
  have HB2 := Lib.hid hb2
  clear hb2
  go_wp2
  go_ret2
  exact ⟨rfl, HB2.out⟩
end Go.Proofs.Ytkankfdpodofjaa
