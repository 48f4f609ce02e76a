/-
  FormsShared: contracts in the reference and in the program.
-/
import Derived.Test.YtcpbgjnijhcpkaaFormS
import Derived.Test.YtcpbgjnijhcpkaaOff
import Derived.Test.YtcpbgjnijhcpkaaApp
import Derived.Test.YtcpbgjnijhcpkaaTwo
namespace Go.Proofs.Ytcpbgjnijhcpkaa
open Go.RowKit
set_option linter.unusedVariables false
set_option maxRecDepth 100000

def cntF (f : FormD) : Int := ((countN f.letters.toNat f.clauses (2 ^ f.letters.toNat) : Nat) : Int)
def sharedF (fs : List FormD) (a : Int) : List Int × Bool := if decide (fs.length ≤ 8) && inB 1 8 a && fs.all validForm then (fs.map cntF, true) else ([], false)
theorem shared_no {fs : List FormD} {a : Int} (h : (decide (fs.length ≤ 8) && inB 1 8 a && fs.all validForm) = false) : sharedF fs a = ([], false) := by rw [sharedF, h]; rfl
theorem shared_yes {fs : List FormD} {a : Int} (h : (decide (fs.length ≤ 8) && inB 1 8 a && fs.all validForm) = true) : sharedF fs a = (fs.map cntF, true) := by rw [sharedF, h]; rfl
def cnts (fs : List FormD) (k : Nat) : List Int := (fs.take k).map cntF
theorem cnts_succ {fs : List FormD} {k : Nat} (h : k < fs.length) : cnts fs (k + 1) = cnts fs k ++ [cntF fs[k]] := by rw [cnts, List.take_succ_eq_append_getElem h, List.map_append]; rfl
theorem cnts_all (fs : List FormD) : cnts fs fs.length = fs.map cntF := by rw [cnts, List.take_length]
theorem cnts_len (fs : List FormD) (k : Nat) : (cnts fs k).length ≤ k := by rw [cnts, List.length_map, List.length_take]; omega
theorem cntF_eq {f : FormD} {L : Nat} (h : f.letters = (L : Int)) : cntF f = ((countN L f.clauses (2 ^ L) : Nat) : Int) := by
  have e : f.letters.toNat = L := by omega
  rw [cntF, e]
theorem cntF_rng {f : FormD} (h : validForm f = true) : 0 ≤ cntF f ∧ cntF f ≤ 1024 := by
  obtain ⟨L, hL, _, hL2⟩ := lettersN h
  rw [cntF_eq hL]
  have h1 := countN_le L f.clauses (2 ^ L)
  have h2 : 2 ^ L ≤ 2 ^ 10 := Nat.pow_le_pow_right (by decide) hL2
  omega
theorem areWorkers_any (a : Int) (w : World) :
    Calls Try.prog 82 #[.int .i64 a] w fun e w' => e = .returned (.bool (inB 1 8 a)) ∧ w = w' := by
  go_enter Try.func82, Try.ntmps82
  go_wp2_with fail
  refine (within_any a 1 8 w).mono ?_
  rintro e w' ⟨rfl, rfl⟩
  go_wp2
  go_ret
  exact ⟨rfl, rfl⟩
set_option maxHeartbeats 1600000 in
set_option maxRecDepth 100000 in
theorem implFormsShared_any (w : World) {l h : Nat} (v : Value) (fs : List FormD) (a : Int) (hv : Forms w l h v fs) (hh : h ≤ w.heap.size) (hz : SmallFS fs) (ka : I64 a) :
    Calls Try.prog 24 #[v, .int .i64 a] w fun e w' => ∃ r, e = .returned (.tuple #[r, .bool (sharedF fs a).2]) ∧ OwnI w' w.heap.size w'.heap.size r (sharedF fs a).1 ∧ Below w.heap.size w w' := by
  obtain ⟨va, cap, V, rfl, hc1, hc2, hV, hd⟩ := hv.out
  have HV := Lib.hid hV
  have HR := Lib.hid hv.rng
  have HZ := Lib.hid hz
  have HIN := Lib.hid (areWorkers_any a w)
  clear hV hv hz
  by_cases h8 : fs.length ≤ 8
  case neg =>
    have HE := Lib.hid (shared_no (fs := fs) (a := a) (by rw [decide_eq_false h8]; rfl))
    go_enter Try.func24, Try.ntmps24
    go_wp2
    go_ret2
    exact ⟨_, by rw [HE.out]; rfl, by rw [HE.out]; exact OwnI.nil _ _ _ (Nat.le_refl _), Below.refl _ _⟩
  have H8 : Hid (decide (fs.length ≤ 8) = true) := decide_eq_true h8
  cases hin : inB 1 8 a
  · have HE := Lib.hid (shared_no (fs := fs) (a := a) (by rw [hin, Bool.and_false]; rfl))
    rw [hin] at HIN
    go_enter Try.func24, Try.ntmps24
    go_wp2_with fail
    refine HIN.out.mono ?_
    rintro e w' ⟨rfl, rfl⟩
    go_wp2
    go_ret2
    exact ⟨_, by rw [HE.out]; rfl, by rw [HE.out]; exact OwnI.nil _ _ _ (Nat.le_refl _), Below.refl _ _⟩
  have HN : Hid (fs.all validForm = false → sharedF fs a = ([], false)) := fun h' => shared_no (by rw [h', Bool.and_false])
  have HY : Hid (fs.all validForm = true → sharedF fs a = (fs.map cntF, true)) := fun h' => shared_yes (by rw [H8.out, hin, h']; rfl)
  rw [hin] at HIN
  have H0 : Hid (OwnI w w.heap.size w.heap.size (.slice none 0 0) (cnts fs 0)) := OwnI.nil _ _ _ (Nat.le_refl _)
  clear hin
  go_enter Try.func24, Try.ntmps24
  go_wp2_with fail
  refine HIN.out.mono ?_
  rintro e w' ⟨rfl, rfl⟩
  go_wp2_with fail
  go_loopw [6, 21] (fun ov iv wr => ∃ k : Nat, k ≤ fs.length ∧ iv = .int .i64 k ∧ Hid ((fs.drop k).all validForm = fs.all validForm) ∧ Hid (OwnI wr w.heap.size wr.heap.size ov (cnts fs k)) ∧ Hid (Below w.heap.size w wr)) (fun _ iv _ => fs.length - (intOf iv).toNat)
  case atStart => exact ⟨0, Nat.zero_le _, rfl, Lib.hid rfl, H0, Lib.hid (Below.refl _ _)⟩
  case round =>
    clear H0
    obtain ⟨k, hk, rfl, H, HO, HB⟩ := hrel
    obtain ⟨oa, oc, rfl⟩ := HO.out.shape
    have hs := HB.out.size
    have hcl := cnts_len fs k
    by_cases hlt : k < fs.length
    · have HD := Lib.hid (drop_cons fs k hlt)
      rcases hd with rfl | ⟨b, off, rfl, hb1, hb2, hb3, hcell⟩
      · simp at hlt
      obtain ⟨c0, c1⟩ := hcell k hlt
      have HS := Lib.hid (cnts_succ hlt)
      have hmem : fs[k] ∈ fs := List.getElem_mem hlt
      have hu := (HV.out k hlt).below HB.out hh
      have kL := HR.out _ hmem
      have hsm := HZ.out.2 _ hmem
      obtain ⟨ua, uc, hue⟩ : ∃ a c, V k = .slice a fs[k].clauses.length c := by obtain ⟨a, c, _, e, _⟩ := hu.out; exact ⟨a, c, e⟩
      rw [hue] at c1 hu
      rw [← HB.out.cell (p := ⟨b, off + k * 2, none⟩) (show b < w.heap.size by omega)] at c0
      rw [← HB.out.cell (p := ⟨b, off + k * 2 + 1, none⟩) (show b < w.heap.size by omega)] at c1
      obtain ⟨f, hf⟩ : ∃ f, f = fs[k] := ⟨_, rfl⟩
      rw [← hf] at HD HS hu kL hsm c0 c1
      obtain ⟨W, hW⟩ : ∃ W, W = wr.alloc (.cells #[.int .i64 f.letters, .slice ua f.clauses.length uc] 26) := ⟨_, rfl⟩
      have hbW : Below wr.heap.size wr W := by rw [hW]; exact alloc_below _ _
      have hbx : BoxF W wr.heap.size f.letters (.slice ua f.clauses.length uc) := by rw [hW]; exact BoxF.new _ _ _ _
      have HCM := Lib.hid (implCountModels_any W (.agg #[.int .i64 f.letters, .slice ua f.clauses.length uc]) f ⟨⟨_, rfl, hu.below hbW (by omega)⟩, kL⟩ (by have := hbW.size; omega) hsm)
      have HBW := Lib.hid (HB.out.trans (hbW.mono hs))
      have HOW := Lib.hid ((HO.out.below hbW (Nat.le_refl _)).mono (Nat.le_refl _) hbW.size (Nat.le_refl _))
      have q0 := hbx.c0
      have q1 := hbx.c1
      rw [hW] at q0 q1
      have HWE := Lib.hid hW
      clear hcell hmem hu hf hbx hbW hW
      cases hval : validForm f
      · have HE : Hid (sharedF fs a = ([], false)) := HN.out (by rw [← H.out, HD.out, List.all_cons, hval]; rfl)
        have hce : countModels f = (0, false) := by rw [countModels, hval]; rfl
        rw [hce] at HCM
        clear hval hce
        go_wp2_with fail
        rw [← HWE.out]
        refine HCM.out.mono ?_
        rintro e w2 ⟨rfl, hb2'⟩
        have HB2 := Lib.hid (HBW.out.trans (hb2'.mono HBW.out.size))
        clear hb2' q0 q1
        go_wp2
        go_ret2
        exact ⟨_, by rw [HE.out]; rfl, by rw [HE.out]; exact OwnI.nil _ _ _ (Nat.le_refl _), HB2.out⟩
      · have hce : countModels f = (cntF f, true) := by rw [countModels, hval]; rfl
        have hcr := cntF_rng hval
        have HHN : Hid ((fs.drop (k + 1)).all validForm = fs.all validForm) := by rw [Hid, ← H.out, HD.out, List.all_cons, hval, Bool.true_and]
        rw [hce] at HCM
        obtain ⟨n, hn⟩ : ∃ n, n = cntF f := ⟨_, rfl⟩
        rw [← hn] at HCM HS hcr
        have kn : I64 n := by unfold I64; omega
        clear hval hce hn
        go_wp2_with fail
        rw [← HWE.out]
        refine HCM.out.mono ?_
        rintro e w2 ⟨rfl, hb2'⟩
        have HB2 := Lib.hid (HBW.out.trans (hb2'.mono HBW.out.size))
        have HO2 := Lib.hid ((HOW.out.below hb2' (Nat.le_refl _)).mono (Nat.le_refl _) hb2'.size (Nat.le_refl _))
        have hs2 := HB2.out.size
        clear hb2' hsm q0 q1
        go_wp2_with (at_builtin; refine wpList_app1 rfl _ _ rfl _ (cnts fs k) rfl n _ HO2.out rfl kn (by omega) hs2 ?_)
        intro v4 w4 ho4 hsm4 hz4 _
        have HO4 : Hid (OwnI w4 w.heap.size w4.heap.size v4 (cnts fs (k + 1))) := by rw [Hid, HS.out]; exact ho4
        have HB4 := Lib.hid (HB2.out.trans (hsm4.below (Nat.le_refl _) hs2))
        clear ho4 hsm4 hz4
        go_wp2
        go_roundw
        case rel => exact ⟨k + 1, by omega, by go_num, HHN, HO4, HB4⟩
        case measure => simp [intOf]; omega
    · obtain rfl : k = fs.length := by omega
      have HE : Hid (sharedF fs a = (fs.map cntF, true)) := HY.out (by rw [← H.out, drop_len _ _ (Nat.le_refl _)]; rfl)
      have HA := Lib.hid (cnts_all fs)
      go_wp2
      go_ret2
      exact ⟨_, by rw [HE.out]; rfl, by rw [HE.out, ← HA.out]; exact HO.out, HB.out⟩
end Go.Proofs.Ytcpbgjnijhcpkaa
