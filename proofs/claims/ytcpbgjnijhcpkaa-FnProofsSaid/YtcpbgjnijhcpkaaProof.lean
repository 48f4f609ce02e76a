/-
  IsProof: contracts in the reference and in the program.
-/
import Derived.Test.YtcpbgjnijhcpkaaRef
import Derived.Test.YtcpbgjnijhcpkaaOpp
namespace Go.Proofs.Ytcpbgjnijhcpkaa
open Go.RowKit
set_option linter.unusedVariables false
set_option maxRecDepth 100000

theorem isLit_neg {L x : Int} (h : isLit L x = true) : isLit L (-x) = true := by rw [isLit_iff] at h ⊢; omega
theorem absI_neg (x : Int) : absI (-x) = absI x := (absI_eq _ _).2 (.inr (by omega))
theorem cons_negs {L : Int} {c : List Int} (h : Cons L c) : Cons L (negs c) := by
  refine ⟨fun x hx => ?_, ?_⟩
  · obtain ⟨y, hy, rfl⟩ := List.mem_map.1 hx
    exact isLit_neg (h.1 y hy)
  · rw [negs, List.pairwise_map]
    exact h.2.imp fun {a b} hab => by rw [absI_neg, absI_neg]; exact hab
theorem cons_clause {L : Int} {c : List Int} (h : isClause L c = true) : Cons L c := by
  rw [clause_law, Bool.and_eq_true, Bool.and_eq_true] at h
  exact cons_of_lits h.1.2
theorem cons_rng {L : Int} {c : List Int} (h : isClause L c = true) : ∀ x ∈ c, -10 ≤ x ∧ x ≤ 10 := by
  intro x hx
  have hL : 1 ≤ L ∧ L ≤ 10 := by
    rw [clause_law, Bool.and_eq_true, Bool.and_eq_true] at h
    exact inB_true h.1.1
  have := isLit_iff.1 (clause_lits h x hx)
  omega
set_option maxHeartbeats 800000 in
set_option maxRecDepth 100000 in
theorem l05Opposites_any {l h : Nat} (v : Value) (c : List Int) (w : World) (hv : Ints w l h v c) (hh : h ≤ w.heap.size) (hr : ∀ x ∈ c, -10 ≤ x ∧ x ≤ 10) (hz : c.length ≤ 1048576) :
    Calls Try.prog 61 #[v] w fun e w' => ∃ u, e = .returned u ∧ OwnI w' w.heap.size w'.heap.size u (negs c) ∧ Below w.heap.size w w' := by
  obtain ⟨a, cap, rfl, hc1, hc2, hd⟩ := hv.out
  have HR := Lib.hid hr
  have h0 := emptySlice w
  have hb0 := alloc_below w (.cells #[] 2)
  have hs0 : (w.alloc (.cells #[] 2)).heap.size = w.heap.size + 1 := by simp
  have H0 : Hid (OwnI (w.alloc (.cells #[] 2)) w.heap.size (w.alloc (.cells #[] 2)).heap.size (.slice (some ⟨w.heap.size, 0, none⟩) 0 0) (negs (c.take 0))) := h0.mono (Nat.le_refl _) (by omega) (Nat.le_refl _)
  have HB0 := Lib.hid hb0
  clear h0 hb0 hs0 hv hr
  go_enter Try.func61, Try.ntmps61
  go_wp2_with fail
  go_loopw [3, 8] (fun ov i wr => ∃ k : Nat, k ≤ c.length ∧ i = .int .i64 k ∧ OwnI wr w.heap.size wr.heap.size ov (negs (c.take k)) ∧ Below w.heap.size w wr) (fun _ i _ => c.length - (intOf i).toNat)
  case atStart => exact ⟨0, Nat.zero_le _, rfl, H0.out, HB0.out⟩
  case round =>
    clear H0 HB0
    obtain ⟨k, hk, rfl, ho, hb⟩ := hrel
    have hs := hb.size
    have HO := Lib.hid ho
    have HB := Lib.hid hb
    clear ho
    by_cases hlt : k < c.length
    · rcases hd with rfl | ⟨b, off, rfl, hb1, hb2, hb3, hcell⟩
      · simp at hlt
      have hck := hcell k hlt
      have hge : c.getD k 0 = c[k] := by simp [List.getD, hlt]
      rw [hge, ← hb.cell (p := ⟨b, off + k, none⟩) (show b < w.heap.size by omega)] at hck
      have HT : Hid (negs (c.take (k + 1)) = negs (c.take k) ++ [-c[k]]) := by rw [Hid, List.take_succ_eq_append_getElem hlt, negs, List.map_append]; rfl
      have hxr := HR.out c[k] (List.getElem_mem hlt)
      obtain ⟨x, hx⟩ : ∃ x, x = c[k] := ⟨_, rfl⟩
      rw [← hx] at hck HT hxr
      have hx1 := hxr.1
      have hx2 := hxr.2
      have HLN : Hid ((negs (c.take k)).length + 1 ≤ 1099511627776) := by rw [Hid, negs_len, List.length_take]; omega
      clear hcell hge hx hxr hb
      go_wp2_with (at_builtin; refine wpList_app1 rfl _ _ rfl _ (negs (c.take k)) rfl (-x) _ HO.out rfl (by unfold I64; omega) HLN.out hs ?_)
      intro v2 w3 ho2 hsm hz3 _
      have HO2 : Hid (OwnI w3 w.heap.size w3.heap.size v2 (negs (c.take (k + 1)))) := by rw [Hid, HT.out]; exact ho2
      have HB2 := Lib.hid (HB.out.trans (hsm.below (Nat.le_refl _) hs))
      clear ho2
      go_wp2
      go_roundw
      case rel => exact ⟨k + 1, by omega, by go_num, HO2.out, HB2.out⟩
      case measure => simp [intOf]; omega
    · obtain rfl : k = c.length := by omega
      rw [List.take_length] at HO
      go_wp2
      go_ret
      exact ⟨_, rfl, HO.out, HB.out⟩
def proofGo (L : Int) : List (List Int) → List (List Int) → Bool
  | _, [] => true
  | cs, c :: r => isClause L c && (decide (0 ≤ (unitsF cs (negs c)).wrong) && proofGo L (cs ++ [c]) r)
def okProof (f : FormD) (p : List (List Int)) : Bool := validForm f && (inB 1 128 (p.length : Int) && decide ((p.getD (p.length - 1) []).length = 0))
def isProof (f : FormD) (p : List (List Int)) : Bool := okProof f p && proofGo f.letters f.clauses p
theorem small_append {cs p : List (List Int)} {L : Int} (h1 : cs.length ≤ 48) (h2 : p.length ≤ 128) (hc : ∀ c ∈ cs, isClause L c = true) (hp : ∀ c ∈ p, isClause L c = true) : SmallII (cs ++ p) := by
  have hs : ∀ (q : List (List Int)), (∀ c ∈ q, isClause L c = true) → (q.map List.length).sum ≤ 10 * q.length := by
    intro q
    induction q with
    | nil => intro _; simp
    | cons c r ih =>
      intro h
      have h1 := h c (by simp)
      have h2 := ih fun d hd => h d (by simp [hd])
      have hL : L ≤ 10 := by
        rw [clause_law, Bool.and_eq_true, Bool.and_eq_true] at h1
        exact (inB_true h1.1.1).2
      have h3 := (cons_clause h1).len hL
      simp; omega
  have h3 := hs cs hc
  have h4 := hs p hp
  refine ⟨by rw [List.length_append]; omega, ?_⟩
  rw [List.map_append, List.sum_append]; omega
set_option maxHeartbeats 2000000 in
set_option maxRecDepth 100000 in
theorem specIsProof_any (w : World) {l h l' h' : Nat} (v : Value) (f : FormD) (v' : Value) (p : List (List Int)) (hv : FormR w l h v f) (hh : h ≤ w.heap.size) (hz : SmallII f.clauses) (hv' : Intss w l' h' v' p) (hh' : h' ≤ w.heap.size) (hz' : SmallII p) :
    Calls Try.prog 13 #[v, v'] w fun e w' => e = .returned (.bool (isProof f p)) ∧ Below w.heap.size w w' := by
  obtain ⟨u, rfl, hu⟩ := hv.ex
  have kL := hv.rng
  obtain ⟨a0, cap0, V0, e0, _⟩ := hu.out
  subst e0
  obtain ⟨pa, pcap, PV, rfl, pc1, pc2, PR, pd⟩ := hv'.out
  obtain ⟨W, hW⟩ : ∃ W, W = w.alloc (.cells #[.int .i64 f.letters, .slice a0 f.clauses.length cap0] 26) := ⟨_, rfl⟩
  have hsW : W.heap.size = w.heap.size + 1 := by rw [hW]; simp
  have hBW : Below w.heap.size w W := by rw [hW]; exact alloc_below _ _
  have hbx : TwoC W w.heap.size 26 (.int .i64 f.letters) (.slice a0 f.clauses.length cap0) := by rw [hW]; exact TwoC.new _ _ _ _
  have HF := Lib.hid (hv.below hBW hh)
  have HU := Lib.hid (hu.below hBW hh)
  have HB := Lib.hid hbx
  have HBW := Lib.hid hBW
  have hW1 : w.heap.size < W.heap.size := by omega
  have hhW : h ≤ W.heap.size := by omega
  have HZ := Lib.hid hz
  have HZ' := Lib.hid hz'
  have hpl := hz'.1
  have PC : Hid (∀ (wx : World) (j : Nat), Below w.heap.size w wx → (hj : j < p.length) → ∃ b o, pa = some ⟨b, o, none⟩ ∧ wx.cell? ⟨b, o + j, none⟩ = some (PV j) ∧ Ints wx l' h' (PV j) p[j]) := fun wx j hb hj => by
    rcases pd with rfl | ⟨b, o, e, r1, r2, r3, hc⟩
    · simp at hj
    · exact ⟨b, o, e, by rw [hb.cell (p := ⟨b, o + j, none⟩) (show b < w.heap.size by omega)]; exact hc j hj, (PR j hj).below hb hh'⟩
  clear hu hv hv' hbx hBW hsW hz hz' pd PR
  go_enter Try.func13, Try.ntmps13
  go_wp2_with fail
  rw [← hW]
  clear hW
  refine (l05Is_any W _ _ f HB.out.c0 HB.out.c1 hW1 kL HU.out hhW).mono ?_
  rintro e w2 ⟨rfl, hb2⟩
  have hs2 := hb2.size
  have hbx2 := HB.out.below hb2 hW1
  have HB2 := Lib.hid hbx2
  have HBW2 := Lib.hid (HBW.out.trans (hb2.mono (by omega)))
  have HU2 := Lib.hid (HU.out.below hb2 hhW)
  clear hbx2 hb2
  cases hval : validForm f
  · have HE : Hid (isProof f p = false) := by rw [Hid, isProof, okProof, hval]; rfl
    go_wp2
    go_ret
    exact ⟨ret_bool (by rw [HE.out]), HBW2.out⟩
  have bL := (validForm_bounds hval).1
  have hcl48 := (validForm_bounds hval).2.1
  have HVC := Lib.hid (validForm_bounds hval).2.2
  by_cases hp1 : p.length = 0
  · have hp0 : p = [] := List.eq_nil_of_length_eq_zero hp1
    subst hp0
    have HE : Hid (isProof f [] = false) := by rw [Hid, isProof, okProof, hval]; rfl
    go_wp2
    go_ret
    exact ⟨ret_bool (by rw [HE.out]), HBW2.out⟩
  have hp1' : 1 ≤ p.length := by omega
  have hp1n : 0 < p.length := by omega
  have hp1i : 1 ≤ (p.length : Int) := by omega
  have hp1d : ((p.length : Int) == 0) = false := beq_eq_false_iff_ne.2 (by omega)
  by_cases hp2 : p.length ≤ 128
  case neg =>
    have HE : Hid (isProof f p = false) := by
      have : inB 1 128 (p.length : Int) = false := by simp [inB]; omega
      rw [Hid, isProof, okProof, this]; simp
    have hp2' : 128 < p.length := by omega
    clear hp1 hval
    go_wp2
    go_ret
    exact ⟨ret_bool (by rw [HE.out]), HBW2.out⟩
  obtain ⟨pb, po, rfl, pck, pri⟩ := PC.out w2 (p.length - 1) HBW2.out (by omega)
  obtain ⟨la, lc, hle, _, _, _⟩ := pri.out
  rw [hle] at pck
  have hidx : ((p.length : Int) - 1).toNat = p.length - 1 := by omega
  have hidx1 : 0 ≤ (p.length : Int) - 1 := by omega
  have hidx2 : (p.length : Int) - 1 < (p.length : Int) := by omega
  have HIN : Hid (inB 1 128 (p.length : Int) = true) := by rw [Hid, inB_iff]; omega
  have HGL : Hid (p.getD (p.length - 1) [] = p[p.length - 1]) := getD_get (by omega)
  obtain ⟨ln, hln⟩ : ∃ ln, ln = (p[p.length - 1]'(by omega)).length := ⟨_, rfl⟩
  rw [← hln] at pck
  clear hle pri
  by_cases hl0 : ln = 0
  case neg =>
    have HE : Hid (isProof f p = false) := by
      have e2 : decide ((p.getD (p.length - 1) []).length = 0) = false := by rw [HGL.out, ← hln]; simpa using hl0
      rw [Hid, isProof, okProof, e2, Bool.and_false, Bool.and_false, Bool.false_and]
    have e0 : ((ln : Int) == 0) = false := by simpa using hl0
    have e1 : ((ln : Int) != 0) = true := by simpa using hl0
    have e3 : 0 < ln := by omega
    clear hl0 hp1 hln hval
    go_wp2
    go_ret
    exact ⟨ret_bool (by rw [HE.out]), HBW2.out⟩
  have HE : Hid (isProof f p = proofGo f.letters f.clauses p) := by
    have e2 : decide ((p.getD (p.length - 1) []).length = 0) = true := by rw [HGL.out, ← hln]; simpa using hl0
    rw [Hid, isProof, okProof, e2, hval, HIN.out]; rfl
  have q1 := HB2.out.c1
  have q1a := (HB2.out.alloc (.cells #[] 34)).c1
  have hs12 : w.heap.size ≤ w2.heap.size := by omega
  subst hl0
  clear hp1 hln hval
  go_wp2_with (at_builtin; refine wpList_appRefs (B := w.heap.size) rfl _ _ rfl _ f.clauses rfl rfl HU2.out hh hs12 (by omega) ?_)
  intro cv w3 hrc hb3
  have HRC := Lib.hid hrc
  have HB3 := Lib.hid (HBW2.out.trans (hb3.mono hs12))
  have HX3 := Lib.hid (HB2.out.below hb3 HB2.out.lt)
  have hwl : w.heap.size < w2.heap.size := by omega
  have hs3 := hb3.size
  clear hrc q1 q1a pck hidx hidx1 hidx2 HIN HGL hb3
  go_wp2_with fail
  go_loopw [5, 36] (fun cv i wr => ∃ k : Nat, k ≤ p.length ∧ i = .int .i64 k ∧ RefII wr w.heap.size w2.heap.size cv (f.clauses ++ p.take k) ∧ Hid (∀ c ∈ p.take k, isClause f.letters c = true) ∧ Hid (proofGo f.letters (f.clauses ++ p.take k) (p.drop k) = proofGo f.letters f.clauses p) ∧ Below w2.heap.size w3 wr) (fun _ i _ => p.length - (intOf i).toNat)
  case atStart => exact ⟨0, Nat.zero_le _, rfl, by simpa using HRC.out, Lib.hid (by simp), Lib.hid (by simp), Below.refl _ _⟩
  case round =>
    clear HRC
    obtain ⟨k, hk, rfl, hrc, HCK, H, hb⟩ := hrel
    have hsr := hb.size
    have HBR := Lib.hid (HB3.out.trans (hb.mono hs12))
    have HXR := Lib.hid (HX3.out.below hb hwl)
    have HRC := Lib.hid hrc
    have HBB := Lib.hid hb
    clear hb
    by_cases hlt : k < p.length
    · obtain ⟨b2, o2, e2, pck, pri⟩ := PC.out wr k HBR.out hlt
      injection e2 with e2
      injection e2 with e2 e2'
      subst e2; subst e2'
      have PCK : Hid (∀ wx, Below w.heap.size w wx → wx.cell? ⟨pb, po + k, none⟩ = some (PV k) ∧ Ints wx l' h' (PV k) p[k]) := fun wx hbx => by
        obtain ⟨b2, o2, e2, h1, h2⟩ := PC.out wx k hbx hlt
        injection e2 with e2
        injection e2 with e2 e2'
        subst e2; subst e2'
        exact ⟨h1, h2⟩
      obtain ⟨ka, kc, hke, _, _, _⟩ := pri.out
      rw [hke] at PCK pck
      have hzk := HZ'.out.row hlt
      have HD : Hid (p.drop k = p[k] :: p.drop (k + 1)) := drop_cons p k hlt
      have HT : Hid (p.take (k + 1) = p.take k ++ [p[k]]) := List.take_succ_eq_append_getElem hlt
      obtain ⟨c, hc⟩ : ∃ c, c = p[k] := ⟨_, rfl⟩
      rw [← hc] at PCK pck hzk HD HT
      have hqq := HXR.out.c0
      clear pri hke hc
      go_wp2_with fail
      go_still_tail 6, (by kernel_rfl)
      go_wp2_with fail
      have hD1 : Drew wr wr.drew := ⟨1, rfl⟩
      have HCLS := Lib.hid (l05Clause_any wr.drew f.letters _ c kL ((PCK.out wr HBR.out).2.drew hD1) (by rw [hD1.heap]; omega))
      clear hrc
      cases hin : isClause f.letters c
      · have HE2 : Hid (proofGo f.letters f.clauses p = false) := by rw [Hid, ← H.out, HD.out, proofGo, hin]; rfl
        refine HCLS.out.mono ?_
        rintro e wc ⟨rfl, hbc'⟩
        have hbc : Below wr.heap.size wr wc := (hD1.below _).trans hbc'
        rw [hin]
        clear hin pck
        go_wp2
        go_ret
        exact ⟨ret_bool (by rw [HE.out, HE2.out]), HBR.out.trans (hbc.mono (by omega))⟩
      · refine HCLS.out.mono ?_
        rintro e wc ⟨rfl, hbc'⟩
        have hbc : Below wr.heap.size wr wc := (hD1.below _).trans hbc'
        rw [hin]
        clear hqq hD1 hbc' HCLS
        have hc10 : c.length ≤ 10 := (cons_clause hin).len bL.2
        have HSM : Hid (SmallII (f.clauses ++ p.take k)) := small_append hcl48 (by rw [List.length_take]; omega) HVC.out HCK.out
        have HCL : Hid (∀ d ∈ f.clauses ++ p.take k, ∀ x ∈ d, isLit f.letters x = true) := fun d hd => by
          rcases List.mem_append.1 hd with hd | hd
          · exact clause_lits (HVC.out d hd)
          · exact clause_lits (HCK.out d hd)
        have HCN := Lib.hid (cons_negs (cons_clause hin))
        have HRG := Lib.hid (cons_rng hin)
        have HIN := Lib.hid hin
        have hbwc := HBR.out.trans (hbc.mono (show w.heap.size ≤ wr.heap.size by omega))
        have hsc := hbc.size
        have pckc := (PCK.out wc hbwc).1
        have HRCc := Lib.hid (HRC.out.below hbc)
        have HOP := Lib.hid (l05Opposites_any _ c wc (PCK.out wc hbwc).2 (by omega) HRG.out (by omega))
        have HBC := Lib.hid hbc
        have HBWC := Lib.hid hbwc
        clear hin hbc hbwc pck
        go_wp2_with fail
        refine HOP.out.mono ?_
        rintro e w4 ⟨u4, rfl, hou, hb4⟩
        have hs4 := hb4.size
        have hb4r := HBC.out.trans (hb4.mono hsc)
        have hb4w := HBWC.out.trans (hb4.mono (by omega))
        obtain ⟨oa, oc, rfl⟩ := hou.shape
        have hrc4 := HRCc.out.below hb4
        have HUN := Lib.hid (l05Units_any w4 f.letters _ _ (f.clauses ++ p.take k) (negs c) bL.2 hrc4.rd (Nat.le_refl _) HSM.out HCL.out hou.rd (Nat.le_refl _) HCN.out)
        have HPG : Hid (proofGo f.letters (f.clauses ++ p.take k) (c :: p.drop (k + 1)) = (isClause f.letters c && (decide (0 ≤ (unitsF (f.clauses ++ p.take k) (negs c)).wrong) && proofGo f.letters ((f.clauses ++ p.take k) ++ [c]) (p.drop (k + 1))))) := rfl
        obtain ⟨U, hU⟩ : ∃ U, U = unitsF (f.clauses ++ p.take k) (negs c) := ⟨_, rfl⟩
        rw [← hU] at HUN HPG
        clear hU
        have HRC4 := Lib.hid hrc4
        have HB4R := Lib.hid hb4r
        have HB4W := Lib.hid hb4w
        clear hou hb4 hrc4 hb4r hb4w pckc HOP
        go_wp2_with fail
        refine HUN.out.mono ?_
        rintro e w5 ⟨vk, vb, rfl, hok, hob, hb5⟩
        obtain ⟨va, vc, rfl⟩ := hok.shape
        obtain ⟨ba, bc, rfl⟩ := hob.shape
        have hs5 := hb5.size
        have hBW6 : Below w5.heap.size w5 (w5.alloc (.cells #[.slice va U.known.length vc, .slice ba U.why.length bc, .int .i64 U.wrong] 75)) := alloc_below _ _
        have t6 : (w5.alloc (.cells #[.slice va U.known.length vc, .slice ba U.why.length bc, .int .i64 U.wrong] 75)).cell? ⟨w5.heap.size, 2, none⟩ = some (.int .i64 U.wrong) := (TriC.new _ _ _ _ _).c2
        have HB6R := Lib.hid ((HB4R.out.trans (hb5.mono (by omega))).trans (hBW6.mono (by omega)))
        have HB6W := Lib.hid ((HB4W.out.trans (hb5.mono (by omega))).trans (hBW6.mono (show w.heap.size ≤ w5.heap.size by omega)))
        have HRC6 := Lib.hid ((HRC4.out.below hb5).below hBW6)
        have hs6 := hBW6.size
        have HSA : Hid ((w5.alloc (.cells #[.slice va U.known.length vc, .slice ba U.why.length bc, .int .i64 U.wrong] 75)).heap.size = w5.heap.size + 1) := by simp [Hid]
        have PCK6 := Lib.hid (PCK.out _ HB6W.out)
        have pck6 := PCK6.out.1
        clear hok hob hb5 HUN hBW6
        obtain ⟨wrg, hwr⟩ : ∃ z, z = U.wrong := ⟨_, rfl⟩
        rw [← hwr] at HPG t6 HB6R HB6W HRC6 PCK6 pck6 hs6 HSA ⊢
        clear hwr
        by_cases hneg : wrg < 0
        · have HE2 : Hid (proofGo f.letters f.clauses p = false) := by
            rw [Hid, ← H.out, HD.out, HPG.out, decide_eq_false (by omega), Bool.false_and, Bool.and_false]
          have hnd : decide (wrg < 0) = true := by simpa using hneg
          go_wp2
          go_ret
          exact ⟨ret_bool (by rw [HE.out, HE2.out]), HB6W.out⟩
        · have HE2 : Hid (proofGo f.letters (f.clauses ++ p.take (k + 1)) (p.drop (k + 1)) = proofGo f.letters f.clauses p) := by
            rw [Hid, ← H.out, HD.out, HPG.out, HIN.out, decide_eq_true (by omega), HT.out, ← List.append_assoc]; rfl
          have hnd : decide (wrg < 0) = false := by simpa using hneg
          have hnn : 0 ≤ wrg := by omega
          have hll : (f.clauses ++ p.take k).length + 1 ≤ 1048576 := by rw [List.length_append, List.length_take]; omega
          have HCK2 : Hid (∀ d ∈ p.take (k + 1), isClause f.letters d = true) := fun d hd => by
            rw [HT.out] at hd
            rcases List.mem_append.1 hd with hd | hd
            · exact HCK.out d hd
            · rw [List.mem_singleton] at hd; subst hd; exact HIN.out
          go_wp2_with (at_builtin; refine wpList_appRef rfl _ _ rfl _ (f.clauses ++ p.take k) rfl HRC6.out _ c (PCK6.out.2.mono (Nat.zero_le _) hh' (Nat.le_trans (show w.heap.size ≤ w5.heap.size by omega) hs6)) _ (by rw [HSA.out]; rfl) hll ?_)
          intro v7 w7 hrc7 hb7 hz7
          have HRC7 : Hid (RefII w7 w.heap.size w2.heap.size v7 (f.clauses ++ p.take (k + 1))) := by rw [Hid, HT.out]; exact hrc7
          have HB7 : Hid (Below w2.heap.size w3 w7) := (HBB.out.trans (HB6R.out.mono (show w2.heap.size ≤ wr.heap.size by omega))).trans hb7
          clear hrc7 hb7
          go_wp2
          go_roundw
          case rel => exact ⟨k + 1, by omega, by go_num, HRC7.out, HCK2, HE2, HB7.out⟩
          case measure => simp [intOf]; omega
    · obtain rfl : k = p.length := by omega
      have HE2 : Hid (proofGo f.letters f.clauses p = true) := by rw [Hid, ← H.out, drop_len _ _ (Nat.le_refl _)]; rfl
      clear hrc
      go_wp2
      go_ret
      exact ⟨ret_bool (by rw [HE.out, HE2.out]), HBR.out⟩
theorem field_wrong (a b c : Value) (w : World) : (Instr.field 71 (.agg #[a, b, c]) 2).run Try.prog w = .ok c w := by
  simp [Instr.field, go_sem]
  rfl
set_option maxHeartbeats 2000000 in
set_option maxRecDepth 100000 in
theorem implIsProof_any (w : World) {l h l' h' : Nat} (v : Value) (f : FormD) (v' : Value) (p : List (List Int)) (hv : FormR w l h v f) (hh : h ≤ w.heap.size) (hz : SmallII f.clauses) (hv' : Intss w l' h' v' p) (hh' : h' ≤ w.heap.size) (hz' : SmallII p) :
    Calls Try.prog 12 #[v, v'] w fun e w' => e = .returned (.bool (isProof f p)) ∧ Below w.heap.size w w' := by
  obtain ⟨u, rfl, hu⟩ := hv.ex
  have kL := hv.rng
  obtain ⟨a0, cap0, V0, e0, _⟩ := hu.out
  subst e0
  obtain ⟨pa, pcap, PV, rfl, pc1, pc2, PR, pd⟩ := hv'.out
  obtain ⟨W, hW⟩ : ∃ W, W = w.alloc (.cells #[.int .i64 f.letters, .slice a0 f.clauses.length cap0] 26) := ⟨_, rfl⟩
  have hsW : W.heap.size = w.heap.size + 1 := by rw [hW]; simp
  have hBW : Below w.heap.size w W := by rw [hW]; exact alloc_below _ _
  have hbx : TwoC W w.heap.size 26 (.int .i64 f.letters) (.slice a0 f.clauses.length cap0) := by rw [hW]; exact TwoC.new _ _ _ _
  have HF := Lib.hid (hv.below hBW hh)
  have HU := Lib.hid (hu.below hBW hh)
  have HB := Lib.hid hbx
  have HBW := Lib.hid hBW
  have hW1 : w.heap.size < W.heap.size := by omega
  have hhW : h ≤ W.heap.size := by omega
  have HZ := Lib.hid hz
  have HZ' := Lib.hid hz'
  have hpl := hz'.1
  have PC : Hid (∀ (wx : World) (j : Nat), Below w.heap.size w wx → (hj : j < p.length) → ∃ b o, pa = some ⟨b, o, none⟩ ∧ wx.cell? ⟨b, o + j, none⟩ = some (PV j) ∧ Ints wx l' h' (PV j) p[j]) := fun wx j hb hj => by
    rcases pd with rfl | ⟨b, o, e, r1, r2, r3, hc⟩
    · simp at hj
    · exact ⟨b, o, e, by rw [hb.cell (p := ⟨b, o + j, none⟩) (show b < w.heap.size by omega)]; exact hc j hj, (PR j hj).below hb hh'⟩
  have q0 := hbx.c0
  have q1 := hbx.c1
  clear hu hv hv' hbx hBW hsW hz hz' pd PR
  go_enter Try.func12, Try.ntmps12
  go_wp2_with fail
  rw [← hW]
  clear hW
  go_wp2_with fail
  refine (implValidForm_any W _ _ HF.out hhW HZ.out).mono ?_
  rintro e w2 ⟨rfl, hb2⟩
  clear q0 q1
  have hs2 := hb2.size
  have hbx2 := HB.out.below hb2 hW1
  have HB2 := Lib.hid hbx2
  have HBW2 := Lib.hid (HBW.out.trans (hb2.mono (by omega)))
  have HU2 := Lib.hid (HU.out.below hb2 hhW)
  clear hbx2 hb2
  cases hval : validForm f
  · have HE : Hid (isProof f p = false) := by rw [Hid, isProof, okProof, hval]; rfl
    go_wp2
    go_ret
    exact ⟨ret_bool (by rw [HE.out]), HBW2.out⟩
  have bL := (validForm_bounds hval).1
  have hcl48 := (validForm_bounds hval).2.1
  have HVC := Lib.hid (validForm_bounds hval).2.2
  by_cases hp1 : p.length = 0
  · have hp0 : p = [] := List.eq_nil_of_length_eq_zero hp1
    subst hp0
    have HE : Hid (isProof f [] = false) := by rw [Hid, isProof, okProof, hval]; rfl
    go_wp2
    go_ret
    exact ⟨ret_bool (by rw [HE.out]), HBW2.out⟩
  have hp1' : 1 ≤ p.length := by omega
  have hp1n : 0 < p.length := by omega
  have hp1i : 1 ≤ (p.length : Int) := by omega
  have hp1d : ((p.length : Int) == 0) = false := beq_eq_false_iff_ne.2 (by omega)
  by_cases hp2 : p.length ≤ 128
  case neg =>
    have HE : Hid (isProof f p = false) := by
      have : inB 1 128 (p.length : Int) = false := by simp [inB]; omega
      rw [Hid, isProof, okProof, this]; simp
    have hp2' : 128 < p.length := by omega
    clear hp1 hval
    go_wp2
    go_ret
    exact ⟨ret_bool (by rw [HE.out]), HBW2.out⟩
  obtain ⟨pb, po, rfl, pck, pri⟩ := PC.out w2 (p.length - 1) HBW2.out (by omega)
  obtain ⟨la, lc, hle, _, _, _⟩ := pri.out
  rw [hle] at pck
  have hidx : ((p.length : Int) - 1).toNat = p.length - 1 := by omega
  have hidx1 : 0 ≤ (p.length : Int) - 1 := by omega
  have hidx2 : (p.length : Int) - 1 < (p.length : Int) := by omega
  have HIN : Hid (inB 1 128 (p.length : Int) = true) := by rw [Hid, inB_iff]; omega
  have HGL : Hid (p.getD (p.length - 1) [] = p[p.length - 1]) := getD_get (by omega)
  obtain ⟨ln, hln⟩ : ∃ ln, ln = (p[p.length - 1]'(by omega)).length := ⟨_, rfl⟩
  rw [← hln] at pck
  clear hle pri
  by_cases hl0 : ln = 0
  case neg =>
    have HE : Hid (isProof f p = false) := by
      have e2 : decide ((p.getD (p.length - 1) []).length = 0) = false := by rw [HGL.out, ← hln]; simpa using hl0
      rw [Hid, isProof, okProof, e2, Bool.and_false, Bool.and_false, Bool.false_and]
    have e0 : ((ln : Int) == 0) = false := by simpa using hl0
    have e1 : ((ln : Int) != 0) = true := by simpa using hl0
    have e3 : 0 < ln := by omega
    clear hl0 hp1 hln hval
    go_wp2
    go_ret
    exact ⟨ret_bool (by rw [HE.out]), HBW2.out⟩
  have HE : Hid (isProof f p = proofGo f.letters f.clauses p) := by
    have e2 : decide ((p.getD (p.length - 1) []).length = 0) = true := by rw [HGL.out, ← hln]; simpa using hl0
    rw [Hid, isProof, okProof, e2, hval, HIN.out]; rfl
  have q1 := HB2.out.c1
  have q1a := (HB2.out.alloc (.cells #[] 34)).c1
  have hs12 : w.heap.size ≤ w2.heap.size := by omega
  subst hl0
  clear hp1 hln hval
  go_wp2_with (at_builtin; refine wpList_appRefs (B := w.heap.size) rfl _ _ rfl _ f.clauses rfl rfl HU2.out hh hs12 (by omega) ?_)
  intro cv w3 hrc hb3
  have HRC := Lib.hid hrc
  have HB3 := Lib.hid (HBW2.out.trans (hb3.mono hs12))
  have HX3 := Lib.hid (HB2.out.below hb3 HB2.out.lt)
  have hwl : w.heap.size < w2.heap.size := by omega
  have hs3 := hb3.size
  clear hrc q1 q1a pck hidx hidx1 hidx2 HIN HGL hb3
  go_wp2_with fail
  go_loopw [5, 37] (fun cv i wr => ∃ k : Nat, k ≤ p.length ∧ i = .int .i64 k ∧ RefII wr w.heap.size w2.heap.size cv (f.clauses ++ p.take k) ∧ Hid (∀ c ∈ p.take k, isClause f.letters c = true) ∧ Hid (proofGo f.letters (f.clauses ++ p.take k) (p.drop k) = proofGo f.letters f.clauses p) ∧ Below w2.heap.size w3 wr) (fun _ i _ => p.length - (intOf i).toNat)
  case atStart => exact ⟨0, Nat.zero_le _, rfl, by simpa using HRC.out, Lib.hid (by simp), Lib.hid (by simp), Below.refl _ _⟩
  case round =>
    clear HRC
    obtain ⟨k, hk, rfl, hrc, HCK, H, hb⟩ := hrel
    have hsr := hb.size
    have HBR := Lib.hid (HB3.out.trans (hb.mono hs12))
    have HXR := Lib.hid (HX3.out.below hb hwl)
    have HRC := Lib.hid hrc
    have HBB := Lib.hid hb
    clear hb
    by_cases hlt : k < p.length
    · obtain ⟨b2, o2, e2, pck, pri⟩ := PC.out wr k HBR.out hlt
      injection e2 with e2
      injection e2 with e2 e2'
      subst e2; subst e2'
      have PCK : Hid (∀ wx, Below w.heap.size w wx → wx.cell? ⟨pb, po + k, none⟩ = some (PV k) ∧ Ints wx l' h' (PV k) p[k]) := fun wx hbx => by
        obtain ⟨b2, o2, e2, h1, h2⟩ := PC.out wx k hbx hlt
        injection e2 with e2
        injection e2 with e2 e2'
        subst e2; subst e2'
        exact ⟨h1, h2⟩
      obtain ⟨ka, kc, hke, _, _, _⟩ := pri.out
      rw [hke] at PCK pck
      have hzk := HZ'.out.row hlt
      have HD : Hid (p.drop k = p[k] :: p.drop (k + 1)) := drop_cons p k hlt
      have HT : Hid (p.take (k + 1) = p.take k ++ [p[k]]) := List.take_succ_eq_append_getElem hlt
      obtain ⟨c, hc⟩ : ∃ c, c = p[k] := ⟨_, rfl⟩
      rw [← hc] at PCK pck hzk HD HT
      have hqq := HXR.out.c0
      clear pri hke hc
      have rfw : ∀ (a b c : Value) (w : World), (Instr.field 71 (.agg #[a, b, c]) 2).run Try.prog w = .ok c w := field_wrong
      have HCLS := Lib.hid (implIsClause_any wr f.letters _ c kL (PCK.out wr HBR.out).2 (by omega) (by omega))
      clear hrc
      cases hin : isClause f.letters c
      · have HE2 : Hid (proofGo f.letters f.clauses p = false) := by rw [Hid, ← H.out, HD.out, proofGo, hin]; rfl
        go_wp2_with fail
        refine HCLS.out.mono ?_
        rintro e wc ⟨rfl, hbc⟩
        rw [hin]
        clear hin pck
        go_wp2
        go_ret
        exact ⟨ret_bool (by rw [HE.out, HE2.out]), HBR.out.trans (hbc.mono (by omega))⟩
      · go_wp2_with fail
        refine HCLS.out.mono ?_
        rintro e wc ⟨rfl, hbc⟩
        rw [hin]
        clear hqq HCLS
        have hc10 : c.length ≤ 10 := (cons_clause hin).len bL.2
        have HSM : Hid (SmallII (f.clauses ++ p.take k)) := small_append hcl48 (by rw [List.length_take]; omega) HVC.out HCK.out
        have HCL : Hid (∀ d ∈ f.clauses ++ p.take k, ∀ x ∈ d, isLit f.letters x = true) := fun d hd => by
          rcases List.mem_append.1 hd with hd | hd
          · exact clause_lits (HVC.out d hd)
          · exact clause_lits (HCK.out d hd)
        have HCN := Lib.hid (cons_negs (cons_clause hin))
        have HRG := Lib.hid (cons_rng hin)
        have HIN := Lib.hid hin
        have hbwc := HBR.out.trans (hbc.mono (show w.heap.size ≤ wr.heap.size by omega))
        have hsc := hbc.size
        have pckc := (PCK.out wc hbwc).1
        have HRCc := Lib.hid (HRC.out.below hbc)
        have HOP := Lib.hid (opposites_any _ c wc (PCK.out wc hbwc).2 (by omega) HRG.out (by omega))
        have HBC := Lib.hid hbc
        have HBWC := Lib.hid hbwc
        clear hin hbc hbwc pck
        go_wp2_with fail
        refine HOP.out.mono ?_
        rintro e w4 ⟨u4, rfl, hou, hb4⟩
        have hs4 := hb4.size
        have hb4r := HBC.out.trans (hb4.mono hsc)
        have hb4w := HBWC.out.trans (hb4.mono (by omega))
        obtain ⟨oa, oc, rfl⟩ := hou.shape
        have hrc4 := HRCc.out.below hb4
        have HUN := Lib.hid (unitsOf_any w4 f.letters _ _ (f.clauses ++ p.take k) (negs c) bL.2 hrc4.rd (Nat.le_refl _) HSM.out HCL.out hou.rd (Nat.le_refl _) HCN.out)
        have HPG : Hid (proofGo f.letters (f.clauses ++ p.take k) (c :: p.drop (k + 1)) = (isClause f.letters c && (decide (0 ≤ (unitsF (f.clauses ++ p.take k) (negs c)).wrong) && proofGo f.letters ((f.clauses ++ p.take k) ++ [c]) (p.drop (k + 1))))) := rfl
        obtain ⟨U, hU⟩ : ∃ U, U = unitsF (f.clauses ++ p.take k) (negs c) := ⟨_, rfl⟩
        rw [← hU] at HUN HPG
        clear hU
        have HRC4 := Lib.hid hrc4
        have HB4R := Lib.hid hb4r
        have HB4W := Lib.hid hb4w
        clear hou hb4 hrc4 hb4r hb4w pckc HOP
        go_wp2_with fail
        refine HUN.out.mono ?_
        rintro e w5 ⟨vk, vb, rfl, hok, hob, hb5⟩
        obtain ⟨va, vc, rfl⟩ := hok.shape
        obtain ⟨ba, bc, rfl⟩ := hob.shape
        have hs5 := hb5.size
        have HB6R := Lib.hid (HB4R.out.trans (hb5.mono (by omega)))
        have HB6W := Lib.hid (HB4W.out.trans (hb5.mono (show w.heap.size ≤ w4.heap.size by omega)))
        have HRC6 := Lib.hid (HRC4.out.below hb5)
        have hs6 : w5.heap.size ≤ w5.heap.size := Nat.le_refl _
        have hBW6 := hs6
        have PCK6 := Lib.hid (PCK.out _ HB6W.out)
        have pck6 := PCK6.out.1
        clear hok hob hb5 HUN hBW6
        obtain ⟨wrg, hwr⟩ : ∃ z, z = U.wrong := ⟨_, rfl⟩
        rw [← hwr] at HPG ⊢
        clear hwr
        by_cases hneg : wrg < 0
        · have HE2 : Hid (proofGo f.letters f.clauses p = false) := by
            rw [Hid, ← H.out, HD.out, HPG.out, decide_eq_false (by omega), Bool.false_and, Bool.and_false]
          have hnd : decide (wrg < 0) = true := by simpa using hneg
          go_wp2
          go_ret
          exact ⟨ret_bool (by rw [HE.out, HE2.out]), HB6W.out⟩
        · have HE2 : Hid (proofGo f.letters (f.clauses ++ p.take (k + 1)) (p.drop (k + 1)) = proofGo f.letters f.clauses p) := by
            rw [Hid, ← H.out, HD.out, HPG.out, HIN.out, decide_eq_true (by omega), HT.out, ← List.append_assoc]; rfl
          have hnd : decide (wrg < 0) = false := by simpa using hneg
          have hnn : 0 ≤ wrg := by omega
          have hll : (f.clauses ++ p.take k).length + 1 ≤ 1048576 := by rw [List.length_append, List.length_take]; omega
          have HCK2 : Hid (∀ d ∈ p.take (k + 1), isClause f.letters d = true) := fun d hd => by
            rw [HT.out] at hd
            rcases List.mem_append.1 hd with hd | hd
            · exact HCK.out d hd
            · rw [List.mem_singleton] at hd; subst hd; exact HIN.out
          go_wp2_with (at_builtin; refine wpList_appRef rfl _ _ rfl _ (f.clauses ++ p.take k) rfl HRC6.out _ c (PCK6.out.2.mono (Nat.zero_le _) hh' (Nat.le_trans (show w.heap.size ≤ w5.heap.size by omega) hs6)) _ rfl hll ?_)
          intro v7 w7 hrc7 hb7 hz7
          have HRC7 : Hid (RefII w7 w.heap.size w2.heap.size v7 (f.clauses ++ p.take (k + 1))) := by rw [Hid, HT.out]; exact hrc7
          have HB7 : Hid (Below w2.heap.size w3 w7) := (HBB.out.trans (HB6R.out.mono (show w2.heap.size ≤ wr.heap.size by omega))).trans hb7
          clear hrc7 hb7
          go_wp2
          go_roundw
          case rel => exact ⟨k + 1, by omega, by go_num, HRC7.out, HCK2, HE2, HB7.out⟩
          case measure => simp [intOf]; omega
    · obtain rfl : k = p.length := by omega
      have HE2 : Hid (proofGo f.letters f.clauses p = true) := by rw [Hid, ← H.out, drop_len _ _ (Nat.le_refl _)]; rfl
      clear hrc
      go_wp2
      go_ret
      exact ⟨ret_bool (by rw [HE.out, HE2.out]), HBR.out⟩
end Go.Proofs.Ytcpbgjnijhcpkaa
