/-
  LeaveLetter: contracts in the program (written by wip/gen/leavei.py out of XLeaveS).
-/
import Derived.Test.YtcpbgjnijhcpkaaFcA
import Derived.Test.YtcpbgjnijhcpkaaUnitsOf
import Derived.Test.YtcpbgjnijhcpkaaByLetter
import Derived.Test.YtcpbgjnijhcpkaaCopy
namespace Go.Proofs.Ytcpbgjnijhcpkaa
open Go.RowKit
set_option linter.unusedVariables false
set_option maxRecDepth 100000

theorem Intss.cellAt {w : World} {lo hi b off n cap : Nat} {zss : List (List Int)} (h : Intss w lo hi (.slice (some ⟨b, off, none⟩) n cap) zss) {j : Nat} (hj : j < zss.length) :
    ∃ a c, w.cell? ⟨b, off + j, none⟩ = some (.slice a zss[j].length c) ∧ Ints w lo hi (.slice a zss[j].length c) zss[j] ∧ b < hi := by
  obtain ⟨a, cap', V, e, h1, h2, hV, hd⟩ := h.out
  simp only [Value.slice.injEq] at e
  obtain ⟨e1, rfl, rfl⟩ := e
  rcases hd with rfl | ⟨b', off', r1, r2, r3, r4, hc⟩
  · simp at hj
  · rw [r1] at e1
    injection e1 with e1
    injection e1 with e1 e2
    subst e1; subst e2
    have hv := hV j hj
    obtain ⟨a2, c2, e3, _⟩ := hv.out
    have hcj := hc j hj
    rw [e3] at hcj hv
    exact ⟨a2, c2, hcj, hv, r3⟩
theorem Intss.addr {w : World} {lo hi n cap : Nat} {a : Option Addr} {zss : List (List Int)} (h : Intss w lo hi (.slice a n cap) zss) (h0 : 0 < zss.length) : ∃ b off, a = some ⟨b, off, none⟩ := by
  obtain ⟨a', cap', V, e, h1, h2, hV, hd⟩ := h.out
  simp only [Value.slice.injEq] at e
  obtain ⟨rfl, _, _⟩ := e
  rcases hd with rfl | ⟨b', off', r1, _⟩
  · simp at h0
  · exact ⟨b', off', r1⟩
theorem Ints.cellAt {w : World} {lo hi n cap : Nat} {a : Option Addr} {zs : List Int} (h : Ints w lo hi (.slice a n cap) zs) {j : Nat} (hj : j < zs.length) :
    ∃ b off, a = some ⟨b, off, none⟩ ∧ b < hi ∧ ∀ i, i < zs.length → w.cell? ⟨b, off + i, none⟩ = some (.int .i64 (zs.getD i 0)) := by
  obtain ⟨a', cap', e, h1, h2, hd⟩ := h.out
  simp only [Value.slice.injEq] at e
  obtain ⟨rfl, rfl, rfl⟩ := e
  rcases hd with rfl | ⟨b', off', r1, r2, r3, r4, hc⟩
  · simp at hj
  · exact ⟨b', off', r1, r3, hc⟩
/-- two slices of the call's own that grow side by side -/
structure LearnM (w : World) (lo : Nat) (lv ov : Value) (lk out : List Int) : Prop where
  a : OwnI w lo w.heap.size lv lk
  b : OwnI w lo w.heap.size ov out
  ap : ∀ p, lv.ownBlock = some p → ov.ownBlock ≠ some p
section
variable {w w' : World} {lo : Nat} {lv ov u : Value} {lk out zs : List Int}
theorem LearnM.swap (h : LearnM w lo lv ov lk out) : LearnM w lo ov lv out lk := ⟨h.b, h.a, fun p hp e => h.ap p e hp⟩
theorem LearnM.drew (h : LearnM w lo lv ov lk out) (hd : Drew w w') : LearnM w' lo lv ov lk out := by
  have e : w'.heap.size = w.heap.size := by rw [hd.heap]
  exact ⟨by rw [e]; exact h.a.drew hd, by rw [e]; exact h.b.drew hd, h.ap⟩
theorem LearnM.below (h : LearnM w lo lv ov lk out) (hb : Below w.heap.size w w') : LearnM w' lo lv ov lk out :=
  ⟨(h.a.below hb (Nat.le_refl _)).mono (Nat.le_refl _) hb.size (Nat.le_refl _), (h.b.below hb (Nat.le_refl _)).mono (Nat.le_refl _) hb.size (Nat.le_refl _), h.ap⟩
theorem LearnM.grow (h : LearnM w lo lv ov lk out) {n : Nat} (ho : OwnI w' lo w'.heap.size u zs) (hk : ∀ k, k < w.heap.size → lv.ownBlock ≠ some k → w'.heap[k]? = w.heap[k]?) (hz : w.heap.size ≤ w'.heap.size) (hn : w.heap.size ≤ n) (hb : u.ownBlock = lv.ownBlock ∨ u.ownBlock = some n) : LearnM w' lo u ov zs out := by
  refine ⟨ho, h.b.beside hz (Nat.le_trans h.b.own.hsz hz) hk (fun p hp e => h.ap p e hp), fun p hp e => ?_⟩
  rcases hb with hb | hb
  · exact h.ap p (by rw [← hb]; exact hp) e
  · have := h.b.own.blk p e
    rw [hb] at hp; injection hp with hp; omega
/-- a call that leaves the first slice in its old block or in new memory -/
theorem LearnM.called (h : LearnM w lo lv ov lk out) (ho : OwnI w' lo w'.heap.size u zs) (hb : Below w.heap.size w w') (hk : BlkOk w lv u) : LearnM w' lo u ov zs out := by
  refine ⟨ho, (h.b.below hb (Nat.le_refl _)).mono (Nat.le_refl _) hb.size (Nat.le_refl _), fun p hp e => ?_⟩
  rcases hk with hk | hk
  · exact h.ap p (by rw [← hk]; exact hp) e
  · have := h.b.own.blk p e
    have := hk p hp
    omega
end
theorem learn_no {f : FormD} {g : List Int} (h : (validForm f && litsGo f.letters [] g) = false) : learnF f g = ([], false) := by rw [learnF, h]; rfl
theorem learn_none {f : FormD} {g : List Int} (h : (validForm f && litsGo f.letters [] g) = true) (hw : (unitsF f.clauses g).wrong < 0) : learnF f g = ([], false) := by rw [learnF, h, if_pos rfl, if_pos hw]
theorem learn_yes {f : FormD} {g : List Int} (h : (validForm f && litsGo f.letters [] g) = true) (hw : ¬ (unitsF f.clauses g).wrong < 0) : learnF f g = (srtL (learnOut f.clauses (unitsF f.clauses g)), true) := by rw [learnF, h, if_pos rfl, if_neg hw]
/-- the start -/
theorem learn_start {L : Int} {cs : List (List Int)} {U : UnitD} {j : Nat} (hj : j < cs.length) (hw : U.wrong = (j : Int)) (hy : UnitsWhy cs U) (hc : ∀ c ∈ cs, Cons L c) : LearnInv L U.known cs[j] 0 [] ∧ learnGo cs U (11 - 0) 0 cs[j] [] = learnOut cs U := by
  have e : cs.getD U.wrong.toNat [] = cs[j] := by rw [hw, Int.toNat_natCast, getD_get hj]
  refine ⟨⟨⟨fun l hl => hy.wrong (by omega) l (by rw [e]; exact hl), hc _ (List.getElem_mem hj)⟩, Nat.zero_le _, List.Sublist.refl _⟩, by rw [learnOut, e]⟩
theorem learnAdd_cons (x y : Int) (lk r : List Int) : learnAdd x lk (y :: r) = learnAdd x (if (y == -x) || hasI lk y then lk else lk ++ [y]) r := rfl
theorem learnAdd_keep {x y : Int} {lk r : List Int} (h : ((y == -x) || hasI lk y) = true) : learnAdd x lk (y :: r) = learnAdd x lk r := by rw [learnAdd_cons, if_pos h]
theorem learnAdd_put {x y : Int} {lk r : List Int} (h : ((y == -x) || hasI lk y) = false) : learnAdd x lk (y :: r) = learnAdd x (lk ++ [y]) r := by rw [learnAdd_cons, if_neg (by rw [h]; decide)]
set_option maxHeartbeats 400000 in
set_option maxRecDepth 100000 in
theorem indexI_any {l h : Nat} (v : Value) (zs : List Int) (x : Int) (p : Nat) (w : World) (hv : Ints w l h v zs) (hp : p < zs.length) (hx : zs.getD p 0 = x) (hn : ∀ j, j < p → zs.getD j 0 ≠ x) :
    Calls Try.prog 65 #[v, .int .i64 x] w fun e w' => e = .returned (.int .i64 (p : Int)) ∧ w = w' := by
  obtain ⟨a, cap, rfl, hc1, hc2, hd⟩ := hv.out
  rcases hd with rfl | ⟨b, off, rfl, hb1, hb2, hb3, hcell⟩
  · simp at hp
  have HN := Lib.hid hn
  have HX := Lib.hid hx
  clear hn hx
  go_enter Try.func65, Try.ntmps65
  go_wp2_with fail
  go_loop [8] (fun i => ∃ k : Nat, k ≤ p ∧ i = .int .i64 k) (fun i => zs.length - (intOf i).toNat)
  case atStart => exact ⟨0, Nat.zero_le _, rfl⟩
  case round =>
    obtain ⟨k, hk, rfl⟩ := hrel
    have hkl : k < zs.length := by omega
    have hck := hcell k hkl
    by_cases hkp : k = p
    · subst hkp
      rw [HX.out] at hck
      clear hcell
      go_wp2
      go_ret
      exact ⟨rfl, rfl⟩
    · have hne := HN.out k (by omega)
      obtain ⟨y, hy⟩ : ∃ y, y = zs.getD k 0 := ⟨_, rfl⟩
      rw [← hy] at hck hne
      have hq : (x == y) = false := beq_eq_false_iff_ne.2 (Ne.symm hne)
      clear hcell hne hy
      go_wp2
      go_round
      case rel => exact ⟨k + 1, by omega, by go_num⟩
      case measure => simp [intOf]; omega
set_option maxHeartbeats 2000000 in
set_option maxRecDepth 100000 in
theorem implLearnFrom_any (w : World) {l h l' h' : Nat} (v : Value) (f : FormD) (v' : Value) (g : List Int) (hv : FormR w l h v f) (hh : h ≤ w.heap.size) (hz : SmallII f.clauses) (hv' : Ints w l' h' v' g) (hh' : h' ≤ w.heap.size) (hz' : g.length ≤ 1048576) :
    Calls Try.prog 17 #[v, v'] w fun e w' => ∃ r, e = .returned (.tuple #[r, .bool (learnF f g).2]) ∧ OwnI w' w.heap.size w'.heap.size r (learnF f g).1 ∧ Below w.heap.size w w' := by
  obtain ⟨u, rfl, hu⟩ := hv.ex
  have kL := hv.rng
  obtain ⟨a0, cap0, V0, e0, hcap1, hcap2, _, _⟩ := hu.out
  subst e0
  obtain ⟨ga, gcap, ge, gc1, gc2, _⟩ := hv'.out
  subst ge
  obtain ⟨W, hW⟩ : ∃ W, W = w.alloc (.cells #[.int .i64 f.letters, .slice a0 f.clauses.length cap0] 26) := ⟨_, rfl⟩
  have hsW : W.heap.size = w.heap.size + 1 := by rw [hW]; simp
  have hBW : Below w.heap.size w W := by rw [hW]; exact alloc_below _ _
  have hbx : TwoC W w.heap.size 26 (.int .i64 f.letters) (.slice a0 f.clauses.length cap0) := by rw [hW]; exact TwoC.new _ _ _ _
  have HF := Lib.hid (hv.below hBW hh)
  have HU := Lib.hid (hu.below hBW hh)
  have HG := Lib.hid (hv'.below hBW hh')
  have HB := Lib.hid hbx
  have HBW := Lib.hid hBW
  have hW1 : w.heap.size < W.heap.size := by omega
  have hhW : h ≤ W.heap.size := by omega
  have hhW' : h' ≤ W.heap.size := by omega
  have HZ := Lib.hid hz
  have q0 := hbx.c0
  have q1 := hbx.c1
  clear hu hv hv' hbx hBW hsW hz
  go_enter Try.func17, Try.ntmps17
  go_wp2_with fail
  rw [← hW]
  clear hW
  go_wp2_with fail
  refine (implValidForm_any W _ _ HF.out hhW HZ.out).mono ?_
  rintro e w2 ⟨rfl, hb2⟩
  have hs2 := hb2.size
  clear q0 q1
  have hbx2 := HB.out.below hb2 hW1
  have q0 := hbx2.c0
  have q1 := hbx2.c1
  have HB2 := Lib.hid hbx2
  have HBW2 := Lib.hid (HBW.out.trans (hb2.mono (by omega)))
  have HG2 := Lib.hid (HG.out.below hb2 hhW')
  have HU2 := Lib.hid (HU.out.below hb2 hhW)
  clear hbx2 hb2
  cases hval : validForm f
  · have HE := Lib.hid (learn_no (f := f) (g := g) (by rw [hval]; rfl))
    go_wp2
    go_ret2
    exact ⟨_, by rw [HE.out]; rfl, by rw [HE.out]; exact OwnI.nil _ _ _ (Nat.le_refl _), HBW2.out⟩
  have bL := (validForm_bounds hval).1
  go_wp2_with fail
  refine (areGiven_any f.letters _ g w2 bL HG2.out hz').mono ?_
  rintro e w3 ⟨rfl, rfl⟩
  cases hgv : litsGo f.letters [] g
  · have HE := Lib.hid (learn_no (f := f) (g := g) (by rw [hgv, Bool.and_false]))
    go_wp2
    go_ret2
    exact ⟨_, by rw [HE.out]; rfl, by rw [HE.out]; exact OwnI.nil _ _ _ (Nat.le_refl _), HBW2.out⟩
  have HVG : Hid ((validForm f && litsGo f.letters [] g) = true) := by rw [Hid, hgv, hval]; rfl
  have HEN := Lib.hid (learn_none HVG.out)
  have HEY := Lib.hid (learn_yes HVG.out)
  have HUN := Lib.hid (unitsOf_any w2 f.letters _ _ f.clauses g bL.2 HU2.out (by omega) HZ.out (valid_lits hval) HG2.out (by omega) (cons_of_lits hgv))
  have HOK := Lib.hid (unitsF_ok (g := g) bL.2 (valid_lits hval) (cons_of_lits hgv))
  have HWY := Lib.hid (unitsF_why (g := g) (valid_lits hval))
  have HCC : Hid (∀ c ∈ f.clauses, Cons f.letters c) := fun c hc => cons_clause ((validForm_bounds hval).2.2 c hc)
  have hL10 : f.letters ≤ 10 := bL.2
  obtain ⟨U, hU⟩ : ∃ U, U = unitsF f.clauses g := ⟨_, rfl⟩
  rw [← hU] at HUN HOK HWY HEN HEY
  clear hval hgv hU HVG
  go_wp2_with fail
  refine HUN.out.mono ?_
  rintro e w4 ⟨vk, vb, rfl, hok, hob, hb4⟩
  obtain ⟨va, vc, rfl⟩ := hok.shape
  obtain ⟨ba, bc, rfl⟩ := hob.shape
  have hs4 := hb4.size
  have hB4 := HBW2.out.trans (hb4.mono (by omega))
  obtain ⟨W4, hW4⟩ : ∃ W, W = w4.alloc (.cells #[.slice va U.known.length vc, .slice ba U.why.length bc, .int .i64 U.wrong] 71) := ⟨_, rfl⟩
  have hsW4 : W4.heap.size = w4.heap.size + 1 := by rw [hW4]; simp
  have hBW4 : Below w4.heap.size w4 W4 := by rw [hW4]; exact alloc_below _ _
  have HT : Hid (TriC W4 w4.heap.size 71 (.slice va U.known.length vc) (.slice ba U.why.length bc) (.int .i64 U.wrong)) := by rw [Hid, hW4]; exact TriC.new _ _ _ _ _
  have HK4 := Lib.hid (hok.rd.below hBW4 (Nat.le_refl _))
  have HY4 := Lib.hid (hob.rd.below hBW4 (Nat.le_refl _))
  have HB5 : Hid (Below w.heap.size w W4) := hB4.trans (hBW4.mono (by omega))
  have hsz4 : w4.heap.size < W4.heap.size := by omega
  have hw24 : w.heap.size ≤ W4.heap.size := by omega
  have HU4 := Lib.hid ((HU2.out.below hb4 (by omega)).below hBW4 (by omega))
  have HB4 := Lib.hid ((HB2.out.below hb4 (by omega)).below hBW4 (by omega))
  have hwW4 : w.heap.size < W4.heap.size := by omega
  have hhW4 : h ≤ W4.heap.size := by omega
  clear hok hob hb4 hB4 hBW4 q0 q1
  by_cases hwr : U.wrong < 0
  · have HE := Lib.hid (HEN.out hwr)
    have c2 := HT.out.c2
    rw [hW4] at c2
    go_wp2
    go_ret2
    rw [← hW4]
    exact ⟨_, by rw [HE.out]; rfl, by rw [HE.out]; exact OwnI.nil _ _ _ (Nat.le_refl _), HB5.out⟩
  have HE := Lib.hid (HEY.out (by omega))
  obtain ⟨j, hj, hwj⟩ : ∃ j, ∃ h : j < f.clauses.length, U.wrong = (j : Int) := by
    rcases HOK.out.wrong with h1 | ⟨j, h1, h2, _⟩
    · omega
    · exact ⟨j, h1, h2⟩
  obtain ⟨HI0, HG0⟩ : Hid (LearnInv f.letters U.known f.clauses[j] 0 []) ∧ Hid (learnGo f.clauses U (11 - 0) 0 f.clauses[j] [] = learnOut f.clauses U) := learn_start hj hwj HWY.out HCC.out
  obtain ⟨fb, foff, rfl⟩ := HU4.out.addr (by omega)
  have t2 : W4.cell? ⟨w4.heap.size, 2, none⟩ = some (.int .i64 (j : Int)) := by rw [HT.out.c2, hwj]
  have c1 := HB4.out.c1
  obtain ⟨ka, kc, hck, hcl, _⟩ := HU4.out.cellAt hj
  have HCP := Lib.hid (copyInts_any _ f.clauses[j] W4 hcl hhW4 (by have := HZ.out.row hj; omega))
  rw [hW4] at t2 c1 hck
  clear hwr hwj HEN HEY hcl
  go_wp2_with fail
  rw [← hW4]
  clear t2 c1 hck hW4 hsW4
  refine HCP.out.mono ?_
  rintro e w5 ⟨u5, rfl, ho5, hb5⟩
  obtain ⟨qa, qc, rfl⟩ := ho5.shape
  have HM0 : Hid (LearnM w5 W4.heap.size (.slice qa f.clauses[j].length qc) (.slice none 0 0) f.clauses[j] []) := ⟨ho5, OwnI.nil _ _ _ (Nat.le_refl _), fun p _ e => by cases e⟩
  have HB50 := Lib.hid hb5
  clear ho5 hb5
  go_wp2_with fail
  go_loopw [7, 8, 9] (fun lv ov iv wr => ∃ (i : Nat) (lk out : List Int), iv = .int .i64 i ∧ Hid (LearnInv f.letters U.known lk i out) ∧ Hid (learnGo f.clauses U (11 - i) i lk out = learnOut f.clauses U) ∧ Hid (LearnM wr W4.heap.size lv ov lk out) ∧ Hid (Below W4.heap.size W4 wr)) (fun _ _ iv _ => 11 - (intOf iv).toNat)
  case atStart => exact ⟨0, _, _, rfl, HI0, HG0, HM0, HB50⟩
  case round =>
    clear HI0 HG0 HM0 HB50 HCP
    obtain ⟨i, lk, out, rfl, HI, HGo, HM, HBr⟩ := hrel
    have hl10 := HI.out.ok.cons.len hL10
    obtain ⟨la, lc, rfl⟩ := HM.out.a.shape
    obtain ⟨oa, oc, rfl⟩ := HM.out.b.shape
    have hsr := HBr.out.size
    by_cases hlt : i < lk.length
    · obtain ⟨x, hx⟩ : ∃ x, x = lk.getD i 0 := ⟨_, rfl⟩
      have hxm : -x ∈ U.known := by rw [hx]; exact HI.out.ok.opp _ (getD_mem hlt)
      have hxr := HI.out.ok.cons.rng hL10 (getD_mem hlt)
      rw [← hx] at hxr
      have hx1 := hxr.2.1
      have hx2 := hxr.2.2
      obtain ⟨lb, loff, rfl, hlb, hlc⟩ := HM.out.a.rd.cellAt hlt
      have hlci := hlc i hlt
      rw [← hx] at hlci
      obtain ⟨p1, p2, p3⟩ := posI_spec hxm
      obtain ⟨p, hp⟩ : ∃ p, p = posI U.known (-x) := ⟨_, rfl⟩
      rw [← hp] at p1 p2 p3
      have HIX : Hid (∀ n, Calls Try.prog 65 #[.slice va U.known.length vc, .int .i64 (-x)] (wr.drewN n) fun e w' => e = .returned (.int .i64 (p : Int)) ∧ wr.drewN n = w') := fun n => indexI_any _ U.known (-x) p _ ((HK4.out.below HBr.out (by omega)).drewN n) p1 p2 p3
      obtain ⟨y, hy⟩ : ∃ y, y = U.why.getD p 0 := ⟨_, rfl⟩
      have hpw : p < U.why.length := by rw [HOK.out.len]; exact p1
      obtain ⟨yb, yoff, hyae, hyb, hyc⟩ := HY4.out.cellAt hpw
      subst hyae
      have hyr := hyc p hpw
      rw [← hy, ← HBr.out.cell (p := ⟨yb, yoff + p, none⟩) (show yb < W4.heap.size by omega)] at hyr
      have t0 := (HT.out.below HBr.out hsz4).c0
      have HX := Lib.hid hx
      have HP := Lib.hid hp
      have HY := Lib.hid hy
      have kx : I64 x := by unfold I64; omega
      have HOP : Hid (¬ y < 0 → ∃ j, ∃ h : j < f.clauses.length, y = (j : Int) ∧ OppOk U.known x f.clauses[j]) := fun h0 => by
        have h1 := why_clause HOK.out HWY.out hxm (by rw [← HP.out, ← HY.out]; exact h0)
        rw [← HP.out, ← HY.out] at h1
        exact h1
      have HTK : Hid (y < 0 → learnGo f.clauses U (11 - (i + 1)) (i + 1) lk (out ++ [x]) = learnOut f.clauses U) := fun h0 => by
        rw [← HGo.out, learn_take hl10 hlt (by rw [← HX.out, ← HP.out, ← HY.out]; exact h0), ← HX.out]
      have HAD : Hid (¬ y < 0 → ∀ c, f.clauses.getD y.toNat [] = c → learnGo f.clauses U (11 - (i + 1)) (i + 1) (learnAdd x lk c) out = learnOut f.clauses U) := fun h0 c hc => by
        rw [← HGo.out, learn_add hl10 hlt (by rw [← HX.out, ← HP.out, ← HY.out]; exact h0), ← HX.out, ← HP.out, ← HY.out, hc]
      clear hx hp hy hxm hxr hlc hyc p1 p2 p3
      go_wp2_with fail
      go_quiet ((go_at_call 65; exact quiet_same (HIX.out _)))
      obtain ⟨w1, hw1⟩ : ∃ w1, w1 = wr.drewN nq := ⟨_, rfl⟩
      rw [← hw1]
      have hD1 : Drew wr w1 := by rw [hw1]; exact Drew.one _ _
      have hlc1 : w1.cell? ⟨lb, loff + i, none⟩ = some (.int .i64 x) := by rw [hD1.cell]; exact hlci
      have hyr1 : w1.cell? ⟨yb, yoff + p, none⟩ = some (.int .i64 y) := by rw [hD1.cell]; exact hyr
      have HB1 : Hid (Below W4.heap.size W4 w1) := HBr.out.trans (hD1.below _)
      have HM1 := Lib.hid (HM.out.drew hD1)
      have t1 := (HT.out.below HB1.out hsz4).c1
      have c1 := (HB4.out.below HB1.out hwW4).c1
      have hs1 := HB1.out.size
      clear hw1 hD1 hlci hyr t0
      by_cases hw : y < 0
      · have H2 := Lib.hid (HTK.out hw)
        have HI2 : Hid (LearnInv f.letters U.known lk (i + 1) (out ++ [x])) := by rw [HX.out]; exact HI.out.take hlt
        have hol := HI.out.dist.len hL10
        go_wp2_with (at_builtin; refine wpList_app1K rfl _ _ rfl _ out rfl x _ HM1.out.b rfl kx (by omega) hs1 ?_)
        intro v3 w3 ho3 hk3 hsm3 hz3 hb3
        have HM3 := Lib.hid ((HM1.out.swap.grow ho3 hk3 (by omega) (Nat.le_succ _) hb3).swap)
        have HB3 := Lib.hid (HB1.out.trans (hsm3.below (Nat.le_refl _) hs1))
        clear ho3 hk3 hsm3 hz3 hb3
        go_wp2
        go_roundw
        case rel => exact ⟨i + 1, _, _, by go_num, HI2, H2, HM3, HB3⟩
        case measure => simp [intOf]; omega
      · obtain ⟨jc, hjc, hyj, HOPj⟩ : ∃ j, ∃ h : j < f.clauses.length, y = (j : Int) ∧ Hid (OppOk U.known x f.clauses[j]) := HOP.out (by omega)
        have H2 : Hid (learnGo f.clauses U (11 - (i + 1)) (i + 1) (learnAdd x lk f.clauses[jc]) out = learnOut f.clauses U) := HAD.out (by omega) _ (by rw [hyj, Int.toNat_natCast, getD_get hjc])
        subst hyj
        obtain ⟨ca, cc, hck4, hcl4, hfb⟩ := HU4.out.cellAt hjc
        have hck : w1.cell? ⟨fb, foff + jc, none⟩ = some (.slice ca f.clauses[jc].length cc) := by rw [HB1.out.cell (p := ⟨fb, foff + jc, none⟩) (show fb < W4.heap.size by omega)]; exact hck4
        have HCR : Hid (∀ z ∈ f.clauses[jc], -10 ≤ z ∧ z ≤ 10) := fun z hz => by
          have := (HCC.out _ (List.getElem_mem hjc)).rng hL10 hz; omega
        have hcz := HZ.out.row hjc
        obtain ⟨c, hc⟩ : ∃ c, c = f.clauses[jc] := ⟨_, rfl⟩
        rw [← hc] at H2 HOPj hck hcl4 HCR hcz
        have HCL := Lib.hid hcl4
        have HIA : Hid (LearnInv f.letters U.known (learnAdd x lk c) (i + 1) out) := HI.out.add HOK.out.cons hlt HOPj.out
        have HL0 : Hid (LkOk f.letters U.known lk ∧ i < lk.length ∧ lk.getD i 0 = x) := ⟨HI.out.ok, hlt, HX.out.symm⟩
        clear hc hck4 hcl4 HTK HAD HOP HIX
        go_wp2_with fail
        go_quiet (fail)
        obtain ⟨w2', hw2⟩ : ∃ w1', w1' = w1.drewN nq := ⟨_, rfl⟩
        rw [← hw2]
        have hD2 : Drew w1 w2' := by rw [hw2]; exact Drew.one _ _
        have HB2' : Hid (Below W4.heap.size W4 w2') := HB1.out.trans (hD2.below _)
        have HM2 := Lib.hid (HM1.out.drew hD2)
        clear hw2 hD2 hck hlc1 hyr1 t1 c1
        go_wp2_with fail
        go_loopw [7, 61] (fun lv jv wr => ∃ (m : Nat) (lk2 : List Int), m ≤ c.length ∧ jv = .int .i64 m ∧ Hid (learnAdd x lk2 (c.drop m) = learnAdd x lk c) ∧ Hid (LkOk f.letters U.known lk2 ∧ i < lk2.length ∧ lk2.getD i 0 = x) ∧ Hid (LearnM wr W4.heap.size lv (.slice oa out.length oc) lk2 out) ∧ Hid (Below W4.heap.size W4 wr)) (fun _ jv _ => c.length - (intOf jv).toNat)
        case atStart => exact ⟨0, _, Nat.zero_le _, rfl, Lib.hid rfl, HL0, HM2, HB2'⟩
        case round =>
          clear HL0 HM2 HB2'
          obtain ⟨m, lk2, hm, rfl, H3, HL2, HM3, HB3⟩ := hrel
          obtain ⟨hk2, hi2, hx2'⟩ := HL2.out
          have hl2 := hk2.cons.len hL10
          have HK2 := Lib.hid hk2
          have HX2 := Lib.hid hx2'
          obtain ⟨ra, rc, rfl⟩ := HM3.out.a.shape
          obtain ⟨lb2, loff2, rfl, hlb2, hlc2⟩ := HM3.out.a.rd.cellAt hi2
          have hli := hlc2 i hi2
          rw [hx2'] at hli
          have hs3 := HB3.out.size
          clear hk2 hx2' hlc2
          by_cases hml : m < c.length
          · obtain ⟨y, hy⟩ : ∃ y, y = c.getD m 0 := ⟨_, rfl⟩
            have hym : y ∈ c := by rw [hy]; exact getD_mem hml
            obtain ⟨cb, coff, hcae, hcb, hcc⟩ := (HCL.out.below HB3.out hhW4).cellAt hml
            subst hcae
            have hcy := hcc m hml
            rw [← hy] at hcy
            have HD : Hid (c.drop m = y :: c.drop (m + 1)) := by rw [Hid, drop_cons c m hml, hy]; simp [List.getD, hml]
            have hyr := HCR.out y hym
            have hy1 := hyr.1
            have hy2 := hyr.2
            have HYM := Lib.hid hym
            have ky : I64 y := by unfold I64; omega
            clear hy hym hcc hyr
            cases hq : (y != -x)
            · have HN : Hid (learnAdd x lk2 (c.drop (m + 1)) = learnAdd x lk c) := by
                have h1 : (y == -x) = true := by simpa [bne] using hq
                rw [Hid, ← H3.out, HD.out, learnAdd_keep (by rw [h1]; rfl)]
              go_wp2
              go_roundw
              case rel => exact ⟨m + 1, lk2, by omega, by go_num, HN, HL2, HM3, HB3⟩
              case measure => simp [intOf]; omega
            · have HQ : Hid ((y == -x) = false) := by simpa [Hid, bne] using hq
              have HH := Lib.hid (has_any _ lk2 y wr HM3.out.a.rd)
              cases hh : hasI lk2 y
              · have HN : Hid (learnAdd x (lk2 ++ [y]) (c.drop (m + 1)) = learnAdd x lk c) := by rw [Hid, ← H3.out, HD.out, learnAdd_put (by rw [HQ.out, hh]; rfl)]
                have HL3 : Hid (LkOk f.letters U.known (lk2 ++ [y]) ∧ i < (lk2 ++ [y]).length ∧ (lk2 ++ [y]).getD i 0 = x) :=
                  ⟨HK2.out.snoc HOK.out.cons (HOPj.out y HYM.out (by simpa using hq)) hh, by rw [List.length_append]; omega, by rw [getD_app _ _ _ _ hi2]; exact HX2.out⟩
                rw [hh] at HH
                clear hh
                go_wp2_with (first | (go_at_call 66; refine HH.out.mono ?_; rintro e w' ⟨rfl, rfl⟩) | (at_builtin; refine wpList_app1K rfl _ _ rfl _ lk2 rfl y _ HM3.out.a rfl ky (by omega) hs3 ?_))
                intro v3 w3 ho3 hk3 hsm3 hz3 hb3
                obtain ⟨ya, yc, rfl⟩ := ho3.shape1
                have HM4 := Lib.hid (HM3.out.grow ho3 hk3 (by omega) (Nat.le_succ _) hb3)
                have HB4' := Lib.hid (HB3.out.trans (hsm3.below (Nat.le_refl _) hs3))
                clear ho3 hk3 hsm3 hz3 hb3
                go_wp2
                go_roundw
                case rel => exact ⟨m + 1, _, by omega, by go_num, HN, HL3, HM4, HB4'⟩
                case measure => simp [intOf]; omega
              · have HN : Hid (learnAdd x lk2 (c.drop (m + 1)) = learnAdd x lk c) := by rw [Hid, ← H3.out, HD.out, learnAdd_keep (by rw [hh, Bool.or_true])]
                rw [hh] at HH
                clear hh
                go_wp2_with (go_at_call 66; refine HH.out.mono ?_; rintro e w' ⟨rfl, rfl⟩)
                go_roundw
                case rel => exact ⟨m + 1, lk2, by omega, by go_num, HN, HL2, HM3, HB3⟩
                case measure => simp [intOf]; omega
          · obtain rfl : m = c.length := by omega
            have e : lk2 = learnAdd x lk c := by
              have h1 := H3.out
              rw [drop_len _ _ (Nat.le_refl _)] at h1
              exact h1
            have HI2 : Hid (LearnInv f.letters U.known lk2 (i + 1) out) := by rw [e]; exact HIA.out
            have H4 : Hid (learnGo f.clauses U (11 - (i + 1)) (i + 1) lk2 out = learnOut f.clauses U) := by rw [e]; exact H2.out
            clear e
            go_wp2
            go_roundw
            case rel => exact ⟨i + 1, lk2, out, by go_num, HI2, H4, HM3, HB3⟩
            case measure => simp [intOf]; omega
    · have HO : Hid (learnOut f.clauses U = out) := by rw [Hid, ← HGo.out, learn_end hlt]
      have hol := HI.out.dist.len hL10
      have HBL := Lib.hid (byLetter_any _ out wr HM.out.b.rd (Nat.le_refl _) (fun z hz => by have := HI.out.dist.rng hL10 hz; omega) (by omega))
      have HIN : Hid (insUp ltL out.length out = srtL out) := insUp_all_srt HI.out.dist.2
      go_wp2_with fail
      refine HBL.out.mono ?_
      rintro e wf ⟨uf, rfl, hof, hbf⟩
      rw [HIN.out] at hof
      obtain ⟨fa, fc, rfl⟩ := hof.shape
      have HOF := Lib.hid hof
      have HBF := Lib.hid (HB5.out.trans ((HBr.out.trans (hbf.mono hsr)).mono hw24))
      clear hof hbf
      go_wp2
      go_ret2
      exact ⟨_, by rw [HE.out]; rfl, by rw [HE.out, HO.out]; exact HOF.out.mono (by omega) (Nat.le_refl _) (Nat.le_refl _), HBF.out⟩
end Go.Proofs.Ytcpbgjnijhcpkaa

namespace Go.Proofs.Ytcpbgjnijhcpkaa
open Go.RowKit
set_option linter.unusedVariables false
set_option maxRecDepth 100000

theorem lit_rng {L : Int} {c : List Int} (h : isClause L c = true) : (∀ x ∈ c, -10 ≤ x ∧ x ≤ 10) ∧ c.length ≤ 10 := by
  have hL := (inB_true (clause_in h)).2
  have hc := cons_clause h
  exact ⟨fun x hx => by have := hc.rng hL hx; omega, hc.len hL⟩
set_option maxHeartbeats 2000000 in
set_option maxRecDepth 100000 in
theorem specLeaveLetter_any (w : World) {l h : Nat} (v : Value) (f : FormD) (x : Int) (hv : FormR w l h v f) (hh : h ≤ w.heap.size) (hz : SmallII f.clauses) (kx : I64 x) :
    Calls Try.prog 42 #[v, .int .i64 x] w fun e w' => ∃ r, e = .returned (.tuple #[r, .bool (leaveF f x).2]) ∧ OwnF w' w.heap.size w'.heap.size r (leaveF f x).1 ∧ Below w.heap.size w w' := by
  obtain ⟨u, rfl, hu⟩ := hv.ex
  have kL := hv.rng
  obtain ⟨a0, cap0, V0, e0, hcap1, hcap2, _, _⟩ := hu.out
  subst e0
  obtain ⟨W1, hW1⟩ : ∃ W, W = w.alloc (.cells #[.int .i64 f.letters, .slice a0 f.clauses.length cap0] 26) := ⟨_, rfl⟩
  obtain ⟨W, hW⟩ : ∃ W, W = W1.alloc (.cells #[.int .i64 0, .slice none 0 0] 26) := ⟨_, rfl⟩
  have hs1 : W1.heap.size = w.heap.size + 1 := by rw [hW1]; simp
  have hsW : W.heap.size = w.heap.size + 2 := by rw [hW]; simp [hs1]
  have hB1 : Below w.heap.size w W1 := by rw [hW1]; exact alloc_below _ _
  have hBW : Below w.heap.size w W := by rw [hW]; exact hB1.alloc (by omega) _
  have hbx : TwoC W w.heap.size 26 (.int .i64 f.letters) (.slice a0 f.clauses.length cap0) := by rw [hW]; refine TwoC.alloc ?_ _; rw [hW1]; exact TwoC.new _ _ _ _
  have hbr : TwoC W (w.heap.size + 1) 26 (.int .i64 0) (.slice none 0 0) := by rw [hW, ← hs1]; exact TwoC.new _ _ _ _
  have HU := Lib.hid (hu.below hBW hh)
  have HB := Lib.hid hbx
  have HR := Lib.hid hbr
  have HBW := Lib.hid hBW
  have hcl : f.clauses.length ≤ 1048576 := hz.1
  have HZ := Lib.hid hz
  have hsW2 : w.heap.size + 1 < W.heap.size := by omega
  have hhW : h ≤ W.heap.size := by omega
  clear hbx hu hv hbr hB1 hBW
  go_enter Try.func42, Try.ntmps42
  go_wp2_with fail
  rw [← hW1, ← hW]
  clear hW hW1 hsW hs1
  refine (l05Is_any W _ _ f HB.out.c0 HB.out.c1 (by omega) kL HU.out hhW).mono ?_
  rintro e w2 ⟨rfl, hb2⟩
  have hs2 := hb2.size
  have hbr2 := HR.out.below hb2 HR.out.lt
  have HR2 := Lib.hid hbr2
  have r0 := hbr2.c0
  have r1 := hbr2.c1
  have g0 := hbr2.f0
  have g1 := hbr2.f1
  have hbx2 := HB.out.below hb2 HB.out.lt
  have HB2 := Lib.hid hbx2
  have q0 := hbx2.c0
  have q1 := hbx2.c1
  have HU2 := Lib.hid (HU.out.below hb2 hhW)
  have HBW2 := Lib.hid (HBW.out.trans (hb2.mono (by omega)))
  clear hbr2 hbx2 hb2
  cases hval : validForm f
  · have HE := Lib.hid (leave_no (f := f) (x := x) (by rw [hval]; rfl))
    go_wp2_with fail
    refine bodyPost_ret (v := .tuple #[.agg #[.int .i64 0, .slice none 0 0], .bool false]) (by simp [results, Try.results42, go_sem, r0, r1]) rfl ⟨_, by rw [HE.out], by rw [HE.out]; exact noForm _ _ (Nat.le_refl _) _, ?_⟩
    exact (HBW2.out.setCell (by simp) _).setCell (by simp) _
  cases hin : inB 1 f.letters x
  · have HE := Lib.hid (leave_no (f := f) (x := x) (by rw [hin, Bool.and_false]))
    have HIN := Lib.hid (l00In_any x 1 f.letters w2)
    rw [hin] at HIN
    go_wp2_with fail
    refine HIN.out.mono ?_
    rintro e w' ⟨rfl, rfl⟩
    go_wp2_with fail
    refine bodyPost_ret (v := .tuple #[.agg #[.int .i64 0, .slice none 0 0], .bool false]) (by simp [results, Try.results42, go_sem, r0, r1]) rfl ⟨_, by rw [HE.out], by rw [HE.out]; exact noForm _ _ (Nat.le_refl _) _, ?_⟩
    exact (HBW2.out.setCell (by simp) _).setCell (by simp) _
  have HE := Lib.hid (leave_yes (f := f) (x := x) (by rw [hin, hval]; rfl))
  have bx := inB_true hin
  have bv := validForm_bounds hval
  have hL10 : f.letters ≤ 10 := bv.1.2
  have h48 : f.clauses.length ≤ 48 := bv.2.1
  have HCL := Lib.hid bv.2.2
  have hx1 : 1 ≤ x := bx.1
  have hx2 : x ≤ 10 := by omega
  have HIN := Lib.hid (l00In_any x 1 f.letters w2)
  rw [hin] at HIN
  obtain ⟨W3, hW3⟩ : ∃ W, W = w2.alloc (.cells #[.int .i64 f.letters, .slice none 0 0] 26) := ⟨_, rfl⟩
  have hs3 : W3.heap.size = w2.heap.size + 1 := by rw [hW3]; simp
  have hb3 : Below w2.heap.size w2 W3 := by rw [hW3]; exact alloc_below _ _
  have hp3 : TwoC W3 w2.heap.size 26 (.int .i64 f.letters) (.slice none 0 0) := by rw [hW3]; exact TwoC.new _ _ _ _
  have q1a := (HB2.out.alloc (.cells #[.int .i64 f.letters, .slice none 0 0] 26)).c1
  have HP3 := Lib.hid hp3
  have HB3 := Lib.hid hb3
  have hs23 : w2.heap.size < W3.heap.size := by omega
  clear hval hin bx bv hp3 hb3 hs3
  go_wp2_with fail
  refine HIN.out.mono ?_
  rintro e w' ⟨rfl, rfl⟩
  go_wp2_with fail
  rw [← hW3]
  clear q0 q1 q1a r0 r1 g0 g1 hW3
  go_loopw [29] (fun i wr => ∃ (k : Nat) (ov : Value), k ≤ f.clauses.length ∧ i = .int .i64 k ∧ Hid (TwoC wr w2.heap.size 26 (.int .i64 f.letters) ov) ∧ Hid (OwnII wr (w2.heap.size + 1) wr.heap.size ov (leaveKeep x f.clauses k)) ∧ Hid (Below w2.heap.size w2 wr)) (fun i _ => f.clauses.length - (intOf i).toNat)
  case atStart => exact ⟨0, _, Nat.zero_le _, rfl, HP3, OwnII.nil _ _ _ (Nat.le_refl _), HB3⟩
  case round =>
    clear HP3 HB3
    obtain ⟨k, ov, hk, rfl, HP, HO, HBr⟩ := hrel
    have hsr := HBr.out.size
    obtain ⟨oa, oc, rfl⟩ := HO.out.shape
    have hplt := HP.out.lt
    have hbx := HB2.out.below HBr.out HB2.out.lt
    have q0 := hbx.c0
    have q1 := hbx.c1
    clear hbx
    by_cases hlt : k < f.clauses.length
    · obtain ⟨fb, foff, hfe⟩ := HU2.out.addr (by omega)
      subst hfe
      obtain ⟨ka, kc, hck, hcl2, hfb⟩ := (HU2.out.below HBr.out (by omega)).cellAt hlt
      have hmem : f.clauses[k] ∈ f.clauses := List.getElem_mem hlt
      have hfew := keep_few (x := x) k h48 HCL.out
      have hfe1 := hfew.1
      have hcr := lit_rng (HCL.out _ hmem)
      have hlen := hcr.2
      cases hkp : (!hasI f.clauses[k] x && !hasI f.clauses[k] (-x))
      · have HN : Hid (leaveKeep x f.clauses (k + 1) = leaveKeep x f.clauses k) := keep_no hlt hkp
        obtain ⟨c, hc⟩ : ∃ c, c = f.clauses[k] := ⟨_, rfl⟩
        rw [← hc] at hkp hck hcl2
        have H1 := Lib.hid (l00Has_any _ c x wr hcl2)
        have H2 := Lib.hid (l00Has_any _ c (-x) wr hcl2)
        cases h1 : hasI c x
        · have h2 : hasI c (-x) = true := by rw [h1] at hkp; simpa using hkp
          rw [h1] at H1
          rw [h2] at H2
          clear hkp h1 h2 hfew hcr hmem hcl2 hc
          go_wp2_with fail
          refine H1.out.mono ?_
          rintro e w' ⟨rfl, rfl⟩
          go_wp2_with fail
          refine H2.out.mono ?_
          rintro e w' ⟨rfl, rfl⟩
          go_wp2
          go_roundw
          case rel => exact ⟨k + 1, _, by omega, by go_num, HP, by rw [HN.out]; exact HO, HBr⟩
          case measure => simp [intOf]; omega
        · rw [h1] at H1
          clear hkp h1 hfew hcr hmem hcl2 hc
          go_wp2_with fail
          refine H1.out.mono ?_
          rintro e w' ⟨rfl, rfl⟩
          go_wp2
          go_roundw
          case rel => exact ⟨k + 1, _, by omega, by go_num, HP, by rw [HN.out]; exact HO, HBr⟩
          case measure => simp [intOf]; omega
      · have HN : Hid (leaveKeep x f.clauses (k + 1) = leaveKeep x f.clauses k ++ [f.clauses[k]]) := keep_yes hlt hkp
        have hfs : Few 49 (leaveKeep x f.clauses k ++ [f.clauses[k]]) := hfew.app (m := 1) ⟨by simp, fun c hc => by rw [List.mem_singleton] at hc; rw [hc]; omega⟩
        have hsum : ((leaveKeep x f.clauses k ++ [f.clauses[k]]).map List.length).sum ≤ 1099511627776 := by have := hfs.sum (by omega); omega
        obtain ⟨c, hc⟩ : ∃ c, c = f.clauses[k] := ⟨_, rfl⟩
        rw [← hc] at hkp hck hcl2 hsum HN hlen
        have H1 := Lib.hid (l00Has_any _ c x wr hcl2)
        have H2 := Lib.hid (l00Has_any _ c (-x) wr hcl2)
        have h1 : hasI c x = false := by simp at hkp; exact hkp.1
        have h2 : hasI c (-x) = false := by simp at hkp; exact hkp.2
        rw [h1] at H1
        rw [h2] at H2
        have hAD : Drew (wr.alloc (.cells #[] 2)) (wr.alloc (.cells #[] 2)).drew := ⟨1, rfl⟩
        have hE0 : OwnI (wr.alloc (.cells #[] 2)).drew wr.heap.size (wr.heap.size + 1) (.slice (some ⟨wr.heap.size, 0, none⟩) 0 0) [] := (emptySlice wr).drew hAD
        have hB0 : Below wr.heap.size wr (wr.alloc (.cells #[] 2)) := alloc_below wr _
        have hBA : Below wr.heap.size wr (wr.alloc (.cells #[] 2)).drew := hB0.trans (hAD.below _)
        have hxa := hcl2.below hBA (by omega)
        have hpa := HP.out.below hBA hplt
        have hoa := HO.out.below hBA (by omega)
        have c66 := HP.out.c1
        have c66a := (HP.out.below hB0 hplt).c1
        have hsa : (wr.alloc (.cells #[] 2)).drew.heap.size = wr.heap.size + 1 := by rw [hAD.heap]; simp
        have kb1 : Below w2.heap.size wr (wr.alloc (.cells #[] 2)).drew := hBA.mono (by omega)
        have HXA := Lib.hid hxa
        have HE0 := Lib.hid hE0
        have HPA := Lib.hid hpa
        have HOA := Lib.hid hoa
        have HKB1 := Lib.hid kb1
        clear hE0 hBA hB0 hAD hxa hpa hoa hkp h1 h2 hfew hcr hmem hcl2 hc kb1 hfs
        go_wp2_with fail
        refine H1.out.mono ?_
        rintro e w' ⟨rfl, rfl⟩
        go_wp2_with fail
        refine H2.out.mono ?_
        rintro e w' ⟨rfl, rfl⟩
        go_wp2_with fail
        go_region_law (first | ((refine step_appIs (by rfl) _ _ (by rfl) _ [] (by rfl) HE0.out _ c (by rfl) HXA.out (by simp; omega) (by rw [hsa]; omega) ?_; intro v3 w3 ho3 hsm3 hz3 _; rw [List.nil_append] at ho3; obtain ⟨qa, qc, rfl⟩ := ho3.shape; have kb3 := HKB1.out.trans (hsm3.below (B := w2.heap.size) (by omega) (by rw [hsa]; omega)); have hp3 := HPA.out.same hsm3 (.inl hplt); have ho3' := HOA.out.same hsm3 (.inl (by omega)); have c66b := hp3.c1; have c66c := (hp3.alloc (.cells #[.slice qa c.length qc] 34)).c1)) | ((refine step_appII (by rfl) _ _ (by rfl) _ (leaveKeep x f.clauses k) (by rfl) _ c _ ho3' ho3 (by omega) (by omega) (by rfl) (by omega) hsum (by omega) ?_; intro v4 w4 ho4 hsm4 hz4; obtain ⟨ya, yc, rfl⟩ := ho4.shape1; have hp4 := hp3.same hsm4 (.inl (Nat.lt_succ_self _)); have c4 := hp4.c1; have f4 := hp4.f1; have kb4 := kb3.trans (hsm4.below (B := w2.heap.size) (by omega) (by omega)))))
        all_goals
          have HP4 := Lib.hid (hp4.set1 (.slice ya ((leaveKeep x f.clauses k).length + 1) yc))
          have HO4 : Hid (OwnII (w4.setCell ⟨w2.heap.size, 1, none⟩ (.slice ya ((leaveKeep x f.clauses k).length + 1) yc)) (w2.heap.size + 1) (w4.setCell ⟨w2.heap.size, 1, none⟩ (.slice ya ((leaveKeep x f.clauses k).length + 1) yc)).heap.size (.slice ya ((leaveKeep x f.clauses k).length + 1) yc) (leaveKeep x f.clauses k ++ [c])) := (ho4.same (set1_same _ _ _ _) (.inr (Nat.le_refl _))).mono (Nat.le_refl _) (set1_same _ _ _ _).size (Nat.le_refl _)
          have HB4 := Lib.hid (HBr.out.trans (kb4.setCell (p := ⟨w2.heap.size, 1, none⟩) (Nat.le_refl _) (.slice ya ((leaveKeep x f.clauses k).length + 1) yc)))
          clear ho4 kb4 hsm4 hp3 ho3' ho3 kb3 hsm3
          go_wp2
          go_roundw
          case rel => exact ⟨k + 1, _, by omega, by go_num, HP4, by rw [HN.out]; exact HO4, HB4⟩
          case measure => simp [intOf]; omega
    · obtain rfl : k = f.clauses.length := by omega
      have hOM : Hid (OwnII wr (w2.heap.size + 1) wr.heap.size (.slice oa (leaveKeep x f.clauses f.clauses.length).length oc) (leaveMid x f.clauses 0)) := by rw [Hid, leaveMid_zero]; exact HO.out
      clear hplt HO
      go_wp2_with fail
      clear q0 q1
      go_loopw [60] (fun i wr => ∃ (i' : Nat) (ov : Value), i' ≤ f.clauses.length ∧ i = .int .i64 i' ∧ Hid (TwoC wr w2.heap.size 26 (.int .i64 f.letters) ov) ∧ Hid (OwnII wr (w2.heap.size + 1) wr.heap.size ov (leaveMid x f.clauses i')) ∧ Hid (Below w2.heap.size w2 wr)) (fun i _ => f.clauses.length - (intOf i).toNat)
      case atStart => exact ⟨0, _, Nat.zero_le _, rfl, HP, hOM, HBr⟩
      case round =>
        clear HP hOM HBr hsr
        obtain ⟨i, ov, hi, rfl, HP, HO, HBr⟩ := hrel
        have hsr := HBr.out.size
        obtain ⟨oa2, oc2, rfl⟩ := HO.out.shape
        have hplt := HP.out.lt
        have hbx := HB2.out.below HBr.out HB2.out.lt
        have q0 := hbx.c0
        have q1 := hbx.c1
        clear hbx
        by_cases hlt : i < f.clauses.length
        · obtain ⟨fb, foff, hfe⟩ := HU2.out.addr (by omega)
          subst hfe
          obtain ⟨aa, ac, hak, hal, hfb⟩ := (HU2.out.below HBr.out (by omega)).cellAt hlt
          obtain ⟨aa', ac', hak', hal', _⟩ := HU2.out.cellAt hlt
          have hea : aa' = aa ∧ ac' = ac := by
            rw [HBr.out.cell (p := ⟨fb, foff + i, none⟩) (show fb < w2.heap.size by omega), hak'] at hak
            injection hak with hak
            injection hak with e1 _ e2
            exact ⟨e1, e2⟩
          obtain ⟨rfl, rfl⟩ := hea
          have hmem : f.clauses[i] ∈ f.clauses := List.getElem_mem hlt
          have HCA := Lib.hid (HCL.out _ hmem)
          have HME := Lib.hid (fun h => mid_no (x := x) hlt h)
          have HWE := Lib.hid (leaveWay_end (x := x) hlt)
          have har := lit_rng (HCL.out _ hmem)
          obtain ⟨a, ha⟩ : ∃ a, a = f.clauses[i] := ⟨_, rfl⟩
          rw [← ha] at hak hal hal' hak' HCA HME HWE har
          have HAR := Lib.hid har
          have HAL := Lib.hid hal'
          have HAK := Lib.hid hak'
          have HH := Lib.hid (l00Has_any _ a x wr hal)
          cases hax : hasI a x
          · have HN := Lib.hid (HME.out hax)
            rw [hax] at HH
            clear hax ha hal hal' hak' har hmem
            go_wp2_with fail
            refine HH.out.mono ?_
            rintro e w' ⟨rfl, rfl⟩
            go_wp2
            go_roundw
            case rel => exact ⟨i + 1, _, by omega, by go_num, HP, by rw [HN.out]; exact HO, HBr⟩
            case measure => simp [intOf]; omega
          have HAX := Lib.hid hax
          rw [hax] at HH
          have hOW : Hid (OwnII wr (w2.heap.size + 1) wr.heap.size (.slice oa2 (leaveMid x f.clauses i).length oc2) (leaveWay x f.clauses i a 0)) := by rw [Hid, leaveWay_zero]; exact HO.out
          clear hax ha hal hal' hak' har hmem HO
          go_wp2_with fail
          refine HH.out.mono ?_
          rintro e w' ⟨rfl, rfl⟩
          go_wp2_with fail
          clear q0 q1 hak
          go_loopw [74] (fun k wr => ∃ (k' : Nat) (ov : Value), k' ≤ f.clauses.length ∧ k = .int .i64 k' ∧ Hid (TwoC wr w2.heap.size 26 (.int .i64 f.letters) ov) ∧ Hid (OwnII wr (w2.heap.size + 1) wr.heap.size ov (leaveWay x f.clauses i a k')) ∧ Hid (Below w2.heap.size w2 wr)) (fun k _ => f.clauses.length - (intOf k).toNat)
          case atStart => exact ⟨0, _, Nat.zero_le _, rfl, HP, hOW, HBr⟩
          case round =>
            clear HP hOW HBr hsr HH hplt
            obtain ⟨k, ov, hk, rfl, HP, HO, HBr⟩ := hrel
            have hsr := HBr.out.size
            obtain ⟨oa3, oc3, rfl⟩ := HO.out.shape
            have hplt := HP.out.lt
            have hbx := HB2.out.below HBr.out HB2.out.lt
            have q0 := hbx.c0
            have q1 := hbx.c1
            have HBX := Lib.hid hbx
            clear hbx
            by_cases hkl : k < f.clauses.length
            · obtain ⟨ba, bc, hbk, hbl, _⟩ := (HU2.out.below HBr.out (by omega)).cellAt hkl
              have hmem : f.clauses[k] ∈ f.clauses := List.getElem_mem hkl
              have HCB := Lib.hid (HCL.out _ hmem)
              have hbr := lit_rng (HCL.out _ hmem)
              have HNB : Hid (hasI f.clauses[k] (-x) = false → leaveWay x f.clauses i a (k + 1) = leaveWay x f.clauses i a k) := fun h => leaveWay_noB hkl h
              have HNN : Hid ((resolveN a f.clauses[k] x).2 = false → leaveWay x f.clauses i a (k + 1) = leaveWay x f.clauses i a k) := fun h => leaveWay_none hkl h
              have HNP : Hid (∀ R, hasI f.clauses[k] (-x) = true → resolveN a f.clauses[k] x = (R, true) → leaveWay x f.clauses i a (k + 1) = leaveWay x f.clauses i a k ++ [R]) := fun R h1 h2 => leaveWay_put hkl HAX.out h1 h2
              have hfew := leaveWay_few (x := x) hx1 h48 HCL.out HCA.out (Nat.le_of_lt hlt) hk
              have hfew2 := leaveWay_few (x := x) (k := k + 1) hx1 h48 HCL.out HCA.out (Nat.le_of_lt hlt) hkl
              have hfe1 := hfew.1
              obtain ⟨b, hb⟩ : ∃ b, b = f.clauses[k] := ⟨_, rfl⟩
              rw [← hb] at hbk hbl HCB hbr HNB HNN HNP
              have HBL := Lib.hid hbl
              have HBR := Lib.hid hbr
              have HH := Lib.hid (l00Has_any _ b (-x) wr hbl)
              have hak : wr.cell? ⟨fb, foff + i, none⟩ = some (.slice aa' a.length ac') := by rw [HBr.out.cell (p := ⟨fb, foff + i, none⟩) (show fb < w2.heap.size by omega)]; exact HAK.out
              cases hbx : hasI b (-x)
              · have HN := Lib.hid (HNB.out hbx)
                rw [hbx] at HH
                clear hbx hb hbl hbr hmem hfew hfew2
                go_wp2_with fail
                refine HH.out.mono ?_
                rintro e w' ⟨rfl, rfl⟩
                go_wp2
                go_roundw
                case rel => exact ⟨k + 1, _, by omega, by go_num, HP, by rw [HN.out]; exact HO, HBr⟩
                case measure => simp [intOf]; omega
              obtain ⟨R, t, hRT⟩ : ∃ R t, resolveN a b x = (R, t) := ⟨_, _, rfl⟩
              have hDr : Drew wr wr.drew := ⟨1, rfl⟩
              have HRS : Hid (Calls Try.prog 101 #[.slice aa' a.length ac', .slice ba b.length bc, .int .i64 x] wr.drew fun e w' => ∃ u, e = .returned (.tuple #[u, .bool t]) ∧ OwnI w' wr.heap.size w'.heap.size u R ∧ Below wr.heap.size wr.drew w') := by
                have h1 := l05Resolve_any wr.drew _ _ a b x ((HAL.out.below HBr.out (by omega)).drew hDr) (by show h ≤ wr.heap.size; omega) (HBL.out.drew hDr) (by show h ≤ wr.heap.size; omega) HAR.out.1 HBR.out.1 (by have := HAR.out.2; omega) (by have := HBR.out.2; omega) hx1 hx2
                rw [hRT] at h1
                exact h1
              have HBD : Hid (Below wr.heap.size wr wr.drew) := hDr.below _
              have HBX2 := Lib.hid hbx
              rw [hbx] at HH
              clear hbx hb hbl hbr hmem hDr
              cases t
              · have HN := Lib.hid (HNN.out (by rw [hRT]))
                clear hRT hfew hfew2
                go_wp2_with fail
                refine HH.out.mono ?_
                rintro e w' ⟨rfl, rfl⟩
                go_wp2_with fail
                go_region_law ((go_simp; go_at_call 101; refine HRS.out.mono ?_; rintro e w4 ⟨u4, rfl, ho4, hb4⟩; have HB4 := Lib.hid (HBD.out.trans hb4); have q14 := (HBX.out.below HB4.out (by omega)).c1; have hak4 : w4.cell? ⟨fb, foff + i, none⟩ = some (.slice aa' a.length ac') := (by rw [HB4.out.cell (p := ⟨fb, foff + i, none⟩) (show fb < wr.heap.size by omega)]; exact hak); have hbk4 : w4.cell? ⟨fb, foff + k, none⟩ = some (.slice ba b.length bc) := (by rw [HB4.out.cell (p := ⟨fb, foff + k, none⟩) (show fb < wr.heap.size by omega)]; exact hbk); clear ho4 hb4))
                all_goals
                  have HP4 := Lib.hid (HP.out.below HB4.out hplt)
                  have HO4 : Hid (OwnII w4 (w2.heap.size + 1) w4.heap.size (.slice oa3 (leaveWay x f.clauses i a k).length oc3) (leaveWay x f.clauses i a (k + 1))) := by rw [Hid, HN.out]; exact (HO.out.below HB4.out (Nat.le_refl _)).mono (Nat.le_refl _) HB4.out.size (Nat.le_refl _)
                  have HB44 := Lib.hid (HBr.out.trans (HB4.out.mono hsr))
                  go_wp2
                  go_roundw
                  case rel => exact ⟨k + 1, _, by omega, by go_num, HP4, HO4, HB44⟩
                  case measure => simp [intOf]; omega
              · have HN := Lib.hid (HNP.out R HBX2.out hRT)
                have HLN : Hid ((leaveWay x f.clauses i a k).length + 1 ≤ 1048576) := by rw [Hid]; omega
                have HSM : Hid (((leaveWay x f.clauses i a k ++ [R]).map List.length).sum ≤ 1099511627776) := by rw [Hid, ← HN.out]; have := hfew2.sum (by omega); omega
                clear hRT hfew hfew2
                go_wp2_with fail
                refine HH.out.mono ?_
                rintro e w' ⟨rfl, rfl⟩
                go_wp2_with fail
                go_region_law ((go_simp; go_at_call 101; refine HRS.out.mono ?_; rintro e w4 ⟨u4, rfl, ho4, hb4⟩; obtain ⟨ua, uc, rfl⟩ := ho4.shape; have HB4 := Lib.hid (HBD.out.trans hb4); have q14 := (HBX.out.below HB4.out (by omega)).c1; have hak4 : w4.cell? ⟨fb, foff + i, none⟩ = some (.slice aa' a.length ac') := (by rw [HB4.out.cell (p := ⟨fb, foff + i, none⟩) (show fb < wr.heap.size by omega)]; exact hak); have hbk4 : w4.cell? ⟨fb, foff + k, none⟩ = some (.slice ba b.length bc) := (by rw [HB4.out.cell (p := ⟨fb, foff + k, none⟩) (show fb < wr.heap.size by omega)]; exact hbk); have HO4 := Lib.hid ho4; clear ho4 hb4))
                all_goals
                  have hp4 := HP.out.below HB4.out hplt
                  have HP4 := Lib.hid hp4
                  have HR4 := Lib.hid (HO.out.below HB4.out (Nat.le_refl _))
                  have c66 := hp4.c1
                  have hs4 := HB4.out.size
                  have hlo4 : w2.heap.size + 1 ≤ w4.heap.size := by omega
                  clear hp4 q14 hak4 hbk4
                  go_wp2_with (at_builtin; refine wpList_appII rfl _ _ rfl _ (leaveWay x f.clauses i a k) rfl _ R _ HR4.out HO4.out (Nat.le_refl _) (show w2.heap.size + 1 ≤ wr.heap.size by omega) rfl HLN.out HSM.out hlo4 ?_)
                  intro v5 w5 ho5 hsm5 hz5
                  obtain ⟨ya, yc, rfl⟩ := ho5.shape1
                  have hp5 := HP4.out.same hsm5 (.inl (Nat.lt_succ_self _))
                  have c4 := hp5.c1
                  have f4 := hp5.f1
                  have HP5 := Lib.hid (hp5.set1 (.slice ya ((leaveWay x f.clauses i a k).length + 1) yc))
                  have HO5 : Hid (OwnII (w5.setCell ⟨w2.heap.size, 1, none⟩ (.slice ya ((leaveWay x f.clauses i a k).length + 1) yc)) (w2.heap.size + 1) (w5.setCell ⟨w2.heap.size, 1, none⟩ (.slice ya ((leaveWay x f.clauses i a k).length + 1) yc)).heap.size (.slice ya ((leaveWay x f.clauses i a k).length + 1) yc) (leaveWay x f.clauses i a (k + 1))) := by
                    rw [Hid, HN.out]; exact (ho5.same (set1_same _ _ _ _) (.inr (Nat.le_refl _))).mono (Nat.le_refl _) (set1_same _ _ _ _).size (Nat.le_refl _)
                  have HB5 := Lib.hid (((HBr.out.trans (HB4.out.mono hsr)).trans (hsm5.below (B := w2.heap.size) (by omega) (by omega))).setCell (p := ⟨w2.heap.size, 1, none⟩) (Nat.le_refl _) (.slice ya ((leaveWay x f.clauses i a k).length + 1) yc))
                  clear ho5 hsm5 hz5 hp5 c66
                  go_wp2
                  go_roundw
                  case rel => exact ⟨k + 1, _, by omega, by go_num, HP5, HO5, HB5⟩
                  case measure => simp [intOf]; omega
            · obtain rfl : k = f.clauses.length := by omega
              have HO' : Hid (OwnII wr (w2.heap.size + 1) wr.heap.size (.slice oa3 (leaveWay x f.clauses i a f.clauses.length).length oc3) (leaveMid x f.clauses (i + 1))) := by rw [Hid, ← HWE.out]; exact HO.out
              go_wp2
              go_roundw
              case rel => exact ⟨i + 1, _, by omega, by go_num, HP, HO', HBr⟩
              case measure => simp [intOf]; omega
        · obtain rfl : i = f.clauses.length := by omega
          rw [leaveMid_all] at HO
          have hfew := all_few (x := x) hx1 h48 HCL.out
          have c0 := HP.out.c0
          have c1 := HP.out.c1
          have e0 : (leaveMid x f.clauses f.clauses.length).length = (leaveAll x f.clauses).length := rfl
          rw [e0] at c1
          obtain ⟨rows, hrows⟩ : ∃ r, r = leaveAll x f.clauses := ⟨_, rfl⟩
          rw [← hrows] at HO HE hfew c1
          have HGV := Lib.hid (l05Give_any wr (.agg #[.int .i64 f.letters, .slice oa2 rows.length oc2]) ⟨f.letters, rows⟩ ⟨⟨_, rfl, HO.out.rd⟩, kL⟩ (Nat.le_refl _))
          have HEC : Hid (checkedF ⟨f.letters, rows⟩ = if validForm ⟨f.letters, rows⟩ then (⟨f.letters, rows⟩, true) else (⟨0, []⟩, false)) := rfl
          clear hrows hfew e0
          go_wp2_with fail
          refine HGV.out.mono ?_
          rintro e w7 ⟨r7, rfl, ht7, hf7, hb7⟩
          have hs7 := hb7.size
          have hr7 := HR2.out.below (HBr.out.trans (hb7.mono hsr)) HR2.out.lt
          have r0 := hr7.c0
          have r1 := hr7.c1
          have g0 := hr7.f0
          have g1 := hr7.f1
          have HBF : Hid (Below w.heap.size w w7) := HBW2.out.trans ((HBr.out.trans (hb7.mono hsr)).mono (by omega))
          have HOF := Lib.hid (HO.out.below hb7 (Nat.le_refl _))
          have hsr2 : w.heap.size + 1 < w2.heap.size := HR2.out.lt
          clear hb7 hr7 HGV c0 c1 q0 q1
          cases hvo : validForm ⟨f.letters, rows⟩
          · obtain rfl := hf7 hvo
            have HE2 : Hid (leaveF f x = (⟨0, []⟩, false)) := by rw [Hid, HE.out, HEC.out, hvo]; rfl
            clear ht7 hf7
            go_wp2_with fail
            refine bodyPost_ret (v := .tuple #[.agg #[.int .i64 0, .slice none 0 0], .bool false]) (by simp [results, Try.results42, go_sem, r0, r1]) rfl ⟨_, by rw [HE2.out], by rw [HE2.out]; exact noForm _ _ (Nat.le_refl _) _, ?_⟩
            exact (HBF.out.setCell (by simp) _).setCell (by simp) _
          · obtain rfl := ht7 hvo
            have HE2 : Hid (leaveF f x = (⟨f.letters, rows⟩, true)) := by rw [Hid, HE.out, HEC.out, hvo]; rfl
            clear ht7 hf7
            go_wp2_with fail
            have hS := ((Same.refl w.heap.size (w.heap.size + 2) w7).setCell (p := ⟨w.heap.size + 1, 0, none⟩) (by simp) (by simp) (.int .i64 f.letters)).setCell (p := ⟨w.heap.size + 1, 1, none⟩) (by simp) (by simp) (.slice oa2 rows.length oc2)
            refine bodyPost_ret (v := .tuple #[.agg #[.int .i64 f.letters, .slice oa2 rows.length oc2], .bool true]) (by simp [results, Try.results42, go_sem, r0, r1]) rfl ⟨_, by rw [HE2.out], ?_, HBF.out.trans (hS.below (Nat.le_refl _) HBF.out.size)⟩
            rw [HE2.out]
            exact ⟨⟨_, rfl, (HOF.out.same hS (.inr (by omega))).mono (by omega) (Nat.le_trans hs7 hS.size) (Nat.le_refl _)⟩, kL⟩
end Go.Proofs.Ytcpbgjnijhcpkaa

namespace Go.Proofs.Ytcpbgjnijhcpkaa
open Go.RowKit
set_option linter.unusedVariables false
set_option maxRecDepth 100000

set_option maxHeartbeats 2000000 in
set_option maxRecDepth 100000 in
theorem implLeaveLetter_any (w : World) {l h : Nat} (v : Value) (f : FormD) (x : Int) (hv : FormR w l h v f) (hh : h ≤ w.heap.size) (hz : SmallII f.clauses) (kx : I64 x) :
    Calls Try.prog 43 #[v, .int .i64 x] w fun e w' => ∃ r, e = .returned (.tuple #[r, .bool (leaveF f x).2]) ∧ OwnF w' w.heap.size w'.heap.size r (leaveF f x).1 ∧ Below w.heap.size w w' := by
  obtain ⟨u, rfl, hu⟩ := hv.ex
  have kL := hv.rng
  obtain ⟨a0, cap0, V0, e0, hcap1, hcap2, _, _⟩ := hu.out
  subst e0
  obtain ⟨W1, hW1⟩ : ∃ W, W = w.alloc (.cells #[.int .i64 f.letters, .slice a0 f.clauses.length cap0] 26) := ⟨_, rfl⟩
  obtain ⟨W, hW⟩ : ∃ W, W = W1.alloc (.cells #[.int .i64 0, .slice none 0 0] 26) := ⟨_, rfl⟩
  have hs1 : W1.heap.size = w.heap.size + 1 := by rw [hW1]; simp
  have hsW : W.heap.size = w.heap.size + 2 := by rw [hW]; simp [hs1]
  have hB1 : Below w.heap.size w W1 := by rw [hW1]; exact alloc_below _ _
  have hBW : Below w.heap.size w W := by rw [hW]; exact hB1.alloc (by omega) _
  have hbx : TwoC W w.heap.size 26 (.int .i64 f.letters) (.slice a0 f.clauses.length cap0) := by rw [hW]; refine TwoC.alloc ?_ _; rw [hW1]; exact TwoC.new _ _ _ _
  have hbr : TwoC W (w.heap.size + 1) 26 (.int .i64 0) (.slice none 0 0) := by rw [hW, ← hs1]; exact TwoC.new _ _ _ _
  have HU := Lib.hid (hu.below hBW hh)
  have HF := Lib.hid (hv.below hBW hh)
  have HB := Lib.hid hbx
  have q0 := hbx.c0
  have q1 := hbx.c1
  have HR := Lib.hid hbr
  have HBW := Lib.hid hBW
  have hcl : f.clauses.length ≤ 1048576 := hz.1
  have HZ := Lib.hid hz
  have hsW2 : w.heap.size + 1 < W.heap.size := by omega
  have hhW : h ≤ W.heap.size := by omega
  clear hbx hu hv hbr hB1 hBW
  go_enter Try.func43, Try.ntmps43
  go_wp2_with fail
  rw [← hW1, ← hW]
  clear hW hW1 hsW hs1
  go_wp2_with fail
  refine (implValidForm_any W _ _ HF.out hhW HZ.out).mono ?_
  rintro e w2 ⟨rfl, hb2⟩
  clear q0 q1
  have hs2 := hb2.size
  have hbr2 := HR.out.below hb2 HR.out.lt
  have HR2 := Lib.hid hbr2
  have r0 := hbr2.c0
  have r1 := hbr2.c1
  have g0 := hbr2.f0
  have g1 := hbr2.f1
  have hbx2 := HB.out.below hb2 HB.out.lt
  have HB2 := Lib.hid hbx2
  have q0 := hbx2.c0
  have q1 := hbx2.c1
  have HU2 := Lib.hid (HU.out.below hb2 hhW)
  have HBW2 := Lib.hid (HBW.out.trans (hb2.mono (by omega)))
  clear hbr2 hbx2 hb2
  cases hval : validForm f
  · have HE := Lib.hid (leave_no (f := f) (x := x) (by rw [hval]; rfl))
    go_wp2_with fail
    refine bodyPost_ret (v := .tuple #[.agg #[.int .i64 0, .slice none 0 0], .bool false]) (by simp [results, Try.results43, go_sem, r0, r1]) rfl ⟨_, by rw [HE.out], by rw [HE.out]; exact noForm _ _ (Nat.le_refl _) _, ?_⟩
    exact (HBW2.out.setCell (by simp) _).setCell (by simp) _
  cases hin : inB 1 f.letters x
  · have HE := Lib.hid (leave_no (f := f) (x := x) (by rw [hin, Bool.and_false]))
    have HIN := Lib.hid (within_any x 1 f.letters w2)
    rw [hin] at HIN
    go_wp2_with fail
    refine HIN.out.mono ?_
    rintro e w' ⟨rfl, rfl⟩
    go_wp2_with fail
    refine bodyPost_ret (v := .tuple #[.agg #[.int .i64 0, .slice none 0 0], .bool false]) (by simp [results, Try.results43, go_sem, r0, r1]) rfl ⟨_, by rw [HE.out], by rw [HE.out]; exact noForm _ _ (Nat.le_refl _) _, ?_⟩
    exact (HBW2.out.setCell (by simp) _).setCell (by simp) _
  have HE := Lib.hid (leave_yes (f := f) (x := x) (by rw [hin, hval]; rfl))
  have bx := inB_true hin
  have bv := validForm_bounds hval
  have hL10 : f.letters ≤ 10 := bv.1.2
  have h48 : f.clauses.length ≤ 48 := bv.2.1
  have HCL := Lib.hid bv.2.2
  have hx1 : 1 ≤ x := bx.1
  have hx2 : x ≤ 10 := by omega
  have HIN := Lib.hid (within_any x 1 f.letters w2)
  rw [hin] at HIN
  obtain ⟨W3, hW3⟩ : ∃ W, W = w2.alloc (.cells #[.int .i64 f.letters, .slice none 0 0] 26) := ⟨_, rfl⟩
  have hs3 : W3.heap.size = w2.heap.size + 1 := by rw [hW3]; simp
  have hb3 : Below w2.heap.size w2 W3 := by rw [hW3]; exact alloc_below _ _
  have hp3 : TwoC W3 w2.heap.size 26 (.int .i64 f.letters) (.slice none 0 0) := by rw [hW3]; exact TwoC.new _ _ _ _
  have q1a := (HB2.out.alloc (.cells #[.int .i64 f.letters, .slice none 0 0] 26)).c1
  have HP3 := Lib.hid hp3
  have HB3 := Lib.hid hb3
  have hs23 : w2.heap.size < W3.heap.size := by omega
  clear hval hin bx bv hp3 hb3 hs3
  go_wp2_with fail
  refine HIN.out.mono ?_
  rintro e w' ⟨rfl, rfl⟩
  go_wp2_with fail
  rw [← hW3]
  clear q0 q1 q1a r0 r1 g0 g1 hW3
  go_loopw [32] (fun i wr => ∃ (k : Nat) (ov : Value), k ≤ f.clauses.length ∧ i = .int .i64 k ∧ Hid (TwoC wr w2.heap.size 26 (.int .i64 f.letters) ov) ∧ Hid (OwnII wr (w2.heap.size + 1) wr.heap.size ov (leaveKeep x f.clauses k)) ∧ Hid (Below w2.heap.size w2 wr)) (fun i _ => f.clauses.length - (intOf i).toNat)
  case atStart => exact ⟨0, _, Nat.zero_le _, rfl, HP3, OwnII.nil _ _ _ (Nat.le_refl _), HB3⟩
  case round =>
    clear HP3 HB3
    obtain ⟨k, ov, hk, rfl, HP, HO, HBr⟩ := hrel
    have hsr := HBr.out.size
    obtain ⟨oa, oc, rfl⟩ := HO.out.shape
    have hplt := HP.out.lt
    have hbx := HB2.out.below HBr.out HB2.out.lt
    have q0 := hbx.c0
    have q1 := hbx.c1
    clear hbx
    by_cases hlt : k < f.clauses.length
    · obtain ⟨fb, foff, hfe⟩ := HU2.out.addr (by omega)
      subst hfe
      obtain ⟨ka, kc, hck, hcl2, hfb⟩ := (HU2.out.below HBr.out (by omega)).cellAt hlt
      have hmem : f.clauses[k] ∈ f.clauses := List.getElem_mem hlt
      have hfew := keep_few (x := x) k h48 HCL.out
      have hfe1 := hfew.1
      have hcr := lit_rng (HCL.out _ hmem)
      have hlen := hcr.2
      cases hkp : (!hasI f.clauses[k] x && !hasI f.clauses[k] (-x))
      · have HN : Hid (leaveKeep x f.clauses (k + 1) = leaveKeep x f.clauses k) := keep_no hlt hkp
        obtain ⟨c, hc⟩ : ∃ c, c = f.clauses[k] := ⟨_, rfl⟩
        rw [← hc] at hkp hck hcl2
        have H1 := Lib.hid (has_any _ c x wr hcl2)
        have H2 := Lib.hid (has_any _ c (-x) wr hcl2)
        cases h1 : hasI c x
        · have h2 : hasI c (-x) = true := by rw [h1] at hkp; simpa using hkp
          rw [h1] at H1
          rw [h2] at H2
          clear hkp h1 h2 hfew hcr hmem hcl2 hc
          go_wp2_with fail
          refine H1.out.mono ?_
          rintro e w' ⟨rfl, rfl⟩
          go_wp2_with fail
          refine H2.out.mono ?_
          rintro e w' ⟨rfl, rfl⟩
          go_wp2
          go_roundw
          case rel => exact ⟨k + 1, _, by omega, by go_num, HP, by rw [HN.out]; exact HO, HBr⟩
          case measure => simp [intOf]; omega
        · rw [h1] at H1
          clear hkp h1 hfew hcr hmem hcl2 hc
          go_wp2_with fail
          refine H1.out.mono ?_
          rintro e w' ⟨rfl, rfl⟩
          go_wp2
          go_roundw
          case rel => exact ⟨k + 1, _, by omega, by go_num, HP, by rw [HN.out]; exact HO, HBr⟩
          case measure => simp [intOf]; omega
      · have HN : Hid (leaveKeep x f.clauses (k + 1) = leaveKeep x f.clauses k ++ [f.clauses[k]]) := keep_yes hlt hkp
        have hfs : Few 49 (leaveKeep x f.clauses k ++ [f.clauses[k]]) := hfew.app (m := 1) ⟨by simp, fun c hc => by rw [List.mem_singleton] at hc; rw [hc]; omega⟩
        have hsum : ((leaveKeep x f.clauses k ++ [f.clauses[k]]).map List.length).sum ≤ 1099511627776 := by have := hfs.sum (by omega); omega
        obtain ⟨c, hc⟩ : ∃ c, c = f.clauses[k] := ⟨_, rfl⟩
        rw [← hc] at hkp hck hcl2 hsum HN hlen
        have H1 := Lib.hid (has_any _ c x wr hcl2)
        have H2 := Lib.hid (has_any _ c (-x) wr hcl2)
        have h1 : hasI c x = false := by simp at hkp; exact hkp.1
        have h2 : hasI c (-x) = false := by simp at hkp; exact hkp.2
        rw [h1] at H1
        rw [h2] at H2
        have hDw : Drew wr wr.drew := ⟨1, rfl⟩
        have c66 := HP.out.c1
        have HCP := Lib.hid (copyInts_any _ c wr.drew (hcl2.drew hDw) (by rw [hDw.heap]; omega) (by omega))
        clear hkp h1 h2 hfew hcr hmem hcl2 hc hfs
        go_wp2_with fail
        refine H1.out.mono ?_
        rintro e w' ⟨rfl, rfl⟩
        go_wp2_with fail
        refine H2.out.mono ?_
        rintro e w' ⟨rfl, rfl⟩
        go_wp2_with fail
        go_region_law (first | (go_simp; go_at_call 64; refine HCP.out.mono ?_; rintro e w3 ⟨u3, rfl, ho3, hb3⟩; obtain ⟨qa, qc, rfl⟩ := ho3.shape; have hb3' : Below wr.heap.size wr w3 := (hDw.below _).trans hb3; have hz3 := hb3'.size; have kb3 : Below w2.heap.size wr w3 := hb3'.mono (by omega); have hp3 := HP.out.below hb3' hplt; have ho3' := HO.out.below hb3' (Nat.le_refl _); have c66b := hp3.c1; have c66c := (hp3.alloc (.cells #[.slice qa c.length qc] 34)).c1) | ((refine step_appII (by rfl) _ _ (by rfl) _ (leaveKeep x f.clauses k) (by rfl) _ c _ ho3' ho3 (Nat.le_refl _) (show w2.heap.size + 1 ≤ wr.heap.size by omega) (by rfl) (by omega) hsum (by omega) ?_; intro v4 w4 ho4 hsm4 hz4; obtain ⟨ya, yc, rfl⟩ := ho4.shape1; have hp4 := hp3.same hsm4 (.inl (Nat.lt_succ_self _)); have c4 := hp4.c1; have f4 := hp4.f1; have kb4 := kb3.trans (hsm4.below (B := w2.heap.size) (by omega) (by omega)))))
        all_goals
          have HP4 := Lib.hid (hp4.set1 (.slice ya ((leaveKeep x f.clauses k).length + 1) yc))
          have HO4 : Hid (OwnII (w4.setCell ⟨w2.heap.size, 1, none⟩ (.slice ya ((leaveKeep x f.clauses k).length + 1) yc)) (w2.heap.size + 1) (w4.setCell ⟨w2.heap.size, 1, none⟩ (.slice ya ((leaveKeep x f.clauses k).length + 1) yc)).heap.size (.slice ya ((leaveKeep x f.clauses k).length + 1) yc) (leaveKeep x f.clauses k ++ [c])) := (ho4.same (set1_same _ _ _ _) (.inr (Nat.le_refl _))).mono (Nat.le_refl _) (set1_same _ _ _ _).size (Nat.le_refl _)
          have HB4 := Lib.hid (HBr.out.trans (kb4.setCell (p := ⟨w2.heap.size, 1, none⟩) (Nat.le_refl _) (.slice ya ((leaveKeep x f.clauses k).length + 1) yc)))
          clear ho4 kb4 hsm4 hp3 ho3' ho3 kb3 hb3 hb3' hDw
          go_wp2
          go_roundw
          case rel => exact ⟨k + 1, _, by omega, by go_num, HP4, by rw [HN.out]; exact HO4, HB4⟩
          case measure => simp [intOf]; omega
    · obtain rfl : k = f.clauses.length := by omega
      have hOM : Hid (OwnII wr (w2.heap.size + 1) wr.heap.size (.slice oa (leaveKeep x f.clauses f.clauses.length).length oc) (leaveMid x f.clauses 0)) := by rw [Hid, leaveMid_zero]; exact HO.out
      clear hplt HO
      go_wp2_with fail
      clear q0 q1
      go_loopw [58] (fun i wr => ∃ (i' : Nat) (ov : Value), i' ≤ f.clauses.length ∧ i = .int .i64 i' ∧ Hid (TwoC wr w2.heap.size 26 (.int .i64 f.letters) ov) ∧ Hid (OwnII wr (w2.heap.size + 1) wr.heap.size ov (leaveMid x f.clauses i')) ∧ Hid (Below w2.heap.size w2 wr)) (fun i _ => f.clauses.length - (intOf i).toNat)
      case atStart => exact ⟨0, _, Nat.zero_le _, rfl, HP, hOM, HBr⟩
      case round =>
        clear HP hOM HBr hsr
        obtain ⟨i, ov, hi, rfl, HP, HO, HBr⟩ := hrel
        have hsr := HBr.out.size
        obtain ⟨oa2, oc2, rfl⟩ := HO.out.shape
        have hplt := HP.out.lt
        have hbx := HB2.out.below HBr.out HB2.out.lt
        have q0 := hbx.c0
        have q1 := hbx.c1
        clear hbx
        by_cases hlt : i < f.clauses.length
        · obtain ⟨fb, foff, hfe⟩ := HU2.out.addr (by omega)
          subst hfe
          obtain ⟨aa, ac, hak, hal, hfb⟩ := (HU2.out.below HBr.out (by omega)).cellAt hlt
          obtain ⟨aa', ac', hak', hal', _⟩ := HU2.out.cellAt hlt
          have hea : aa' = aa ∧ ac' = ac := by
            rw [HBr.out.cell (p := ⟨fb, foff + i, none⟩) (show fb < w2.heap.size by omega), hak'] at hak
            injection hak with hak
            injection hak with e1 _ e2
            exact ⟨e1, e2⟩
          obtain ⟨rfl, rfl⟩ := hea
          have hmem : f.clauses[i] ∈ f.clauses := List.getElem_mem hlt
          have HCA := Lib.hid (HCL.out _ hmem)
          have HWE := Lib.hid (leaveWay_end (x := x) hlt)
          have har := lit_rng (HCL.out _ hmem)
          obtain ⟨a, ha⟩ : ∃ a, a = f.clauses[i] := ⟨_, rfl⟩
          rw [← ha] at hak hal hal' hak' HCA HWE har
          have HAR := Lib.hid har
          have HAL := Lib.hid hal'
          have HAK := Lib.hid hak'
          have hOW : Hid (OwnII wr (w2.heap.size + 1) wr.heap.size (.slice oa2 (leaveMid x f.clauses i).length oc2) (leaveWay x f.clauses i a 0)) := by rw [Hid, leaveWay_zero]; exact HO.out
          clear ha hal hal' hak' har hmem HO
          go_wp2_with fail
          clear q0 q1 hak
          go_loopw [65] (fun k wr => ∃ (k' : Nat) (ov : Value), k' ≤ f.clauses.length ∧ k = .int .i64 k' ∧ Hid (TwoC wr w2.heap.size 26 (.int .i64 f.letters) ov) ∧ Hid (OwnII wr (w2.heap.size + 1) wr.heap.size ov (leaveWay x f.clauses i a k')) ∧ Hid (Below w2.heap.size w2 wr)) (fun k _ => f.clauses.length - (intOf k).toNat)
          case atStart => exact ⟨0, _, Nat.zero_le _, rfl, HP, hOW, HBr⟩
          case round =>
            clear HP hOW HBr hsr hplt
            obtain ⟨k, ov, hk, rfl, HP, HO, HBr⟩ := hrel
            have hsr := HBr.out.size
            obtain ⟨oa3, oc3, rfl⟩ := HO.out.shape
            have hplt := HP.out.lt
            have hbx := HB2.out.below HBr.out HB2.out.lt
            have q0 := hbx.c0
            have q1 := hbx.c1
            have q0' := HP.out.c1
            have HBX := Lib.hid hbx
            clear hbx
            by_cases hkl : k < f.clauses.length
            · obtain ⟨ba, bc, hbk, hbl, _⟩ := (HU2.out.below HBr.out (by omega)).cellAt hkl
              have hmem : f.clauses[k] ∈ f.clauses := List.getElem_mem hkl
              have HCB := Lib.hid (HCL.out _ hmem)
              have hbr := lit_rng (HCL.out _ hmem)
              have HNA : Hid (hasI a x = false → leaveWay x f.clauses i a (k + 1) = leaveWay x f.clauses i a k) := fun h => leaveWay_noA h
              have HNB : Hid (hasI f.clauses[k] (-x) = false → leaveWay x f.clauses i a (k + 1) = leaveWay x f.clauses i a k) := fun h => leaveWay_noB hkl h
              have HNN : Hid ((resolveN a f.clauses[k] x).2 = false → leaveWay x f.clauses i a (k + 1) = leaveWay x f.clauses i a k) := fun h => leaveWay_none hkl h
              have HNP : Hid (∀ R, hasI a x = true → hasI f.clauses[k] (-x) = true → resolveN a f.clauses[k] x = (R, true) → leaveWay x f.clauses i a (k + 1) = leaveWay x f.clauses i a k ++ [R]) := fun R h0 h1 h2 => leaveWay_put hkl h0 h1 h2
              have hfew := leaveWay_few (x := x) hx1 h48 HCL.out HCA.out (Nat.le_of_lt hlt) hk
              have hfew2 := leaveWay_few (x := x) (k := k + 1) hx1 h48 HCL.out HCA.out (Nat.le_of_lt hlt) hkl
              have hfe1 := hfew.1
              obtain ⟨b, hb⟩ : ∃ b, b = f.clauses[k] := ⟨_, rfl⟩
              rw [← hb] at hbk hbl HCB hbr HNB HNN HNP
              have HBL := Lib.hid hbl
              have HBR := Lib.hid hbr
              have HHA := Lib.hid (has_any _ a x wr (HAL.out.below HBr.out (by omega)))
              have HH := Lib.hid (has_any _ b (-x) wr hbl)
              cases hax : hasI a x
              · have HN := Lib.hid (HNA.out hax)
                rw [hax] at HHA
                clear hax hb hbl hbr hmem hfew hfew2
                go_wp2_with fail
                refine HHA.out.mono ?_
                rintro e w' ⟨rfl, rfl⟩
                go_wp2
                go_roundw
                case rel => exact ⟨k + 1, _, by omega, by go_num, HP, by rw [HN.out]; exact HO, HBr⟩
                case measure => simp [intOf]; omega
              have HAX := Lib.hid hax
              rw [hax] at HHA
              clear hax
              cases hbx : hasI b (-x)
              · have HN := Lib.hid (HNB.out hbx)
                rw [hbx] at HH
                clear hbx hb hbl hbr hmem hfew hfew2
                go_wp2_with fail
                refine HHA.out.mono ?_
                rintro e w' ⟨rfl, rfl⟩
                go_wp2_with fail
                refine HH.out.mono ?_
                rintro e w' ⟨rfl, rfl⟩
                go_wp2
                go_roundw
                case rel => exact ⟨k + 1, _, by omega, by go_num, HP, by rw [HN.out]; exact HO, HBr⟩
                case measure => simp [intOf]; omega
              have hcl := res_clash HAX.out hbx
              have h18 := clash_len hx1 HCA.out HCB.out hcl
              have hRE := resS_eq HCA.out HCB.out hcl
              have HRS := Lib.hid (resolveI_any wr f.letters _ _ a b x kL (HAL.out.below HBr.out (by omega)) (by omega) (HBL.out) (by omega) HAR.out.1 HBR.out.1 (by have := HAR.out.2; omega) (by have := HBR.out.2; omega) hx1 hx2 h18)
              obtain ⟨R, hR⟩ : ∃ R, R = resS x a b := ⟨_, rfl⟩
              rw [← hR] at HRS hRE
              obtain ⟨t, ht⟩ : ∃ t, t = isClause f.letters R := ⟨_, rfl⟩
              rw [← ht] at HRS hRE
              clear hcl h18 hR ht
              have HBX2 := Lib.hid hbx
              rw [hbx] at HH
              clear hbx hb hbl hbr hmem
              cases t
              · have HN := Lib.hid (HNN.out (by rw [hRE]; rfl))
                clear hRE hfew hfew2
                go_wp2_with fail
                refine HHA.out.mono ?_
                rintro e w' ⟨rfl, rfl⟩
                go_wp2_with fail
                refine HH.out.mono ?_
                rintro e w' ⟨rfl, rfl⟩
                go_wp2_with fail
                refine HRS.out.mono ?_
                rintro e w4 ⟨u4, rfl, ho4, hb4⟩
                obtain ⟨ua, uc, rfl⟩ := ho4.shape
                have HB4 := Lib.hid hb4
                have HO4' := Lib.hid ho4
                clear ho4 hb4
                have HP4 := Lib.hid (HP.out.below HB4.out hplt)
                have HO4 : Hid (OwnII w4 (w2.heap.size + 1) w4.heap.size (.slice oa3 (leaveWay x f.clauses i a k).length oc3) (leaveWay x f.clauses i a (k + 1))) := by rw [Hid, HN.out]; exact (HO.out.below HB4.out (Nat.le_refl _)).mono (Nat.le_refl _) HB4.out.size (Nat.le_refl _)
                have HB44 := Lib.hid (HBr.out.trans (HB4.out.mono hsr))
                go_wp2
                go_roundw
                case rel => exact ⟨k + 1, _, by omega, by go_num, HP4, HO4, HB44⟩
                case measure => simp [intOf]; omega
              · have HN := Lib.hid (HNP.out R HAX.out HBX2.out (by rw [hRE]; rfl))
                have HLN : Hid ((leaveWay x f.clauses i a k).length + 1 ≤ 1048576) := by rw [Hid]; omega
                have HSM : Hid (((leaveWay x f.clauses i a k ++ [R]).map List.length).sum ≤ 1099511627776) := by rw [Hid, ← HN.out]; have := hfew2.sum (by omega); omega
                clear hRE hfew hfew2
                go_wp2_with fail
                refine HHA.out.mono ?_
                rintro e w' ⟨rfl, rfl⟩
                go_wp2_with fail
                refine HH.out.mono ?_
                rintro e w' ⟨rfl, rfl⟩
                go_wp2_with fail
                refine HRS.out.mono ?_
                rintro e w4 ⟨u4, rfl, ho4, hb4⟩
                obtain ⟨ua, uc, rfl⟩ := ho4.shape
                have HB4 := Lib.hid hb4
                have HO4' := Lib.hid ho4
                clear ho4 hb4
                have hp4 := HP.out.below HB4.out hplt
                have HP4 := Lib.hid hp4
                have HR4 := Lib.hid (HO.out.below HB4.out (Nat.le_refl _))
                have c66 := hp4.c1
                have hs4 := HB4.out.size
                have hlo4 : w2.heap.size + 1 ≤ w4.heap.size := by omega
                clear hp4
                go_wp2_with (at_builtin; refine wpList_appII rfl _ _ rfl _ (leaveWay x f.clauses i a k) rfl _ R _ HR4.out HO4'.out (Nat.le_refl _) (show w2.heap.size + 1 ≤ wr.heap.size by omega) rfl HLN.out HSM.out hlo4 ?_)
                intro v5 w5 ho5 hsm5 hz5
                obtain ⟨ya, yc, rfl⟩ := ho5.shape1
                have hp5 := HP4.out.same hsm5 (.inl (Nat.lt_succ_self _))
                have c4 := hp5.c1
                have f4 := hp5.f1
                have HP5 := Lib.hid (hp5.set1 (.slice ya ((leaveWay x f.clauses i a k).length + 1) yc))
                have HO5 : Hid (OwnII (w5.setCell ⟨w2.heap.size, 1, none⟩ (.slice ya ((leaveWay x f.clauses i a k).length + 1) yc)) (w2.heap.size + 1) (w5.setCell ⟨w2.heap.size, 1, none⟩ (.slice ya ((leaveWay x f.clauses i a k).length + 1) yc)).heap.size (.slice ya ((leaveWay x f.clauses i a k).length + 1) yc) (leaveWay x f.clauses i a (k + 1))) := by
                  rw [Hid, HN.out]; exact (ho5.same (set1_same _ _ _ _) (.inr (Nat.le_refl _))).mono (Nat.le_refl _) (set1_same _ _ _ _).size (Nat.le_refl _)
                have HB5 := Lib.hid (((HBr.out.trans (HB4.out.mono hsr)).trans (hsm5.below (B := w2.heap.size) (by omega) (by omega))).setCell (p := ⟨w2.heap.size, 1, none⟩) (Nat.le_refl _) (.slice ya ((leaveWay x f.clauses i a k).length + 1) yc))
                clear ho5 hsm5 hz5 hp5 c66
                go_wp2
                go_roundw
                case rel => exact ⟨k + 1, _, by omega, by go_num, HP5, HO5, HB5⟩
                case measure => simp [intOf]; omega
            · obtain rfl : k = f.clauses.length := by omega
              have HO' : Hid (OwnII wr (w2.heap.size + 1) wr.heap.size (.slice oa3 (leaveWay x f.clauses i a f.clauses.length).length oc3) (leaveMid x f.clauses (i + 1))) := by rw [Hid, ← HWE.out]; exact HO.out
              go_wp2
              go_roundw
              case rel => exact ⟨i + 1, _, by omega, by go_num, HP, HO', HBr⟩
              case measure => simp [intOf]; omega
        · obtain rfl : i = f.clauses.length := by omega
          rw [leaveMid_all] at HO
          have hfew := all_few (x := x) hx1 h48 HCL.out
          have c0 := HP.out.c0
          have c1 := HP.out.c1
          have e0 : (leaveMid x f.clauses f.clauses.length).length = (leaveAll x f.clauses).length := rfl
          rw [e0] at c1
          obtain ⟨rows, hrows⟩ : ∃ r, r = leaveAll x f.clauses := ⟨_, rfl⟩
          rw [← hrows] at HO HE hfew c1
          have HGV := Lib.hid (checked_any wr (.agg #[.int .i64 f.letters, .slice oa2 rows.length oc2]) ⟨f.letters, rows⟩ ⟨⟨_, rfl, HO.out.rd⟩, kL⟩ (Nat.le_refl _) (hfew.small (by omega)))
          have HEC : Hid (checkedF ⟨f.letters, rows⟩ = if validForm ⟨f.letters, rows⟩ then (⟨f.letters, rows⟩, true) else (⟨0, []⟩, false)) := rfl
          clear hrows hfew e0
          go_wp2_with fail
          refine HGV.out.mono ?_
          rintro e w7 ⟨r7, rfl, ht7, hf7, hb7⟩
          have hs7 := hb7.size
          have hr7 := HR2.out.below (HBr.out.trans (hb7.mono hsr)) HR2.out.lt
          have r0 := hr7.c0
          have r1 := hr7.c1
          have g0 := hr7.f0
          have g1 := hr7.f1
          have HBF : Hid (Below w.heap.size w w7) := HBW2.out.trans ((HBr.out.trans (hb7.mono hsr)).mono (by omega))
          have HOF := Lib.hid (HO.out.below hb7 (Nat.le_refl _))
          have hsr2 : w.heap.size + 1 < w2.heap.size := HR2.out.lt
          clear hb7 hr7 HGV c0 c1 q0 q1
          cases hvo : validForm ⟨f.letters, rows⟩
          · obtain rfl := hf7 hvo
            have HE2 : Hid (leaveF f x = (⟨0, []⟩, false)) := by rw [Hid, HE.out, HEC.out, hvo]; rfl
            clear ht7 hf7
            go_wp2_with fail
            refine bodyPost_ret (v := .tuple #[.agg #[.int .i64 0, .slice none 0 0], .bool false]) (by simp [results, Try.results43, go_sem, r0, r1]) rfl ⟨_, by rw [HE2.out], by rw [HE2.out]; exact noForm _ _ (Nat.le_refl _) _, ?_⟩
            exact (HBF.out.setCell (by simp) _).setCell (by simp) _
          · obtain rfl := ht7 hvo
            have HE2 : Hid (leaveF f x = (⟨f.letters, rows⟩, true)) := by rw [Hid, HE.out, HEC.out, hvo]; rfl
            clear ht7 hf7
            go_wp2_with fail
            have hS := ((Same.refl w.heap.size (w.heap.size + 2) w7).setCell (p := ⟨w.heap.size + 1, 0, none⟩) (by simp) (by simp) (.int .i64 f.letters)).setCell (p := ⟨w.heap.size + 1, 1, none⟩) (by simp) (by simp) (.slice oa2 rows.length oc2)
            refine bodyPost_ret (v := .tuple #[.agg #[.int .i64 f.letters, .slice oa2 rows.length oc2], .bool true]) (by simp [results, Try.results43, go_sem, r0, r1]) rfl ⟨_, by rw [HE2.out], ?_, HBF.out.trans (hS.below (Nat.le_refl _) HBF.out.size)⟩
            rw [HE2.out]
            exact ⟨⟨_, rfl, (HOF.out.same hS (.inr (by omega))).mono (by omega) (Nat.le_trans hs7 hS.size) (Nat.le_refl _)⟩, kL⟩
end Go.Proofs.Ytcpbgjnijhcpkaa

