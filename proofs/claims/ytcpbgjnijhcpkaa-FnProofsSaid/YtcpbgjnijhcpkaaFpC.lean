/-
  CoreOf: contracts in the reference.
-/
import Derived.Test.YtcpbgjnijhcpkaaFpB
import Derived.Test.YtcpbgjnijhcpkaaUnitsOf
import Derived.Test.YtcpbgjnijhcpkaaByLetter
import Derived.Test.YtcpbgjnijhcpkaaCopy
import Derived.Test.YtcpbgjnijhcpkaaOwn2
import Derived.Test.YtcpbgjnijhcpkaaBase
import Derived.ProofKit
import Derived.OpenShut
import Derived.ShutString
import Derived.ChangeOld
import Derived.Below
import Derived.Deep.Slices
import Derived.Test.YtcpbgjnijhcpkaaSrc
import Derived.Test.YtcpbgjnijhcpkaaAppII
import Derived.Test.YtcpbgjnijhcpkaaTwoC
import Derived.Test.YtcpbgjnijhcpkaaFormA
import Derived.Deep.RegionLaw
import Derived.Test.YtcpbgjnijhcpkaaFpA
import Derived.Test.YtcpbgjnijhcpkaaTri
namespace Go.Proofs.Ytcpbgjnijhcpkaa
open Go.RowKit
set_option linter.unusedVariables false
set_option maxRecDepth 100000

theorem Intss.cellAt {w : World} {lo hi b off n cap : Nat} {zss : List (List Int)} (h : Intss w lo hi (.slice (some ⟨b, off, none⟩) n cap) zss) {j : Nat} (hj : j < zss.length) :
    ∃ a c, w.cell? ⟨b, off + j, none⟩ = some (.slice a zss[j].length c) ∧ Ints w lo hi (.slice a zss[j].length c) zss[j] ∧ b < hi := by
  obtain ⟨a, cap', V, e, h1, h2, hV, hd⟩ := h.out
  simp only [Value.slice.injEq] at e
  obtain ⟨e1, rfl, rfl⟩ := e
  rcases hd with rfl | ⟨b', off', r1, r2, r3, r4, hc⟩
  · simp at hj
  · rw [r1] at e1
    injection e1 with e1
    injection e1 with e1 e2
    subst e1; subst e2
    have hv := hV j hj
    obtain ⟨a2, c2, e3, _⟩ := hv.out
    have hcj := hc j hj
    rw [e3] at hcj hv
    exact ⟨a2, c2, hcj, hv, r3⟩
theorem Intss.addr {w : World} {lo hi n cap : Nat} {a : Option Addr} {zss : List (List Int)} (h : Intss w lo hi (.slice a n cap) zss) (h0 : 0 < zss.length) : ∃ b off, a = some ⟨b, off, none⟩ := by
  obtain ⟨a', cap', V, e, h1, h2, hV, hd⟩ := h.out
  simp only [Value.slice.injEq] at e
  obtain ⟨rfl, _, _⟩ := e
  rcases hd with rfl | ⟨b', off', r1, _⟩
  · simp at h0
  · exact ⟨b', off', r1⟩
theorem Ints.cellAt {w : World} {lo hi n cap : Nat} {a : Option Addr} {zs : List Int} (h : Ints w lo hi (.slice a n cap) zs) {j : Nat} (hj : j < zs.length) :
    ∃ b off, a = some ⟨b, off, none⟩ ∧ b < hi ∧ ∀ i, i < zs.length → w.cell? ⟨b, off + i, none⟩ = some (.int .i64 (zs.getD i 0)) := by
  obtain ⟨a', cap', e, h1, h2, hd⟩ := h.out
  simp only [Value.slice.injEq] at e
  obtain ⟨rfl, rfl, rfl⟩ := e
  rcases hd with rfl | ⟨b', off', r1, r2, r3, r4, hc⟩
  · simp at hj
  · exact ⟨b', off', r1, r3, hc⟩
/-- two slices of the call's own that grow side by side -/
structure LearnM (w : World) (lo : Nat) (lv ov : Value) (lk out : List Int) : Prop where
  a : OwnI w lo w.heap.size lv lk
  b : OwnI w lo w.heap.size ov out
  ap : ∀ p, lv.ownBlock = some p → ov.ownBlock ≠ some p
section
variable {w w' : World} {lo : Nat} {lv ov u : Value} {lk out zs : List Int}
theorem LearnM.swap (h : LearnM w lo lv ov lk out) : LearnM w lo ov lv out lk := ⟨h.b, h.a, fun p hp e => h.ap p e hp⟩
theorem LearnM.drew (h : LearnM w lo lv ov lk out) (hd : Drew w w') : LearnM w' lo lv ov lk out := by
  have e : w'.heap.size = w.heap.size := by rw [hd.heap]
  exact ⟨by rw [e]; exact h.a.drew hd, by rw [e]; exact h.b.drew hd, h.ap⟩
theorem LearnM.below (h : LearnM w lo lv ov lk out) (hb : Below w.heap.size w w') : LearnM w' lo lv ov lk out :=
  ⟨(h.a.below hb (Nat.le_refl _)).mono (Nat.le_refl _) hb.size (Nat.le_refl _), (h.b.below hb (Nat.le_refl _)).mono (Nat.le_refl _) hb.size (Nat.le_refl _), h.ap⟩
theorem LearnM.grow (h : LearnM w lo lv ov lk out) {n : Nat} (ho : OwnI w' lo w'.heap.size u zs) (hk : ∀ k, k < w.heap.size → lv.ownBlock ≠ some k → w'.heap[k]? = w.heap[k]?) (hz : w.heap.size ≤ w'.heap.size) (hn : w.heap.size ≤ n) (hb : u.ownBlock = lv.ownBlock ∨ u.ownBlock = some n) : LearnM w' lo u ov zs out := by
  refine ⟨ho, h.b.beside hz (Nat.le_trans h.b.own.hsz hz) hk (fun p hp e => h.ap p e hp), fun p hp e => ?_⟩
  rcases hb with hb | hb
  · exact h.ap p (by rw [← hb]; exact hp) e
  · have := h.b.own.blk p e
    rw [hb] at hp; injection hp with hp; omega
/-- a call that leaves the first slice in its old block or in new memory -/
theorem LearnM.called (h : LearnM w lo lv ov lk out) (ho : OwnI w' lo w'.heap.size u zs) (hb : Below w.heap.size w w') (hk : BlkOk w lv u) : LearnM w' lo u ov zs out := by
  refine ⟨ho, (h.b.below hb (Nat.le_refl _)).mono (Nat.le_refl _) hb.size (Nat.le_refl _), fun p hp e => ?_⟩
  rcases hk with hk | hk
  · exact h.ap p (by rw [← hk]; exact hp) e
  · have := h.b.own.blk p e
    have := hk p hp
    omega
end
theorem learn_no {f : FormD} {g : List Int} (h : (validForm f && litsGo f.letters [] g) = false) : learnF f g = ([], false) := by rw [learnF, h]; rfl
theorem learn_none {f : FormD} {g : List Int} (h : (validForm f && litsGo f.letters [] g) = true) (hw : (unitsF f.clauses g).wrong < 0) : learnF f g = ([], false) := by rw [learnF, h, if_pos rfl, if_pos hw]
theorem learn_yes {f : FormD} {g : List Int} (h : (validForm f && litsGo f.letters [] g) = true) (hw : ¬ (unitsF f.clauses g).wrong < 0) : learnF f g = (srtL (learnOut f.clauses (unitsF f.clauses g)), true) := by rw [learnF, h, if_pos rfl, if_neg hw]
/-- the start -/
theorem learn_start {L : Int} {cs : List (List Int)} {U : UnitD} {j : Nat} (hj : j < cs.length) (hw : U.wrong = (j : Int)) (hy : UnitsWhy cs U) (hc : ∀ c ∈ cs, Cons L c) : LearnInv L U.known cs[j] 0 [] ∧ learnGo cs U (11 - 0) 0 cs[j] [] = learnOut cs U := by
  have e : cs.getD U.wrong.toNat [] = cs[j] := by rw [hw, Int.toNat_natCast, getD_get hj]
  refine ⟨⟨⟨fun l hl => hy.wrong (by omega) l (by rw [e]; exact hl), hc _ (List.getElem_mem hj)⟩, Nat.zero_le _, List.Sublist.refl _⟩, by rw [learnOut, e]⟩
theorem learnAdd_cons (x y : Int) (lk r : List Int) : learnAdd x lk (y :: r) = learnAdd x (if (y == -x) || hasI lk y then lk else lk ++ [y]) r := rfl
theorem learnAdd_keep {x y : Int} {lk r : List Int} (h : ((y == -x) || hasI lk y) = true) : learnAdd x lk (y :: r) = learnAdd x lk r := by rw [learnAdd_cons, if_pos h]
theorem learnAdd_put {x y : Int} {lk r : List Int} (h : ((y == -x) || hasI lk y) = false) : learnAdd x lk (y :: r) = learnAdd x (lk ++ [y]) r := by rw [learnAdd_cons, if_neg (by rw [h]; decide)]
set_option maxHeartbeats 400000 in
set_option maxRecDepth 100000 in
theorem indexI_any {l h : Nat} (v : Value) (zs : List Int) (x : Int) (p : Nat) (w : World) (hv : Ints w l h v zs) (hp : p < zs.length) (hx : zs.getD p 0 = x) (hn : ∀ j, j < p → zs.getD j 0 ≠ x) :
    Calls Try.prog 65 #[v, .int .i64 x] w fun e w' => e = .returned (.int .i64 (p : Int)) ∧ w = w' := by
  obtain ⟨a, cap, rfl, hc1, hc2, hd⟩ := hv.out
  rcases hd with rfl | ⟨b, off, rfl, hb1, hb2, hb3, hcell⟩
  · simp at hp
  have HN := Lib.hid hn
  have HX := Lib.hid hx
  clear hn hx
  go_enter Try.func65, Try.ntmps65
  go_wp2_with fail
  go_loop [8] (fun i => ∃ k : Nat, k ≤ p ∧ i = .int .i64 k) (fun i => zs.length - (intOf i).toNat)
  case atStart => exact ⟨0, Nat.zero_le _, rfl⟩
  case round =>
    obtain ⟨k, hk, rfl⟩ := hrel
    have hkl : k < zs.length := by omega
    have hck := hcell k hkl
    by_cases hkp : k = p
    · subst hkp
      rw [HX.out] at hck
      clear hcell
      go_wp2
      go_ret
      exact ⟨rfl, rfl⟩
    · have hne := HN.out k (by omega)
      obtain ⟨y, hy⟩ : ∃ y, y = zs.getD k 0 := ⟨_, rfl⟩
      rw [← hy] at hck hne
      have hq : (x == y) = false := beq_eq_false_iff_ne.2 (Ne.symm hne)
      clear hcell hne hy
      go_wp2
      go_round
      case rel => exact ⟨k + 1, by omega, by go_num⟩
      case measure => simp [intOf]; omega
set_option maxHeartbeats 2000000 in
set_option maxRecDepth 100000 in
theorem implLearnFrom_any (w : World) {l h l' h' : Nat} (v : Value) (f : FormD) (v' : Value) (g : List Int) (hv : FormR w l h v f) (hh : h ≤ w.heap.size) (hz : SmallII f.clauses) (hv' : Ints w l' h' v' g) (hh' : h' ≤ w.heap.size) (hz' : g.length ≤ 1048576) :
    Calls Try.prog 17 #[v, v'] w fun e w' => ∃ r, e = .returned (.tuple #[r, .bool (learnF f g).2]) ∧ OwnI w' w.heap.size w'.heap.size r (learnF f g).1 ∧ Below w.heap.size w w' := by
  obtain ⟨u, rfl, hu⟩ := hv.ex
  have kL := hv.rng
  obtain ⟨a0, cap0, V0, e0, hcap1, hcap2, _, _⟩ := hu.out
  subst e0
  obtain ⟨ga, gcap, ge, gc1, gc2, _⟩ := hv'.out
  subst ge
  obtain ⟨W, hW⟩ : ∃ W, W = w.alloc (.cells #[.int .i64 f.letters, .slice a0 f.clauses.length cap0] 26) := ⟨_, rfl⟩
  have hsW : W.heap.size = w.heap.size + 1 := by rw [hW]; simp
  have hBW : Below w.heap.size w W := by rw [hW]; exact alloc_below _ _
  have hbx : TwoC W w.heap.size 26 (.int .i64 f.letters) (.slice a0 f.clauses.length cap0) := by rw [hW]; exact TwoC.new _ _ _ _
  have HF := Lib.hid (hv.below hBW hh)
  have HU := Lib.hid (hu.below hBW hh)
  have HG := Lib.hid (hv'.below hBW hh')
  have HB := Lib.hid hbx
  have HBW := Lib.hid hBW
  have hW1 : w.heap.size < W.heap.size := by omega
  have hhW : h ≤ W.heap.size := by omega
  have hhW' : h' ≤ W.heap.size := by omega
  have HZ := Lib.hid hz
  have q0 := hbx.c0
  have q1 := hbx.c1
  clear hu hv hv' hbx hBW hsW hz
  go_enter Try.func17, Try.ntmps17
  go_wp2_with fail
  rw [← hW]
  clear hW
  go_wp2_with fail
  refine (implValidForm_any W _ _ HF.out hhW HZ.out).mono ?_
  rintro e w2 ⟨rfl, hb2⟩
  have hs2 := hb2.size
  clear q0 q1
  have hbx2 := HB.out.below hb2 hW1
  have q0 := hbx2.c0
  have q1 := hbx2.c1
  have HB2 := Lib.hid hbx2
  have HBW2 := Lib.hid (HBW.out.trans (hb2.mono (by omega)))
  have HG2 := Lib.hid (HG.out.below hb2 hhW')
  have HU2 := Lib.hid (HU.out.below hb2 hhW)
  clear hbx2 hb2
  cases hval : validForm f
  · have HE := Lib.hid (learn_no (f := f) (g := g) (by rw [hval]; rfl))
    go_wp2
    go_ret2
    exact ⟨_, by rw [HE.out]; rfl, by rw [HE.out]; exact OwnI.nil _ _ _ (Nat.le_refl _), HBW2.out⟩
  have bL := (validForm_bounds hval).1
  go_wp2_with fail
  refine (areGiven_any f.letters _ g w2 bL HG2.out hz').mono ?_
  rintro e w3 ⟨rfl, rfl⟩
  cases hgv : litsGo f.letters [] g
  · have HE := Lib.hid (learn_no (f := f) (g := g) (by rw [hgv, Bool.and_false]))
    go_wp2
    go_ret2
    exact ⟨_, by rw [HE.out]; rfl, by rw [HE.out]; exact OwnI.nil _ _ _ (Nat.le_refl _), HBW2.out⟩
  have HVG : Hid ((validForm f && litsGo f.letters [] g) = true) := by rw [Hid, hgv, hval]; rfl
  have HEN := Lib.hid (learn_none HVG.out)
  have HEY := Lib.hid (learn_yes HVG.out)
  have HUN := Lib.hid (unitsOf_any w2 f.letters _ _ f.clauses g bL.2 HU2.out (by omega) HZ.out (valid_lits hval) HG2.out (by omega) (cons_of_lits hgv))
  have HOK := Lib.hid (unitsF_ok (g := g) bL.2 (valid_lits hval) (cons_of_lits hgv))
  have HWY := Lib.hid (unitsF_why (g := g) (valid_lits hval))
  have HCC : Hid (∀ c ∈ f.clauses, Cons f.letters c) := fun c hc => cons_clause ((validForm_bounds hval).2.2 c hc)
  have hL10 : f.letters ≤ 10 := bL.2
  obtain ⟨U, hU⟩ : ∃ U, U = unitsF f.clauses g := ⟨_, rfl⟩
  rw [← hU] at HUN HOK HWY HEN HEY
  clear hval hgv hU HVG
  go_wp2_with fail
  refine HUN.out.mono ?_
  rintro e w4 ⟨vk, vb, rfl, hok, hob, hb4⟩
  obtain ⟨va, vc, rfl⟩ := hok.shape
  obtain ⟨ba, bc, rfl⟩ := hob.shape
  have hs4 := hb4.size
  have hB4 := HBW2.out.trans (hb4.mono (by omega))
  obtain ⟨W4, hW4⟩ : ∃ W, W = w4.alloc (.cells #[.slice va U.known.length vc, .slice ba U.why.length bc, .int .i64 U.wrong] 71) := ⟨_, rfl⟩
  have hsW4 : W4.heap.size = w4.heap.size + 1 := by rw [hW4]; simp
  have hBW4 : Below w4.heap.size w4 W4 := by rw [hW4]; exact alloc_below _ _
  have HT : Hid (TriC W4 w4.heap.size 71 (.slice va U.known.length vc) (.slice ba U.why.length bc) (.int .i64 U.wrong)) := by rw [Hid, hW4]; exact TriC.new _ _ _ _ _
  have HK4 := Lib.hid (hok.rd.below hBW4 (Nat.le_refl _))
  have HY4 := Lib.hid (hob.rd.below hBW4 (Nat.le_refl _))
  have HB5 : Hid (Below w.heap.size w W4) := hB4.trans (hBW4.mono (by omega))
  have hsz4 : w4.heap.size < W4.heap.size := by omega
  have hw24 : w.heap.size ≤ W4.heap.size := by omega
  have HU4 := Lib.hid ((HU2.out.below hb4 (by omega)).below hBW4 (by omega))
  have HB4 := Lib.hid ((HB2.out.below hb4 (by omega)).below hBW4 (by omega))
  have hwW4 : w.heap.size < W4.heap.size := by omega
  have hhW4 : h ≤ W4.heap.size := by omega
  clear hok hob hb4 hB4 hBW4 q0 q1
  by_cases hwr : U.wrong < 0
  · have HE := Lib.hid (HEN.out hwr)
    have c2 := HT.out.c2
    rw [hW4] at c2
    go_wp2
    go_ret2
    rw [← hW4]
    exact ⟨_, by rw [HE.out]; rfl, by rw [HE.out]; exact OwnI.nil _ _ _ (Nat.le_refl _), HB5.out⟩
  have HE := Lib.hid (HEY.out (by omega))
  obtain ⟨j, hj, hwj⟩ : ∃ j, ∃ h : j < f.clauses.length, U.wrong = (j : Int) := by
    rcases HOK.out.wrong with h1 | ⟨j, h1, h2, _⟩
    · omega
    · exact ⟨j, h1, h2⟩
  obtain ⟨HI0, HG0⟩ : Hid (LearnInv f.letters U.known f.clauses[j] 0 []) ∧ Hid (learnGo f.clauses U (11 - 0) 0 f.clauses[j] [] = learnOut f.clauses U) := learn_start hj hwj HWY.out HCC.out
  obtain ⟨fb, foff, rfl⟩ := HU4.out.addr (by omega)
  have t2 : W4.cell? ⟨w4.heap.size, 2, none⟩ = some (.int .i64 (j : Int)) := by rw [HT.out.c2, hwj]
  have c1 := HB4.out.c1
  obtain ⟨ka, kc, hck, hcl, _⟩ := HU4.out.cellAt hj
  have HCP := Lib.hid (copyInts_any _ f.clauses[j] W4 hcl hhW4 (by have := HZ.out.row hj; omega))
  rw [hW4] at t2 c1 hck
  clear hwr hwj HEN HEY hcl
  go_wp2_with fail
  rw [← hW4]
  clear t2 c1 hck hW4 hsW4
  refine HCP.out.mono ?_
  rintro e w5 ⟨u5, rfl, ho5, hb5⟩
  obtain ⟨qa, qc, rfl⟩ := ho5.shape
  have HM0 : Hid (LearnM w5 W4.heap.size (.slice qa f.clauses[j].length qc) (.slice none 0 0) f.clauses[j] []) := ⟨ho5, OwnI.nil _ _ _ (Nat.le_refl _), fun p _ e => by cases e⟩
  have HB50 := Lib.hid hb5
  clear ho5 hb5
  go_wp2_with fail
  go_loopw [7, 8, 9] (fun lv ov iv wr => ∃ (i : Nat) (lk out : List Int), iv = .int .i64 i ∧ Hid (LearnInv f.letters U.known lk i out) ∧ Hid (learnGo f.clauses U (11 - i) i lk out = learnOut f.clauses U) ∧ Hid (LearnM wr W4.heap.size lv ov lk out) ∧ Hid (Below W4.heap.size W4 wr)) (fun _ _ iv _ => 11 - (intOf iv).toNat)
  case atStart => exact ⟨0, _, _, rfl, HI0, HG0, HM0, HB50⟩
  case round =>
    clear HI0 HG0 HM0 HB50 HCP
    obtain ⟨i, lk, out, rfl, HI, HGo, HM, HBr⟩ := hrel
    have hl10 := HI.out.ok.cons.len hL10
    obtain ⟨la, lc, rfl⟩ := HM.out.a.shape
    obtain ⟨oa, oc, rfl⟩ := HM.out.b.shape
    have hsr := HBr.out.size
    by_cases hlt : i < lk.length
    · obtain ⟨x, hx⟩ : ∃ x, x = lk.getD i 0 := ⟨_, rfl⟩
      have hxm : -x ∈ U.known := by rw [hx]; exact HI.out.ok.opp _ (getD_mem hlt)
      have hxr := HI.out.ok.cons.rng hL10 (getD_mem hlt)
      rw [← hx] at hxr
      have hx1 := hxr.2.1
      have hx2 := hxr.2.2
      obtain ⟨lb, loff, rfl, hlb, hlc⟩ := HM.out.a.rd.cellAt hlt
      have hlci := hlc i hlt
      rw [← hx] at hlci
      obtain ⟨p1, p2, p3⟩ := posI_spec hxm
      obtain ⟨p, hp⟩ : ∃ p, p = posI U.known (-x) := ⟨_, rfl⟩
      rw [← hp] at p1 p2 p3
      have HIX : Hid (∀ n, Calls Try.prog 65 #[.slice va U.known.length vc, .int .i64 (-x)] (wr.drewN n) fun e w' => e = .returned (.int .i64 (p : Int)) ∧ wr.drewN n = w') := fun n => indexI_any _ U.known (-x) p _ ((HK4.out.below HBr.out (by omega)).drewN n) p1 p2 p3
      obtain ⟨y, hy⟩ : ∃ y, y = U.why.getD p 0 := ⟨_, rfl⟩
      have hpw : p < U.why.length := by rw [HOK.out.len]; exact p1
      obtain ⟨yb, yoff, hyae, hyb, hyc⟩ := HY4.out.cellAt hpw
      subst hyae
      have hyr := hyc p hpw
      rw [← hy, ← HBr.out.cell (p := ⟨yb, yoff + p, none⟩) (show yb < W4.heap.size by omega)] at hyr
      have t0 := (HT.out.below HBr.out hsz4).c0
      have HX := Lib.hid hx
      have HP := Lib.hid hp
      have HY := Lib.hid hy
      have kx : I64 x := by unfold I64; omega
      have HOP : Hid (¬ y < 0 → ∃ j, ∃ h : j < f.clauses.length, y = (j : Int) ∧ OppOk U.known x f.clauses[j]) := fun h0 => by
        have h1 := why_clause HOK.out HWY.out hxm (by rw [← HP.out, ← HY.out]; exact h0)
        rw [← HP.out, ← HY.out] at h1
        exact h1
      have HTK : Hid (y < 0 → learnGo f.clauses U (11 - (i + 1)) (i + 1) lk (out ++ [x]) = learnOut f.clauses U) := fun h0 => by
        rw [← HGo.out, learn_take hl10 hlt (by rw [← HX.out, ← HP.out, ← HY.out]; exact h0), ← HX.out]
      have HAD : Hid (¬ y < 0 → ∀ c, f.clauses.getD y.toNat [] = c → learnGo f.clauses U (11 - (i + 1)) (i + 1) (learnAdd x lk c) out = learnOut f.clauses U) := fun h0 c hc => by
        rw [← HGo.out, learn_add hl10 hlt (by rw [← HX.out, ← HP.out, ← HY.out]; exact h0), ← HX.out, ← HP.out, ← HY.out, hc]
      clear hx hp hy hxm hxr hlc hyc p1 p2 p3
      go_wp2_with fail
      go_quiet ((go_at_call 65; exact quiet_same (HIX.out _)))
      obtain ⟨w1, hw1⟩ : ∃ w1, w1 = wr.drewN nq := ⟨_, rfl⟩
      rw [← hw1]
      have hD1 : Drew wr w1 := by rw [hw1]; exact Drew.one _ _
      have hlc1 : w1.cell? ⟨lb, loff + i, none⟩ = some (.int .i64 x) := by rw [hD1.cell]; exact hlci
      have hyr1 : w1.cell? ⟨yb, yoff + p, none⟩ = some (.int .i64 y) := by rw [hD1.cell]; exact hyr
      have HB1 : Hid (Below W4.heap.size W4 w1) := HBr.out.trans (hD1.below _)
      have HM1 := Lib.hid (HM.out.drew hD1)
      have t1 := (HT.out.below HB1.out hsz4).c1
      have c1 := (HB4.out.below HB1.out hwW4).c1
      have hs1 := HB1.out.size
      clear hw1 hD1 hlci hyr t0
      by_cases hw : y < 0
      · have H2 := Lib.hid (HTK.out hw)
        have HI2 : Hid (LearnInv f.letters U.known lk (i + 1) (out ++ [x])) := by rw [HX.out]; exact HI.out.take hlt
        have hol := HI.out.dist.len hL10
        go_wp2_with (at_builtin; refine wpList_app1K rfl _ _ rfl _ out rfl x _ HM1.out.b rfl kx (by omega) hs1 ?_)
        intro v3 w3 ho3 hk3 hsm3 hz3 hb3
        have HM3 := Lib.hid ((HM1.out.swap.grow ho3 hk3 (by omega) (Nat.le_succ _) hb3).swap)
        have HB3 := Lib.hid (HB1.out.trans (hsm3.below (Nat.le_refl _) hs1))
        clear ho3 hk3 hsm3 hz3 hb3
        go_wp2
        go_roundw
        case rel => exact ⟨i + 1, _, _, by go_num, HI2, H2, HM3, HB3⟩
        case measure => simp [intOf]; omega
      · obtain ⟨jc, hjc, hyj, HOPj⟩ : ∃ j, ∃ h : j < f.clauses.length, y = (j : Int) ∧ Hid (OppOk U.known x f.clauses[j]) := HOP.out (by omega)
        have H2 : Hid (learnGo f.clauses U (11 - (i + 1)) (i + 1) (learnAdd x lk f.clauses[jc]) out = learnOut f.clauses U) := HAD.out (by omega) _ (by rw [hyj, Int.toNat_natCast, getD_get hjc])
        subst hyj
        obtain ⟨ca, cc, hck4, hcl4, hfb⟩ := HU4.out.cellAt hjc
        have hck : w1.cell? ⟨fb, foff + jc, none⟩ = some (.slice ca f.clauses[jc].length cc) := by rw [HB1.out.cell (p := ⟨fb, foff + jc, none⟩) (show fb < W4.heap.size by omega)]; exact hck4
        have HCR : Hid (∀ z ∈ f.clauses[jc], -10 ≤ z ∧ z ≤ 10) := fun z hz => by
          have := (HCC.out _ (List.getElem_mem hjc)).rng hL10 hz; omega
        have hcz := HZ.out.row hjc
        obtain ⟨c, hc⟩ : ∃ c, c = f.clauses[jc] := ⟨_, rfl⟩
        rw [← hc] at H2 HOPj hck hcl4 HCR hcz
        have HCL := Lib.hid hcl4
        have HIA : Hid (LearnInv f.letters U.known (learnAdd x lk c) (i + 1) out) := HI.out.add HOK.out.cons hlt HOPj.out
        have HL0 : Hid (LkOk f.letters U.known lk ∧ i < lk.length ∧ lk.getD i 0 = x) := ⟨HI.out.ok, hlt, HX.out.symm⟩
        clear hc hck4 hcl4 HTK HAD HOP HIX
        go_wp2_with fail
        go_quiet (fail)
        obtain ⟨w2', hw2⟩ : ∃ w1', w1' = w1.drewN nq := ⟨_, rfl⟩
        rw [← hw2]
        have hD2 : Drew w1 w2' := by rw [hw2]; exact Drew.one _ _
        have HB2' : Hid (Below W4.heap.size W4 w2') := HB1.out.trans (hD2.below _)
        have HM2 := Lib.hid (HM1.out.drew hD2)
        clear hw2 hD2 hck hlc1 hyr1 t1 c1
        go_wp2_with fail
        go_loopw [7, 61] (fun lv jv wr => ∃ (m : Nat) (lk2 : List Int), m ≤ c.length ∧ jv = .int .i64 m ∧ Hid (learnAdd x lk2 (c.drop m) = learnAdd x lk c) ∧ Hid (LkOk f.letters U.known lk2 ∧ i < lk2.length ∧ lk2.getD i 0 = x) ∧ Hid (LearnM wr W4.heap.size lv (.slice oa out.length oc) lk2 out) ∧ Hid (Below W4.heap.size W4 wr)) (fun _ jv _ => c.length - (intOf jv).toNat)
        case atStart => exact ⟨0, _, Nat.zero_le _, rfl, Lib.hid rfl, HL0, HM2, HB2'⟩
        case round =>
          clear HL0 HM2 HB2'
          obtain ⟨m, lk2, hm, rfl, H3, HL2, HM3, HB3⟩ := hrel
          obtain ⟨hk2, hi2, hx2'⟩ := HL2.out
          have hl2 := hk2.cons.len hL10
          have HK2 := Lib.hid hk2
          have HX2 := Lib.hid hx2'
          obtain ⟨ra, rc, rfl⟩ := HM3.out.a.shape
          obtain ⟨lb2, loff2, rfl, hlb2, hlc2⟩ := HM3.out.a.rd.cellAt hi2
          have hli := hlc2 i hi2
          rw [hx2'] at hli
          have hs3 := HB3.out.size
          clear hk2 hx2' hlc2
          by_cases hml : m < c.length
          · obtain ⟨y, hy⟩ : ∃ y, y = c.getD m 0 := ⟨_, rfl⟩
            have hym : y ∈ c := by rw [hy]; exact getD_mem hml
            obtain ⟨cb, coff, hcae, hcb, hcc⟩ := (HCL.out.below HB3.out hhW4).cellAt hml
            subst hcae
            have hcy := hcc m hml
            rw [← hy] at hcy
            have HD : Hid (c.drop m = y :: c.drop (m + 1)) := by rw [Hid, drop_cons c m hml, hy]; simp [List.getD, hml]
            have hyr := HCR.out y hym
            have hy1 := hyr.1
            have hy2 := hyr.2
            have HYM := Lib.hid hym
            have ky : I64 y := by unfold I64; omega
            clear hy hym hcc hyr
            cases hq : (y != -x)
            · have HN : Hid (learnAdd x lk2 (c.drop (m + 1)) = learnAdd x lk c) := by
                have h1 : (y == -x) = true := by simpa [bne] using hq
                rw [Hid, ← H3.out, HD.out, learnAdd_keep (by rw [h1]; rfl)]
              go_wp2
              go_roundw
              case rel => exact ⟨m + 1, lk2, by omega, by go_num, HN, HL2, HM3, HB3⟩
              case measure => simp [intOf]; omega
            · have HQ : Hid ((y == -x) = false) := by simpa [Hid, bne] using hq
              have HH := Lib.hid (has_any _ lk2 y wr HM3.out.a.rd)
              cases hh : hasI lk2 y
              · have HN : Hid (learnAdd x (lk2 ++ [y]) (c.drop (m + 1)) = learnAdd x lk c) := by rw [Hid, ← H3.out, HD.out, learnAdd_put (by rw [HQ.out, hh]; rfl)]
                have HL3 : Hid (LkOk f.letters U.known (lk2 ++ [y]) ∧ i < (lk2 ++ [y]).length ∧ (lk2 ++ [y]).getD i 0 = x) :=
                  ⟨HK2.out.snoc HOK.out.cons (HOPj.out y HYM.out (by simpa using hq)) hh, by rw [List.length_append]; omega, by rw [getD_app _ _ _ _ hi2]; exact HX2.out⟩
                rw [hh] at HH
                clear hh
                go_wp2_with (first | (go_at_call 66; refine HH.out.mono ?_; rintro e w' ⟨rfl, rfl⟩) | (at_builtin; refine wpList_app1K rfl _ _ rfl _ lk2 rfl y _ HM3.out.a rfl ky (by omega) hs3 ?_))
                intro v3 w3 ho3 hk3 hsm3 hz3 hb3
                obtain ⟨ya, yc, rfl⟩ := ho3.shape1
                have HM4 := Lib.hid (HM3.out.grow ho3 hk3 (by omega) (Nat.le_succ _) hb3)
                have HB4' := Lib.hid (HB3.out.trans (hsm3.below (Nat.le_refl _) hs3))
                clear ho3 hk3 hsm3 hz3 hb3
                go_wp2
                go_roundw
                case rel => exact ⟨m + 1, _, by omega, by go_num, HN, HL3, HM4, HB4'⟩
                case measure => simp [intOf]; omega
              · have HN : Hid (learnAdd x lk2 (c.drop (m + 1)) = learnAdd x lk c) := by rw [Hid, ← H3.out, HD.out, learnAdd_keep (by rw [hh, Bool.or_true])]
                rw [hh] at HH
                clear hh
                go_wp2_with (go_at_call 66; refine HH.out.mono ?_; rintro e w' ⟨rfl, rfl⟩)
                go_roundw
                case rel => exact ⟨m + 1, lk2, by omega, by go_num, HN, HL2, HM3, HB3⟩
                case measure => simp [intOf]; omega
          · obtain rfl : m = c.length := by omega
            have e : lk2 = learnAdd x lk c := by
              have h1 := H3.out
              rw [drop_len _ _ (Nat.le_refl _)] at h1
              exact h1
            have HI2 : Hid (LearnInv f.letters U.known lk2 (i + 1) out) := by rw [e]; exact HIA.out
            have H4 : Hid (learnGo f.clauses U (11 - (i + 1)) (i + 1) lk2 out = learnOut f.clauses U) := by rw [e]; exact H2.out
            clear e
            go_wp2
            go_roundw
            case rel => exact ⟨i + 1, lk2, out, by go_num, HI2, H4, HM3, HB3⟩
            case measure => simp [intOf]; omega
    · have HO : Hid (learnOut f.clauses U = out) := by rw [Hid, ← HGo.out, learn_end hlt]
      have hol := HI.out.dist.len hL10
      have HBL := Lib.hid (byLetter_any _ out wr HM.out.b.rd (Nat.le_refl _) (fun z hz => by have := HI.out.dist.rng hL10 hz; omega) (by omega))
      have HIN : Hid (insUp ltL out.length out = srtL out) := insUp_all_srt HI.out.dist.2
      go_wp2_with fail
      refine HBL.out.mono ?_
      rintro e wf ⟨uf, rfl, hof, hbf⟩
      rw [HIN.out] at hof
      obtain ⟨fa, fc, rfl⟩ := hof.shape
      have HOF := Lib.hid hof
      have HBF := Lib.hid (HB5.out.trans ((HBr.out.trans (hbf.mono hsr)).mono hw24))
      clear hof hbf
      go_wp2
      go_ret2
      exact ⟨_, by rw [HE.out]; rfl, by rw [HE.out, HO.out]; exact HOF.out.mono (by omega) (Nat.le_refl _) (Nat.le_refl _), HBF.out⟩
end Go.Proofs.Ytcpbgjnijhcpkaa

namespace Go.Proofs.Ytcpbgjnijhcpkaa
open Go.RowKit
set_option linter.unusedVariables false
set_option maxRecDepth 100000

/-- the marks of the letters that lie in a list -/
def Marks (B : List Bool) (lk : List Int) : Prop := ∀ j : Nat, j < 11 → B.getD j false = hasL lk (j : Int)
theorem marks_nil : Marks (List.replicate 11 false) ([] : List Int) := fun j _ => by rw [replicate_getD]; rfl
theorem hasL_snoc (lk : List Int) (y a : Int) : hasL (lk ++ [y]) a = (hasL lk a || absI y == a) := by simp [hasL, List.any_append]
theorem marks_set {B : List Bool} {lk : List Int} {y : Int} {A : Nat} (h : Marks B lk) (hl : B.length = 11) (hA : absI y = (A : Int)) (hA2 : A < 11) : Marks (B.set A true) (lk ++ [y]) := by
  intro j hj
  rw [hasL_snoc, hA]
  by_cases e : j = A
  · subst e; simp [List.getD, hl, hA2]
  · have e' : ((A : Int) == (j : Int)) = false := by simp; omega
    rw [e', Bool.or_false, ← h j hj]
    simp only [List.getD, List.getElem?_set_ne (show A ≠ j by omega)]
section
variable {w w' : World} {lo q : Nat} {lv ov u : Value} {lk out zs : List Int}
theorem LearnM.other (h : LearnM w lo lv ov lk out) {p : Addr} (hp : p.block < lo) (u : Value) : LearnM (w.setCell p u) lo lv ov lk out :=
  ⟨h.a.setOther p u fun k e => by have := h.a.ge k e; omega, h.b.setOther p u fun k e => by have := h.b.ge k e; omega, h.ap⟩
theorem LearnM.newOut (h : LearnM w lo lv ov lk out) (hlo : lo ≤ w.heap.size) : LearnM (w.alloc (.cells #[] 2)) lo lv (.slice (some ⟨w.heap.size, 0, none⟩) 0 0) lk [] := by
  have hb : Below w.heap.size w (w.alloc (.cells #[] 2)) := alloc_below _ _
  have hs : (w.alloc (.cells #[] 2)).heap.size = w.heap.size + 1 := by simp
  refine ⟨(h.a.below hb (Nat.le_refl _)).mono (Nat.le_refl _) hb.size (Nat.le_refl _), (emptySlice w).mono hlo (by omega) (Nat.le_refl _), fun p hp e => ?_⟩
  have h1 := h.a.own.blk p hp
  simp [Value.ownBlock] at e
  omega
structure LearnQ (w : World) (q lo : Nat) (lv ov : Value) (lk so : List Int) (B : List Bool) : Prop where
  m : LearnM w lo lv ov lk so
  row : RowB w q q 11 11 B
  lt : q < lo
  seen : Marks B lk
theorem LearnQ.drew {B : List Bool} (h : LearnQ w q lo lv ov lk out B) (hd : Drew w w') : LearnQ w' q lo lv ov lk out B := ⟨h.m.drew hd, h.row.drew hd, h.lt, h.seen⟩
end
def learnMid (y x : Int) (c lk out : List Int) (p m : Nat) : List Int × List Int := if m ≤ p then (lk, out) else if y < 0 then (lk, out ++ [x]) else (learnAdd x lk c, out)
section
variable {y x : Int} {c lk out : List Int} {p m : Nat}
theorem mid_le (h : m ≤ p) : learnMid y x c lk out p m = (lk, out) := by rw [learnMid, if_pos h]
theorem mid_skip (h : m ≠ p) : learnMid y x c lk out p (m + 1) = learnMid y x c lk out p m := by
  unfold learnMid
  by_cases h1 : m ≤ p
  · rw [if_pos h1, if_pos (by omega)]
  · rw [if_neg h1, if_neg (by omega)]
theorem mid_given (h : p < m) (hy : y < 0) : learnMid y x c lk out p m = (lk, out ++ [x]) := by rw [learnMid, if_neg (by omega), if_pos hy]
theorem mid_more (h : p < m) (hy : ¬ y < 0) : learnMid y x c lk out p m = (learnAdd x lk c, out) := by rw [learnMid, if_neg (by omega), if_neg hy]
end
set_option maxHeartbeats 2000000 in
set_option maxRecDepth 100000 in
theorem specLearnFrom_any (w : World) {l h l' h' : Nat} (v : Value) (f : FormD) (v' : Value) (g : List Int) (hv : FormR w l h v f) (hh : h ≤ w.heap.size) (hz : SmallII f.clauses) (hv' : Ints w l' h' v' g) (hh' : h' ≤ w.heap.size) (hz' : g.length ≤ 1048576) :
    Calls Try.prog 18 #[v, v'] w fun e w' => ∃ r, e = .returned (.tuple #[r, .bool (learnF f g).2]) ∧ OwnI w' w.heap.size w'.heap.size r (learnF f g).1 ∧ Below w.heap.size w w' := by
  obtain ⟨u, rfl, hu⟩ := hv.ex
  have kL := hv.rng
  obtain ⟨a0, cap0, V0, e0, hcap1, hcap2, _, _⟩ := hu.out
  subst e0
  obtain ⟨ga, gcap, ge, gc1, gc2, _⟩ := hv'.out
  subst ge
  obtain ⟨W, hW⟩ : ∃ W, W = w.alloc (.cells #[.int .i64 f.letters, .slice a0 f.clauses.length cap0] 26) := ⟨_, rfl⟩
  have hsW : W.heap.size = w.heap.size + 1 := by rw [hW]; simp
  have hBW : Below w.heap.size w W := by rw [hW]; exact alloc_below _ _
  have hbx : TwoC W w.heap.size 26 (.int .i64 f.letters) (.slice a0 f.clauses.length cap0) := by rw [hW]; exact TwoC.new _ _ _ _
  have HF := Lib.hid (hv.below hBW hh)
  have HU := Lib.hid (hu.below hBW hh)
  have HG := Lib.hid (hv'.below hBW hh')
  have HB := Lib.hid hbx
  have HBW := Lib.hid hBW
  have hW1 : w.heap.size < W.heap.size := by omega
  have hhW : h ≤ W.heap.size := by omega
  have hhW' : h' ≤ W.heap.size := by omega
  have HZ := Lib.hid hz
  clear hu hv hv' hbx hBW hsW hz
  go_enter Try.func18, Try.ntmps18
  go_wp2_with fail
  rw [← hW]
  clear hW
  refine (l05Is_any W _ _ f HB.out.c0 HB.out.c1 hW1 kL HU.out hhW).mono ?_
  rintro e w2 ⟨rfl, hb2⟩
  have hs2 := hb2.size
  have hbx2 := HB.out.below hb2 hW1
  have q0 := hbx2.c0
  have q1 := hbx2.c1
  have HB2 := Lib.hid hbx2
  have HBW2 := Lib.hid (HBW.out.trans (hb2.mono (by omega)))
  have HG2 := Lib.hid (HG.out.below hb2 hhW')
  have HU2 := Lib.hid (HU.out.below hb2 hhW)
  clear hbx2 hb2
  cases hval : validForm f
  · have HE := Lib.hid (learn_no (f := f) (g := g) (by rw [hval]; rfl))
    go_wp2
    go_ret2
    exact ⟨_, by rw [HE.out]; rfl, by rw [HE.out]; exact OwnI.nil _ _ _ (Nat.le_refl _), HBW2.out⟩
  have bL := (validForm_bounds hval).1
  go_wp2_with fail
  refine (l05Lits_any f.letters _ g w2 bL HG2.out (by omega)).mono ?_
  rintro e w3 ⟨rfl, hb3⟩
  have hs3 := hb3.size
  clear q0 q1
  have hbx3 := HB2.out.below hb3 (by omega)
  have q0 := hbx3.c0
  have q1 := hbx3.c1
  have HB3 := Lib.hid hbx3
  have HBW3 := Lib.hid (HBW2.out.trans (hb3.mono (by omega)))
  have HG3 := Lib.hid (HG2.out.below hb3 (by omega))
  have HU3 := Lib.hid (HU2.out.below hb3 (by omega))
  clear hbx3 hb3
  cases hgv : litsGo f.letters [] g
  · have HE := Lib.hid (learn_no (f := f) (g := g) (by rw [hgv, Bool.and_false]))
    go_wp2
    go_ret2
    exact ⟨_, by rw [HE.out]; rfl, by rw [HE.out]; exact OwnI.nil _ _ _ (Nat.le_refl _), HBW3.out⟩
  have HVG : Hid ((validForm f && litsGo f.letters [] g) = true) := by rw [Hid, hgv, hval]; rfl
  have HEN := Lib.hid (learn_none HVG.out)
  have HEY := Lib.hid (learn_yes HVG.out)
  have HUN := Lib.hid (l05Units_any w3 f.letters _ _ f.clauses g bL.2 HU3.out (by omega) HZ.out (valid_lits hval) HG3.out (by omega) (cons_of_lits hgv))
  have HOK := Lib.hid (unitsF_ok (g := g) bL.2 (valid_lits hval) (cons_of_lits hgv))
  have HWY := Lib.hid (unitsF_why (g := g) (valid_lits hval))
  have HCC : Hid (∀ c ∈ f.clauses, Cons f.letters c) := fun c hc => cons_clause ((validForm_bounds hval).2.2 c hc)
  have hL10 : f.letters ≤ 10 := bL.2
  obtain ⟨U, hU⟩ : ∃ U, U = unitsF f.clauses g := ⟨_, rfl⟩
  rw [← hU] at HUN HOK HWY HEN HEY
  clear hval hgv hU HVG
  go_wp2_with fail
  refine HUN.out.mono ?_
  rintro e w4 ⟨vk, vb, rfl, hok, hob, hb4⟩
  obtain ⟨va, vc, rfl⟩ := hok.shape
  obtain ⟨ba, bc, rfl⟩ := hob.shape
  have hs4 := hb4.size
  have hB4 := HBW3.out.trans (hb4.mono (by omega))
  obtain ⟨W4, hW4⟩ : ∃ W, W = w4.alloc (.cells #[.slice va U.known.length vc, .slice ba U.why.length bc, .int .i64 U.wrong] 75) := ⟨_, rfl⟩
  have hsW4 : W4.heap.size = w4.heap.size + 1 := by rw [hW4]; simp
  have hBW4 : Below w4.heap.size w4 W4 := by rw [hW4]; exact alloc_below _ _
  have HT : Hid (TriC W4 w4.heap.size 75 (.slice va U.known.length vc) (.slice ba U.why.length bc) (.int .i64 U.wrong)) := by rw [Hid, hW4]; exact TriC.new _ _ _ _ _
  have HK4 := Lib.hid (hok.rd.below hBW4 (Nat.le_refl _))
  have HY4 := Lib.hid (hob.rd.below hBW4 (Nat.le_refl _))
  have HB5 : Hid (Below w.heap.size w W4) := hB4.trans (hBW4.mono (by omega))
  have hsz4 : w4.heap.size < W4.heap.size := by omega
  have hw24 : w.heap.size ≤ W4.heap.size := by omega
  have HU4 := Lib.hid ((HU3.out.below hb4 (by omega)).below hBW4 (by omega))
  have HB4 := Lib.hid ((HB3.out.below hb4 (by omega)).below hBW4 (by omega))
  have hwW4 : w.heap.size < W4.heap.size := by omega
  have hhW4 : h ≤ W4.heap.size := by omega
  clear hok hob hb4 hB4 hBW4 q0 q1
  by_cases hwr : U.wrong < 0
  · have HE := Lib.hid (HEN.out hwr)
    have c2 := HT.out.c2
    rw [hW4] at c2
    go_wp2
    go_ret2
    rw [← hW4]
    exact ⟨_, by rw [HE.out]; rfl, by rw [HE.out]; exact OwnI.nil _ _ _ (Nat.le_refl _), HB5.out⟩
  have HE := Lib.hid (HEY.out (by omega))
  obtain ⟨j, hj, hwj⟩ : ∃ j, ∃ h : j < f.clauses.length, U.wrong = (j : Int) := by
    rcases HOK.out.wrong with h1 | ⟨j, h1, h2, _⟩
    · omega
    · exact ⟨j, h1, h2⟩
  obtain ⟨HI0, HG0⟩ : Hid (LearnInv f.letters U.known f.clauses[j] 0 []) ∧ Hid (learnGo f.clauses U (11 - 0) 0 f.clauses[j] [] = learnOut f.clauses U) := learn_start hj hwj HWY.out HCC.out
  obtain ⟨fb, foff, rfl⟩ := HU4.out.addr (by omega)
  obtain ⟨Ws, hWs⟩ : ∃ W, W = W4.alloc (.cells (madeCells #[Value.bool false] 11) 4) := ⟨_, rfl⟩
  obtain ⟨W5, hW5⟩ : ∃ W, W = Ws.alloc (.cells #[] 2) := ⟨_, rfl⟩
  have hsWs : Ws.heap.size = w4.heap.size + 1 + 1 := by rw [hWs]; simp [hsW4]
  have hsW5 : W5.heap.size = w4.heap.size + 1 + 1 + 1 := by rw [hW5]; simp [hsWs]
  have hrow0 : RowB Ws (w4.heap.size + 1) (w4.heap.size + 1) 11 11 (List.replicate 11 false) := by
    rw [hWs, ← hsW4]; exact RowB.made (World.ownsRow_lit W4 _ 11 (Nat.le_refl _) (by simp [maxLen]) (by simp [size_madeCells]))
  have hBs : Below W4.heap.size W4 Ws := by rw [hWs]; exact alloc_below _ _
  have hB5' : Below Ws.heap.size Ws W5 := by rw [hW5]; exact alloc_below _ _
  have HB55 : Hid (Below W4.heap.size W4 W5) := hBs.trans (hB5'.mono (by omega))
  have HR5 : Hid (RowB W5 (w4.heap.size + 1) (w4.heap.size + 1) 11 11 (List.replicate 11 false)) := hrow0.below hB5' (by omega)
  have HO5 : Hid (OwnI W5 (w4.heap.size + 1 + 1) W5.heap.size (.slice (some ⟨w4.heap.size + 1 + 1, 0, none⟩) 0 0) []) := by
    rw [Hid, hsW5, ← hsWs]; rw [hW5]; exact emptySlice Ws
  obtain ⟨ka, kc, hck, hcl, hfb⟩ := HU4.out.cellAt hj
  have HCJ := Lib.hid (hcl.below HB55.out hhW4)
  have hjz := HZ.out.row hj
  have t2 : W5.cell? ⟨w4.heap.size, 2, none⟩ = some (.int .i64 (j : Int)) := by rw [(HT.out.below HB55.out hsz4).c2, hwj]
  have c1 := (HB4.out.below HB55.out hwW4).c1
  have hck5 : W5.cell? ⟨fb, foff + j, none⟩ = some (.slice ka f.clauses[j].length kc) := by rw [HB55.out.cell (p := ⟨fb, foff + j, none⟩) (show fb < W4.heap.size by omega)]; exact hck
  have hmk := l05Lits_made w4
  have t24 : W4.cell? ⟨w4.heap.size, 2, none⟩ = some (.int .i64 (j : Int)) := by rw [HT.out.c2, hwj]
  have HQ5 : Hid (W5 = ((w4.alloc (.cells #[.slice va U.known.length vc, .slice ba U.why.length bc, .int .i64 U.wrong] 75)).alloc (.cells (madeCells #[Value.bool false] 11) 4)).alloc (.cells #[] 2)) := by rw [Hid, hW5, hWs, hW4]
  rw [hW4] at t24
  rw [hW5, hWs, hW4] at t2 c1 hck5
  have hs5 : w4.heap.size + 1 + 1 ≤ W5.heap.size := by omega
  have hsz5 : W4.heap.size ≤ W5.heap.size := by omega
  have hq4 : W4.heap.size ≤ w4.heap.size + 1 := by omega
  have hq5 : w4.heap.size + 1 ≤ W4.heap.size := by omega
  have HB4W : Hid (W4.heap.size ≤ w4.heap.size + 1 + 1) := by rw [Hid]; omega
  have HCR : Hid (∀ z ∈ f.clauses[j], -10 ≤ z ∧ z ≤ 10 ∧ absI z < 11) := fun z hz => by
    have h1 := (HCC.out _ (List.getElem_mem hj)).rng hL10 hz
    have h2 := absI_le ((HCC.out _ (List.getElem_mem hj)).1 z hz)
    omega
  have hc10 := (HCC.out _ (List.getElem_mem hj)).len hL10
  obtain ⟨c0, hc0⟩ : ∃ c, c = f.clauses[j] := ⟨_, rfl⟩
  rw [← hc0] at HI0 HG0 HCJ HCR hjz hck5 hc10
  clear hwr hwj HEN HEY hcl hck hrow0 hBs hB5' hsWs hsW5 hsW4 hW5 hWs hW4 hc0
  go_wp2_with (at_builtin; rw [← HQ5.out]; refine wpList_appIs rfl _ _ rfl _ [] rfl HO5.out _ c0 rfl HCJ.out (by simp; omega) hs5 ?_)
  intro v6 w6 ho6 hsm6 hz6 _
  have HO6 : Hid (OwnI w6 (w4.heap.size + 1 + 1) w6.heap.size v6 c0) := by simpa [Hid] using ho6
  obtain ⟨qa, qc, rfl⟩ := HO6.out.shape
  have HR6 := Lib.hid (HR5.out.keep (hsm6.block (w4.heap.size + 1) (by omega) (by omega)))
  have HB6 : Hid (Below W4.heap.size W4 w6) := HB55.out.trans (hsm6.below HB4W.out hsz5)
  have hs6 : w4.heap.size + 1 + 1 ≤ w6.heap.size := Nat.le_trans hs5 hz6
  clear ho6 hsm6 hz6 t2 c1 hck5 hmk t24 HO5 HR5 HQ5 HCJ
  have HM6 : Hid (LearnM w6 (w4.heap.size + 1 + 1) (.slice qa c0.length qc) (.slice none 0 0) c0 []) := ⟨HO6.out, OwnI.nil _ _ _ (Nat.le_refl _), fun p _ e => by cases e⟩
  go_wp2_with fail
  go_loopw [42] (fun kv wr => ∃ (k : Nat) (B : List Bool), k ≤ c0.length ∧ kv = .int .i64 k ∧ Hid (Marks B (c0.take k)) ∧ Hid (LearnM wr (w4.heap.size + 1 + 1) (.slice qa c0.length qc) (.slice none 0 0) c0 []) ∧ Hid (RowB wr (w4.heap.size + 1) (w4.heap.size + 1) 11 11 B) ∧ Hid (Below W4.heap.size W4 wr) ∧ Hid (Below W4.heap.size w6 wr)) (fun kv _ => c0.length - (intOf kv).toNat)
  case atStart => exact ⟨0, _, Nat.zero_le _, rfl, Lib.hid marks_nil, HM6, HR6, HB6, Lib.hid (Below.refl _ _)⟩
  case round =>
    clear HM6 HR6 HB6
    obtain ⟨k, B, hk, rfl, HMk, HM, HR, HBr, HBr6⟩ := hrel
    by_cases hlt : k < c0.length
    · obtain ⟨x, hx⟩ : ∃ x, x = c0.getD k 0 := ⟨_, rfl⟩
      have hxr := HCR.out _ (getD_mem hlt)
      rw [← hx] at hxr
      obtain ⟨lb, loff, hqe, hlb, hlc⟩ := HM.out.a.rd.cellAt hlt
      subst hqe
      have hlk := hlc k hlt
      rw [← hx] at hlk
      obtain ⟨A, hA⟩ : ∃ A : Nat, absI x = (A : Int) := Int.eq_ofNat_of_zero_le (by unfold absI; split <;> omega)
      have hA2 : A < 11 := by omega
      have hl5 := fun wx => l05Letter_any x (by omega) (by omega) wx
      rw [hA] at hl5
      have Hl5 := Lib.hid hl5
      have HMk2 : Hid (Marks (B.set A true) (c0.take (k + 1))) := by
        have e : c0.take (k + 1) = c0.take k ++ [x] := by rw [List.take_succ_eq_append_getElem hlt, hx]; simp [List.getD, hlt]
        rw [Hid, e]; exact marks_set HMk.out HR.out.length hA hA2
      have hBA := HR.out.cell hA2
      have hfA := HR.out.frozen A
      have HM2 := Lib.hid (HM.out.other (p := ⟨w4.heap.size + 1, A, none⟩) (Nat.lt_succ_self _) (.bool true))
      have HR2 := Lib.hid (HR.out.stored A true)
      have HB2' := Lib.hid (HBr.out.setCell (p := ⟨w4.heap.size + 1, A, none⟩) hq4 (.bool true))
      have HB62 := Lib.hid (HBr6.out.setCell (p := ⟨w4.heap.size + 1, A, none⟩) hq4 (.bool true))
      clear hl5 hxr hx hlc hA
      go_wp2_with (go_at_call 69; refine (Hl5.out _).mono ?_; rintro e w' ⟨rfl, rfl⟩)
      go_roundw
      case rel => exact ⟨k + 1, _, by omega, by go_num, HMk2, HM2, HR2, HB2', HB62⟩
      case measure => simp [intOf]; omega
    · obtain rfl : k = c0.length := by omega
      rw [List.take_length] at HMk
      have HLW : Hid (w4.heap.size + 1 + 1 ≤ wr.heap.size) := Nat.le_trans hs6 HBr6.out.size
      have HM0 := Lib.hid (HM.out.newOut HLW.out)
      have HR0 := Lib.hid (HR.out.alloc (.cells #[] 2))
      have HB0 := Lib.hid (HBr.out.alloc HBr.out.size (.cells #[] 2))
      have HQ0 : Hid (LearnQ (wr.alloc (.cells #[] 2)) (w4.heap.size + 1) (w4.heap.size + 1 + 1) (.slice qa c0.length qc) (.slice (some ⟨wr.heap.size, 0, none⟩) 0 0) c0 (srtL []) B) := ⟨HM0.out, HR0.out, Nat.lt_succ_self _, HMk.out⟩
      clear HM HR HBr HM0 HR0 HMk
      go_wp2_with fail
      go_loopw [8, 10, 11] (fun lv ov iv wr => ∃ (i : Nat) (lk out : List Int) (B : List Bool), iv = .int .i64 i ∧ Hid (LearnInv f.letters U.known lk i out) ∧ Hid (learnGo f.clauses U (11 - i) i lk out = learnOut f.clauses U) ∧ Hid (LearnQ wr (w4.heap.size + 1) (w4.heap.size + 1 + 1) lv ov lk (srtL out) B) ∧ Hid (Below W4.heap.size W4 wr)) (fun _ _ iv _ => 11 - (intOf iv).toNat)
      case atStart => exact ⟨0, _, _, _, rfl, HI0, HG0, HQ0, HB0⟩
      case round =>
        clear HI0 HG0 HQ0 HB0
        obtain ⟨i, lk, out, B, rfl, HI, HGo, HQ, HBr⟩ := hrel
        have hl10 := HI.out.ok.cons.len hL10
        obtain ⟨la, lc, rfl⟩ := HQ.out.m.a.shape
        obtain ⟨oa, oc, rfl⟩ := HQ.out.m.b.shape
        by_cases hlt : i < lk.length
        · obtain ⟨x, hx⟩ : ∃ x, x = lk.getD i 0 := ⟨_, rfl⟩
          have hxm : -x ∈ U.known := by rw [hx]; exact HI.out.ok.opp _ (getD_mem hlt)
          have hxr := HI.out.ok.cons.rng hL10 (getD_mem hlt)
          rw [← hx] at hxr
          have hx1 := hxr.2.1
          have hx2 := hxr.2.2
          obtain ⟨p1, p2, p3⟩ := posI_spec hxm
          obtain ⟨p, hp⟩ : ∃ p, p = posI U.known (-x) := ⟨_, rfl⟩
          rw [← hp] at p1 p2 p3
          have hpu : ∀ m, m < U.known.length → m ≠ p → U.known.getD m 0 ≠ -x := fun m hm hne e => by
            have h1 := HOK.out.cons.getD_ne hm p1 hne
            rw [e, p2] at h1
            exact h1 rfl
          obtain ⟨y, hy⟩ : ∃ y, y = U.why.getD p 0 := ⟨_, rfl⟩
          have hpw : p < U.why.length := by rw [HOK.out.len]; exact p1
          obtain ⟨c, HCX⟩ : ∃ c : List Int, Hid (¬ y < 0 → ∃ j, ∃ h : j < f.clauses.length, y = (j : Int) ∧ f.clauses[j] = c ∧ OppOk U.known x c ∧ learnGo f.clauses U (11 - (i + 1)) (i + 1) (learnAdd x lk c) out = learnOut f.clauses U) := by
            by_cases h0 : y < 0
            · exact ⟨[], fun h => absurd h0 h⟩
            · have h1 := why_clause HOK.out HWY.out hxm (by rw [← hp, ← hy]; exact h0)
              rw [← hp, ← hy] at h1
              obtain ⟨j, h2, h3, h4⟩ := h1
              refine ⟨f.clauses[j], fun _ => ⟨j, h2, h3, rfl, h4, ?_⟩⟩
              rw [← HGo.out, learn_add hl10 hlt (by rw [← hx, ← hp, ← hy]; exact h0), ← hx, ← hp, ← hy, h3, Int.toNat_natCast, getD_get h2]
          have HTK : Hid (y < 0 → learnGo f.clauses U (11 - (i + 1)) (i + 1) lk (out ++ [x]) = learnOut f.clauses U) := fun h0 => by
            rw [← HGo.out, learn_take hl10 hlt (by rw [← hx, ← hp, ← hy]; exact h0), ← hx]
          have HL0 : Hid (LkOk f.letters U.known lk ∧ i < lk.length ∧ lk.getD i 0 = x) := ⟨HI.out.ok, hlt, hx.symm⟩
          have HX := Lib.hid hx
          have HP2 := Lib.hid p2
          have HPU := Lib.hid hpu
          have HY := Lib.hid hy
          have t0 := (HT.out.below HBr.out hsz4).c0
          clear hx hp hy hxm hxr p2 p3 hpu
          go_wp2_with fail
          clear t0
          go_loopw [8, 10, 63] (fun lv ov mv wr => ∃ (m : Nat) (lk2 out2 : List Int) (B : List Bool), m ≤ U.known.length ∧ mv = .int .i64 m ∧ Hid ((lk2, out2) = learnMid y x c lk out p m) ∧ Hid (LkOk f.letters U.known lk2 ∧ i < lk2.length ∧ lk2.getD i 0 = x) ∧ Hid (LearnQ wr (w4.heap.size + 1) (w4.heap.size + 1 + 1) lv ov lk2 (srtL out2) B) ∧ Hid (Below W4.heap.size W4 wr)) (fun _ _ mv _ => U.known.length - (intOf mv).toNat)
          case atStart => exact ⟨0, lk, out, B, Nat.zero_le _, rfl, Lib.hid (mid_le (Nat.zero_le _)).symm, HL0, HQ, HBr⟩
          case round =>
            clear HQ HBr HL0
            obtain ⟨m, lk2, out2, B, hm, rfl, HMD, HL2, HQ, HBr⟩ := hrel
            obtain ⟨hk2, hi2, hx2'⟩ := HL2.out
            have hl2 := hk2.cons.len hL10
            have HK2 := Lib.hid hk2
            have HX2 := Lib.hid hx2'
            obtain ⟨ra, rc, rfl⟩ := HQ.out.m.a.shape
            obtain ⟨sa, sc, rfl⟩ := HQ.out.m.b.shape
            have hkl := HOK.out.cons.len hL10
            clear hk2 hx2'
            by_cases hml : m < U.known.length
            · obtain ⟨z, hz⟩ : ∃ z, z = U.known.getD m 0 := ⟨_, rfl⟩
              obtain ⟨kb, koff, hkae, hkb, hkc⟩ := HK4.out.cellAt hml
              subst hkae
              have hkm := hkc m hml
              rw [← hz, ← HBr.out.cell (p := ⟨kb, koff + m, none⟩) (show kb < W4.heap.size by omega)] at hkm
              obtain ⟨lb, loff, hqe, hlb, hlc⟩ := HQ.out.m.a.rd.cellAt hi2
              subst hqe
              have hli := hlc i hi2
              rw [HX2.out] at hli
              have t0 := (HT.out.below HBr.out hsz4).c0
              have hzr := HOK.out.cons.rng hL10 (getD_mem hml)
              rw [← hz] at hzr
              have hz1 := hzr.2.1
              have hz2 := hzr.2.2
              by_cases hmp : m = p
              · obtain rfl : m = p := hmp
                have hzx : z = -x := by rw [hz]; exact HP2.out
                subst hzx
                have hne : (-x != -x) = false := by simp
                have HE2 : Hid (lk2 = lk ∧ out2 = out) := by
                  have h1 := HMD.out
                  rw [mid_le (Nat.le_refl _)] at h1
                  injection h1 with h1 h2
                  exact ⟨h1, h2⟩
                clear hz hkc hlc hzr
                go_wp2_with fail
                go_quiet (fail)
                obtain ⟨w1, hw1⟩ : ∃ w1, w1 = wr.drewN nq := ⟨_, rfl⟩
                rw [← hw1]
                have hD1 : Drew wr w1 := by rw [hw1]; exact Drew.one _ _
                have hli1 : w1.cell? ⟨lb, loff + i, none⟩ = some (.int .i64 x) := by rw [hD1.cell]; exact hli
                have HB1 : Hid (Below W4.heap.size W4 w1) := HBr.out.trans (hD1.below _)
                have HQ1 := Lib.hid (HQ.out.drew hD1)
                obtain ⟨yb, yoff, hyae, hyb, hyc⟩ := HY4.out.cellAt hpw
                subst hyae
                have hyr := hyc m hpw
                rw [← HY.out, ← HB1.out.cell (p := ⟨yb, yoff + m, none⟩) (show yb < W4.heap.size by omega)] at hyr
                have t1 := (HT.out.below HB1.out hsz4).c1
                have c1 := (HB4.out.below HB1.out hwW4).c1
                have hs1 := HB1.out.size
                clear hw1 hD1 hkm hli t0 hyc hne
                by_cases hw : y < 0
                · have H2 : Hid ((lk2, out2 ++ [x]) = learnMid y x c lk out m (m + 1)) := by rw [Hid, mid_given (Nat.lt_succ_self _) hw, HE2.out.1, HE2.out.2]
                  have HJN : Hid (joinN (srtL out2) x = (srtL (out2 ++ [x]), true)) := by
                    rw [Hid, HE2.out.2]; exact srtL_put HI.out.dist.2 (fun v hv => by rw [HX.out]; exact HI.out.fresh hlt v hv)
                  have hol := HI.out.dist.len hL10
                  rw [← HE2.out.2] at hol
                  have HJ := Lib.hid (l05JoinF_any w1 (lo := w4.heap.size + 1 + 1) _ (srtL out2) x HQ1.out.m.b HQ1.out.row.lt (by rw [srtL_len]; omega) (fun v hv => by
                    rw [srtL_mem, HE2.out.2] at hv
                    have h1 := HI.out.dist.rng hL10 hv
                    omega) hx1 hx2)
                  rw [HJN.out] at HJ
                  go_wp2_with fail
                  refine HJ.out.mono ?_
                  rintro e w2' ⟨u2, rfl, ho2, hbk2, hb2'⟩
                  obtain ⟨ua, uc, rfl⟩ := ho2.shape
                  have HQ2 : Hid (LearnQ w2' (w4.heap.size + 1) (w4.heap.size + 1 + 1) (.slice (some ⟨lb, loff, none⟩) lk2.length rc) (.slice ua (srtL (out2 ++ [x])).length uc) lk2 (srtL (out2 ++ [x])) B) :=
                    ⟨(HQ1.out.m.swap.called ho2 hb2' hbk2).swap, HQ1.out.row.below hb2' HQ1.out.row.lt, Nat.lt_succ_self _, HQ1.out.seen⟩
                  have HB2' : Hid (Below W4.heap.size W4 w2') := HB1.out.trans (hb2'.mono hs1)
                  clear ho2 hbk2 hb2'
                  go_wp2
                  go_roundw
                  case rel => exact ⟨m + 1, lk2, _, B, by omega, by go_num, H2, HL2, HQ2, HB2'⟩
                  case measure => simp [intOf]; omega
                · obtain ⟨jc, hjc, hyj, hcc, hop, hgo⟩ := HCX.out (by omega)
                  subst hyj
                  obtain ⟨ca, cc, hck4, hcl4, _⟩ := HU4.out.cellAt hjc
                  have hcz := HZ.out.row hjc
                  have hcon := HCC.out _ (List.getElem_mem hjc)
                  rw [hcc] at hck4 hcl4 hcz hcon
                  have hck : w1.cell? ⟨fb, foff + jc, none⟩ = some (.slice ca c.length cc) := by rw [HB1.out.cell (p := ⟨fb, foff + jc, none⟩) (show fb < W4.heap.size by omega)]; exact hck4
                  have HCRc : Hid (∀ z ∈ c, -10 ≤ z ∧ z ≤ 10 ∧ absI z < 11) := fun z hz => by
                    have h1 := hcon.rng hL10 hz
                    have h2 := absI_le (hcon.1 z hz)
                    omega
                  have HCL := Lib.hid hcl4
                  have HOP := Lib.hid hop
                  have H30 : Hid (learnAdd x lk2 (c.drop 0) = learnAdd x lk c) := by rw [Hid, HE2.out.1]; rfl
                  have HEND : Hid (∀ lk3, lk3 = learnAdd x lk c → (lk3, out2) = learnMid (jc : Int) x c lk out m (m + 1)) := fun lk3 e => by
                    rw [mid_more (Nat.lt_succ_self _) hw, e, HE2.out.2]
                  clear hck4 hcl4 hop hgo hcc hcon HCX
                  go_wp2_with fail
                  go_quiet (fail)
                  obtain ⟨w2', hw2⟩ : ∃ w1', w1' = w1.drewN nq := ⟨_, rfl⟩
                  rw [← hw2]
                  have hD2 : Drew w1 w2' := by rw [hw2]; exact Drew.one _ _
                  have HB2' : Hid (Below W4.heap.size W4 w2') := HB1.out.trans (hD2.below _)
                  have HQ2 := Lib.hid (HQ1.out.drew hD2)
                  clear hw2 hD2 hck hyr t1 c1 hli1
                  go_wp2_with fail
                  go_loopw [8, 103] (fun lv jv wr => ∃ (mm : Nat) (lk3 : List Int) (B3 : List Bool), mm ≤ c.length ∧ jv = .int .i64 mm ∧ Hid (learnAdd x lk3 (c.drop mm) = learnAdd x lk c) ∧ Hid (LkOk f.letters U.known lk3 ∧ i < lk3.length ∧ lk3.getD i 0 = x) ∧ Hid (LearnQ wr (w4.heap.size + 1) (w4.heap.size + 1 + 1) lv (.slice sa (srtL out2).length sc) lk3 (srtL out2) B3) ∧ Hid (Below W4.heap.size W4 wr)) (fun _ jv _ => c.length - (intOf jv).toNat)
                  case atStart => exact ⟨0, lk2, B, Nat.zero_le _, rfl, H30, HL2, HQ2, HB2'⟩
                  case round =>
                    clear H30 HQ2 HB2'
                    obtain ⟨mm, lk3, B3, hmm, rfl, H3, HL3, HQ3, HB3'⟩ := hrel
                    obtain ⟨hk3, hi3, hx3⟩ := HL3.out
                    have hl3 := hk3.cons.len hL10
                    have HK3 := Lib.hid hk3
                    have HX3 := Lib.hid hx3
                    obtain ⟨ta, tc, rfl⟩ := HQ3.out.m.a.shape
                    clear hk3 hx3
                    by_cases hcm : mm < c.length
                    · obtain ⟨v, hv⟩ : ∃ v, v = c.getD mm 0 := ⟨_, rfl⟩
                      have hvm : v ∈ c := by rw [hv]; exact getD_mem hcm
                      obtain ⟨cb, coff, hcae, hcb, hcc2⟩ := HCL.out.cellAt hcm
                      subst hcae
                      have hcv4 := hcc2 mm hcm
                      rw [← hv] at hcv4
                      have HCV := Lib.hid hcv4
                      have hcv : wr.cell? ⟨cb, coff + mm, none⟩ = some (.int .i64 v) := by rw [HB3'.out.cell (p := ⟨cb, coff + mm, none⟩) (show cb < W4.heap.size by omega)]; exact hcv4
                      obtain ⟨tb, toff, hte, htb, htc⟩ := HQ3.out.m.a.rd.cellAt hi3
                      subst hte
                      have hti := htc i hi3
                      rw [HX3.out] at hti
                      have HD : Hid (c.drop mm = v :: c.drop (mm + 1)) := by rw [Hid, drop_cons c mm hcm, hv]; simp [List.getD, hcm]
                      have hvr := HCRc.out v hvm
                      have hv1 := hvr.1
                      have hv2 := hvr.2.1
                      have kv : I64 v := by unfold I64; omega
                      obtain ⟨A, hA⟩ : ∃ A : Nat, absI v = (A : Int) := Int.eq_ofNat_of_zero_le (by unfold absI; split <;> omega)
                      have hA2 : A < 11 := by omega
                      have hl5 := fun wx => l05Letter_any v (by omega) (by omega) wx
                      rw [hA] at hl5
                      have Hl5 := Lib.hid hl5
                      have HVM := Lib.hid hvm
                      have HA := Lib.hid hA
                      clear hl5 hcv4 htc hcc2 hv hvm hvr hA
                      cases hq : (v != -x)
                      · have HN : Hid (learnAdd x lk3 (c.drop (mm + 1)) = learnAdd x lk c) := by
                          have h1 : (v == -x) = true := by simpa [bne] using hq
                          rw [Hid, ← H3.out, HD.out, learnAdd_keep (by rw [h1]; rfl)]
                        go_wp2_with fail
                        go_quiet (fail)
                        have HQ4 := Lib.hid (HQ3.out.drew (Drew.one wr nq))
                        have HB4' : Hid (Below W4.heap.size W4 (wr.drewN nq)) := HB3'.out.trans ((Drew.one wr nq).below _)
                        go_wp2
                        go_roundw
                        case rel => exact ⟨mm + 1, lk3, B3, by omega, by go_num, HN, HL3, HQ4, HB4'⟩
                        case measure => simp [intOf]; omega
                      · have HQN : Hid ((v == -x) = false) := by simpa [Hid, bne] using hq
                        have HVK : Hid (-v ∈ U.known) := HOP.out v HVM.out (by simpa using hq)
                        have hBA := HQ3.out.row.cell hA2
                        have hse : B3.getD A false = hasI lk3 v := by rw [HQ3.out.seen A hA2, ← HA.out, HK3.out.seen HOK.out.cons HVK.out]
                        rw [hse] at hBA
                        clear hse
                        cases hh : hasI lk3 v
                        · have HN : Hid (learnAdd x (lk3 ++ [v]) (c.drop (mm + 1)) = learnAdd x lk c) := by rw [Hid, ← H3.out, HD.out, learnAdd_put (by rw [HQN.out, hh]; rfl)]
                          have HL4 : Hid (LkOk f.letters U.known (lk3 ++ [v]) ∧ i < (lk3 ++ [v]).length ∧ (lk3 ++ [v]).getD i 0 = x) :=
                            ⟨HK3.out.snoc HOK.out.cons HVK.out hh, by rw [List.length_append]; omega, by rw [getD_app _ _ _ _ hi3]; exact HX3.out⟩
                          rw [hh] at hBA
                          have HMS : Hid (Marks (B3.set A true) (lk3 ++ [v])) := marks_set HQ3.out.seen HQ3.out.row.length HA.out hA2
                          clear hh
                          go_wp2_with fail
                          go_quiet ((go_at_call 69; exact quiet_same (Hl5.out _)))
                          obtain ⟨w7, hw7⟩ : ∃ w7, w7 = wr.drewN nq := ⟨_, rfl⟩
                          rw [← hw7]
                          have hD7 : Drew wr w7 := by rw [hw7]; exact Drew.one _ _
                          have HB7 : Hid (Below W4.heap.size W4 w7) := HB3'.out.trans (hD7.below _)
                          have HQ7 := Lib.hid (HQ3.out.drew hD7)
                          have hcv7 : w7.cell? ⟨cb, coff + mm, none⟩ = some (.int .i64 v) := by rw [hD7.cell]; exact hcv
                          have hBA7 : w7.cell? ⟨w4.heap.size + 1, A, none⟩ = some (.bool false) := by rw [hD7.cell]; exact hBA
                          have hfA := HQ7.out.row.frozen A
                          have HB8 := Lib.hid (HB7.out.setCell (p := ⟨w4.heap.size + 1, A, none⟩) hq4 (.bool true))
                          have hcv8 : (w7.setCell ⟨w4.heap.size + 1, A, none⟩ (.bool true)).cell? ⟨cb, coff + mm, none⟩ = some (.int .i64 v) := by rw [HB8.out.cell (p := ⟨cb, coff + mm, none⟩) (show cb < W4.heap.size by omega)]; exact HCV.out
                          have HM8 := Lib.hid (HQ7.out.m.other (p := ⟨w4.heap.size + 1, A, none⟩) (Nat.lt_succ_self _) (.bool true))
                          have HR8 := Lib.hid (HQ7.out.row.stored A true)
                          have HSE : Hid ((w7.setCell ⟨w4.heap.size + 1, A, none⟩ (.bool true)).heap.size = w7.heap.size) := by simp [Hid, World.setCell]
                          have hs8 : w4.heap.size + 1 + 1 ≤ (w7.setCell ⟨w4.heap.size + 1, A, none⟩ (.bool true)).heap.size := by rw [HSE.out]; exact HQ7.out.row.lt
                          have HS8 := Lib.hid hs8
                          clear hw7 hD7 hcv hBA hti hs8
                          go_wp2_with (first | (go_at_call 69; refine (Hl5.out _).mono ?_; rintro e w' ⟨rfl, rfl⟩) | (at_builtin; refine wpList_app1K rfl _ _ rfl _ lk3 rfl v _ HM8.out.a (by rw [HSE.out]; rfl) kv (by omega) HS8.out ?_))
                          intro v9 w9 ho9 hk9 hsm9 hz9 hb9
                          obtain ⟨ya, yc, rfl⟩ := ho9.shape1
                          have HB9 : Hid (Below W4.heap.size W4 w9) := HB8.out.trans (hsm9.below HB4W.out (Nat.le_trans HB4W.out HS8.out))
                          have hk9' : ∀ k, k < (w7.setCell ⟨w4.heap.size + 1, A, none⟩ (.bool true)).heap.size → (Value.slice (some ⟨tb, toff, none⟩) lk3.length tc).ownBlock ≠ some k → w9.heap[k]? = (w7.setCell ⟨w4.heap.size + 1, A, none⟩ (.bool true)).heap[k]? := fun k hk hn => hk9 k (by rw [HSE.out] at hk; exact hk) hn
                          have HQ9 : Hid (LearnQ w9 (w4.heap.size + 1) (w4.heap.size + 1 + 1) (.slice ya (lk3.length + 1) yc) (.slice sa (srtL out2).length sc) (lk3 ++ [v]) (srtL out2) (B3.set A true)) :=
                            ⟨HM8.out.grow ho9 hk9' (by rw [HSE.out]; omega) (by rw [HSE.out]; exact Nat.le_succ _) hb9, HR8.out.keep (hk9' (w4.heap.size + 1) HR8.out.lt (fun e => by have := HM8.out.a.ge _ e; omega)), Nat.lt_succ_self _, HMS.out⟩
                          clear ho9 hk9 hk9' hsm9 hz9 hb9 hcv7 hBA7 hcv8 hfA
                          go_wp2
                          go_roundw
                          case rel => exact ⟨mm + 1, _, _, by omega, by go_num, HN, HL4, HQ9, HB9⟩
                          case measure => simp [intOf]; omega
                        · have HN : Hid (learnAdd x lk3 (c.drop (mm + 1)) = learnAdd x lk c) := by rw [Hid, ← H3.out, HD.out, learnAdd_keep (by rw [hh, Bool.or_true])]
                          rw [hh] at hBA
                          clear hh
                          go_wp2_with fail
                          go_quiet ((go_at_call 69; exact quiet_same (Hl5.out _)))
                          have HQ4 := Lib.hid (HQ3.out.drew (Drew.one wr nq))
                          have HB4' : Hid (Below W4.heap.size W4 (wr.drewN nq)) := HB3'.out.trans ((Drew.one wr nq).below _)
                          go_wp2
                          go_roundw
                          case rel => exact ⟨mm + 1, lk3, B3, by omega, by go_num, HN, HL3, HQ4, HB4'⟩
                          case measure => simp [intOf]; omega
                    · obtain rfl : mm = c.length := by omega
                      have e : lk3 = learnAdd x lk c := by
                        have h1 := H3.out
                        rw [drop_len _ _ (Nat.le_refl _)] at h1
                        exact h1
                      have H4 := Lib.hid (HEND.out lk3 e)
                      clear e
                      go_wp2
                      go_roundw
                      case rel => exact ⟨m + 1, lk3, out2, B3, by omega, by go_num, H4, HL3, HQ3, HB3'⟩
                      case measure => simp [intOf]; omega
              · have hne : (z != -x) = true := by
                  have h1 := HPU.out m hml hmp
                  rw [← hz] at h1
                  simpa using h1
                have H2 : Hid ((lk2, out2) = learnMid y x c lk out p (m + 1)) := by rw [Hid, mid_skip hmp]; exact HMD.out
                clear hz hkc hlc hzr hmp
                go_wp2_with fail
                go_quiet (fail)
                have HQ1 := Lib.hid (HQ.out.drew (Drew.one wr nq))
                have HB1 : Hid (Below W4.heap.size W4 (wr.drewN nq)) := HBr.out.trans ((Drew.one wr nq).below _)
                go_wp2
                go_roundw
                case rel => exact ⟨m + 1, lk2, out2, B, by omega, by go_num, H2, HL2, HQ1, HB1⟩
                case measure => simp [intOf]; omega
            · obtain rfl : m = U.known.length := by omega
              have HN : Hid (LearnInv f.letters U.known lk2 (i + 1) out2 ∧ learnGo f.clauses U (11 - (i + 1)) (i + 1) lk2 out2 = learnOut f.clauses U) := by
                have h1 := HMD.out
                by_cases hw : y < 0
                · rw [mid_given p1 hw] at h1
                  injection h1 with h1 h2
                  rw [h1, h2]
                  exact ⟨by rw [HX.out]; exact HI.out.take hlt, HTK.out hw⟩
                · rw [mid_more p1 hw] at h1
                  injection h1 with h1 h2
                  obtain ⟨jc, hjc, hyj, hcc, hop, hgo⟩ := HCX.out (by omega)
                  rw [h1, h2]
                  exact ⟨HI.out.add HOK.out.cons hlt hop, hgo⟩
              obtain ⟨HN1, HN2⟩ : Hid (LearnInv f.letters U.known lk2 (i + 1) out2) ∧ Hid (learnGo f.clauses U (11 - (i + 1)) (i + 1) lk2 out2 = learnOut f.clauses U) := HN.out
              clear HN
              go_wp2
              go_roundw
              case rel => exact ⟨i + 1, lk2, out2, B, by go_num, HN1, HN2, HQ, HBr⟩
              case measure => simp [intOf]; omega
        · have HO : Hid (learnOut f.clauses U = out) := by rw [Hid, ← HGo.out, learn_end hlt]
          go_wp2
          go_ret2
          exact ⟨_, by rw [HE.out]; rfl, by rw [HE.out, HO.out]; exact HQ.out.m.b.mono (by omega) (Nat.le_refl _) (Nat.le_refl _), HB5.out.trans (HBr.out.mono hw24)⟩
end Go.Proofs.Ytcpbgjnijhcpkaa

namespace Go.Proofs.Ytcpbgjnijhcpkaa
open Go.RowKit
set_option linter.unusedVariables false
set_option maxRecDepth 100000

theorem OwnI.shape2 {w : World} {lo hi : Nat} {v : Value} {zs : List Int} (h : OwnI w lo hi v zs) : ∃ a cap, v = .slice a zs.length cap := by
  obtain ⟨a, cap, e, _⟩ := h.rd.out
  exact ⟨a, cap, e⟩
def lenV : Value → Nat
  | .slice _ n _ => n
  | _ => 0
theorem oneSliceW (w : World) (x : Int) (hx : I64 x) : OwnI (w.alloc (.cells #[.int .i64 x] 2)) w.heap.size (w.heap.size + 1) (.slice (some ⟨w.heap.size, 0, none⟩) 1 1) [x] :=
  ⟨⟨World.ownsRow_lit w #[.int .i64 x] 1 (Nat.le_refl _) (by simp [maxLen]) (by simp), fun k e => by simp [Value.ownBlock] at e; omega, by simp⟩, by simpa using hx, by simp⟩
theorem cell_new_at (w : World) (cs : Array Value) (e : TypeId) (j : Nat) (hj : j < cs.size) : (w.alloc (.cells cs e)).cell? ⟨w.heap.size, j, none⟩ = some cs[j] := by
  rw [World.cell?_alloc_at _ _ _ _ rfl]
  simp [hj]
theorem wpList_app2 {w : World} {ops : Array Oper} {rest : List Oper} {o : Oper} {a : Act} {Q : Exit → Act → World → Prop} (hgd : o.guard = none) (s x : Operand)
    (ho : o.op = .call { callee := .builtin .append, args := #[s, x], argTypes := #[34, 34] })
    {lo hi : Nat} (v : Value) (xs : List Int) (hs : a.eval s = v) (y z : Int) (e : TypeId) (hv : OwnI w lo hi v xs) (hx : a.eval x = .slice (some ⟨w.heap.size, 0, none⟩) 2 2)
    (hy : I64 y) (hz : I64 z) (hl : xs.length + 2 ≤ 1099511627776) (hlo : lo ≤ w.heap.size)
    (h : ∀ v' w', OwnI w' lo w'.heap.size v' (xs ++ [y, z]) → Same lo hi w w' → w.heap.size + 1 ≤ w'.heap.size → (v'.ownBlock = v.ownBlock ∨ v'.ownBlock = some (w.heap.size + 1)) → wpList Try.prog ops Q rest (a.put o.dst v') w') :
    wpList Try.prog ops Q (o :: rest) a (w.alloc (.cells #[.int .i64 y, .int .i64 z] e)) := by
  refine wpList_appI hgd s x ho v xs hs (hv.alloc _) [y, z] ⟨w.heap.size, 0, none⟩ 2 hx (by simp) (by intro q hq; simp at hq; rcases hq with rfl | rfl <;> assumption) ?_ (by simpa using hl) (by simp; omega) ?_
  · intro j hj
    have hj0 : j = 0 ∨ j = 1 := by simp at hj; omega
    rcases hj0 with rfl | rfl
    · rw [add_zero_plain]
      exact cell_new_at w #[.int .i64 y, .int .i64 z] e 0 (by simp)
    · have : (⟨w.heap.size, 0, none⟩ : Addr).add 1 = ⟨w.heap.size, 1, none⟩ := by unfold Addr.add; simp
      rw [this]
      exact cell_new_at w #[.int .i64 y, .int .i64 z] e 1 (by simp)
  · intro v' w' h1 h2 h3 h4
    simp only [World.size_alloc] at h3 h4
    exact h v' w' h1 (((Same.refl lo hi w).alloc _).trans h2) h3 h4
theorem wpList_app2K {w : World} {ops : Array Oper} {rest : List Oper} {o : Oper} {a : Act} {Q : Exit → Act → World → Prop} (hgd : o.guard = none) (s x : Operand)
    (ho : o.op = .call { callee := .builtin .append, args := #[s, x], argTypes := #[34, 34] })
    {lo hi : Nat} (v : Value) (xs : List Int) (hs : a.eval s = v) (y z : Int) (e : TypeId) (hv : OwnI w lo hi v xs) (hx : a.eval x = .slice (some ⟨w.heap.size, 0, none⟩) 2 2)
    (hy : I64 y) (hz' : I64 z) (hl : xs.length + 2 ≤ 1099511627776) (hlo : lo ≤ w.heap.size)
    (h : ∀ v' w', OwnI w' lo w'.heap.size v' (xs ++ [y, z]) → (∀ k, k < w.heap.size → v.ownBlock ≠ some k → w'.heap[k]? = w.heap[k]?) → Same lo hi w w' → w.heap.size + 1 ≤ w'.heap.size → (v'.ownBlock = v.ownBlock ∨ v'.ownBlock = some (w.heap.size + 1)) → wpList Try.prog ops Q rest (a.put o.dst v') w') :
    wpList Try.prog ops Q (o :: rest) a (w.alloc (.cells #[.int .i64 y, .int .i64 z] e)) := by
  obtain ⟨p, q, hn, hpq⟩ := hv.narrow2
  have hz := hv.own.hsz
  have hn2 := hn.own.hsz
  refine wpList_app2 hgd s x ho v xs hs y z e hn hx hy hz' hl (by rcases hpq with ⟨_, rfl, _⟩ | ⟨_, rfl, h1, h2⟩ <;> omega) ?_
  intro v' w' h1 h2 h3 h4
  have hkeep : ∀ k, k < w.heap.size → v.ownBlock ≠ some k → w'.heap[k]? = w.heap[k]? := by
    intro k hk hne
    refine h2.block k hk fun hx' => ?_
    rcases hpq with ⟨_, rfl, rfl⟩ | ⟨e1, rfl, _, _⟩
    · omega
    · exact hne (by rw [e1]; congr 1; omega)
  refine h v' w' (h1.widen2 (Nat.le_refl _) fun k hk => ⟨?_, (h1.own.row.lt k hk).2⟩) hkeep ?_ h3 h4
  · rcases h4 with h4 | h4
    · rw [h4] at hk; exact (hv.own.row.lt k hk).1
    · rw [h4] at hk; cases hk; omega
  · rcases hpq with ⟨_, rfl, rfl⟩ | ⟨e1, rfl, g1, g2⟩
    · exact ⟨h2.os, h2.tape, h2.output, h2.size, fun k hk _ => h2.block k hk (by omega)⟩
    · exact h2.mono g1 (by omega)
/-- two own slices stay apart when one has grown -/
theorem apart_grow {w : World} {v v' u : Value} {B : Nat} (ha : ∀ p, u.ownBlock = some p → v.ownBlock ≠ some p) (hu : ∀ p, u.ownBlock = some p → p < B) (h : v'.ownBlock = v.ownBlock ∨ v'.ownBlock = some (B + 1)) : ∀ p, u.ownBlock = some p → v'.ownBlock ≠ some p := by
  intro p hp e
  rcases h with h | h
  · exact ha p hp (h ▸ e)
  · rw [h] at e; cases e; have := hu _ hp; omega
end Go.Proofs.Ytcpbgjnijhcpkaa

namespace Go.Proofs.Ytcpbgjnijhcpkaa
open Go.ChangeShapes Go.WideShapes Go.ChangeAt Go.RowKit
set_option linter.unusedVariables false
set_option maxRecDepth 100000

theorem own_knob : ownKnob Try.prog.godebug = none := by kernel_rfl
theorem laid_out : laidOutB Try.prog = true := by kernel_rfl
theorem I64_of_wf {n : Int} (h : (Lit.int .i64 n).wf = true) : I64 n := by
  simpa [I64, Lit.wf, IntKind.min, IntKind.max, IntKind.signed, IntKind.bits] using h
theorem addr_of_cell {w : World} {x : Addr} {v : Value} (h : w.cell? x = some v) : x = ⟨x.block, x.off, none⟩ ∧ x.block < w.heap.size := by
  obtain ⟨b, off, spot⟩ := x
  have hs : spot = none := by simpa using World.cell?_spot h
  subst hs
  exact ⟨rfl, World.block_lt_of_cell? w _ h⟩
theorem add_plain (b off i : Nat) : (⟨b, off, none⟩ : Addr).add i = ⟨b, off + i, none⟩ := by unfold Addr.add; split <;> simp_all
set_option maxRecDepth 100000 in
theorem open_I {H : Type} {enc : TypeId × Value → H} {W : World} {base : Nat} {v : Value} {d : DataW H} {p : List MemPlace}
    (hv : Value.okWide Try.prog W .any base 34 v) (h : DataW.Trod enc Try.prog W 0 (fun _ => true) true 34 v d p) : ∃ zs, Ints W 0 W.heap.size v zs := by
  obtain ⟨a, len, cap, rfl⟩ := okWide_slice Try.underlying34 hv
  obtain ⟨fuel, hf⟩ := h
  rcases open_ints Try.underlying34 Try.underlying2 (by kernel_rfl) hf with ⟨hcs, _⟩ | ⟨x, l, c, zs, hcs, _, hl, hm, hz, _, hcell, hwz⟩
  · simp [Value.cells] at hcs
    obtain ⟨rfl, rfl, rfl⟩ := hcs
    exact ⟨[], Ints.nil _ _ _⟩
  · simp [Value.cells] at hcs
    obtain ⟨rfl, rfl, rfl⟩ := hcs
    simp only [if_true] at hz
    have e : (zs.take len).length = len := by rw [List.length_take]; omega
    refine ⟨zs.take len, ⟨⟨some x, cap, by rw [e], by omega, by simpa [maxLen] using hm, ?_⟩, fun n hn => I64_of_wf (hwz n (List.mem_of_mem_take hn))⟩⟩
    rw [e]
    by_cases h0 : len = 0
    · exact .inl h0
    · have hc0 := hcell 0 (by omega)
      have hx : x.add 0 = x := by unfold Addr.add; simp
      rw [hx] at hc0
      obtain ⟨hxe, hxb⟩ := addr_of_cell hc0
      refine .inr ⟨x.block, x.off, by rw [← hxe], Nat.zero_le _, hxb, Nat.le_refl _, fun i hi => ?_⟩
      have := hcell i (by omega)
      rw [hxe, add_plain] at this
      rw [this]
      simp [List.getD, show i < len by omega]
end Go.Proofs.Ytcpbgjnijhcpkaa

namespace Go.Proofs.Ytcpbgjnijhcpkaa
open Go.ChangeShapes Go.WideShapes Go.ChangeAt Go.RowKit
set_option linter.unusedVariables false
set_option maxRecDepth 100000

theorem U8_of_wf {n : Int} (h : (Lit.int .u8 n).wf = true) : 0 ≤ n ∧ n ≤ 255 := by
  simpa [Lit.wf, IntKind.min, IntKind.max, IntKind.signed, IntKind.bits] using h
set_option maxRecDepth 100000 in
theorem open_Y {H : Type} {enc : TypeId × Value → H} {W : World} {base : Nat} {v : Value} {d : DataW H} {p : List MemPlace}
    (hv : Value.okWide Try.prog W .any base 22 v) (h : DataW.Trod enc Try.prog W 0 (fun _ => true) true 22 v d p) : ∃ zs, Byts W 0 W.heap.size v zs := by
  obtain ⟨a, len, cap, rfl⟩ := okWide_slice Try.underlying22 hv
  obtain ⟨fuel, hf⟩ := h
  rcases open_ints Try.underlying22 Try.underlying5 (by kernel_rfl) hf with ⟨hcs, _⟩ | ⟨x, l, c, zs, hcs, _, hl, hm, hz, _, hcell, hwz⟩
  · simp [Value.cells] at hcs
    obtain ⟨rfl, rfl, rfl⟩ := hcs
    exact ⟨[], ⟨⟨none, 0, rfl, Nat.le_refl _, by decide, .inl rfl⟩, by simp⟩⟩
  · simp [Value.cells] at hcs
    obtain ⟨rfl, rfl, rfl⟩ := hcs
    simp only [if_true] at hz
    have e : (zs.take len).length = len := by rw [List.length_take]; omega
    refine ⟨zs.take len, ⟨⟨some x, cap, by rw [e], by omega, by simpa [maxLen] using hm, ?_⟩, fun n hn => U8_of_wf (hwz n (List.mem_of_mem_take hn))⟩⟩
    rw [e]
    by_cases h0 : len = 0
    · exact .inl h0
    · have hc0 := hcell 0 (by omega)
      have hx : x.add 0 = x := by unfold Addr.add; simp
      rw [hx] at hc0
      obtain ⟨hxe, hxb⟩ := addr_of_cell hc0
      refine .inr ⟨x.block, x.off, by rw [← hxe], Nat.zero_le _, hxb, Nat.le_refl _, fun i hi => ?_⟩
      have := hcell i (by omega)
      rw [hxe, add_plain] at this
      rw [this]
      simp [List.getD, show i < len by omega]
end Go.Proofs.Ytcpbgjnijhcpkaa

namespace Go.Proofs.Ytcpbgjnijhcpkaa
open Go.RowKit
set_option linter.unusedVariables false
set_option maxRecDepth 100000

def RisD (S : List Int) : Prop := S.Pairwise fun x y => absI x < absI y
theorem risesD {L : Int} {c : List Int} : ∀ {p : Int}, (∀ x ∈ c, isLit L x = true) → RisD c → (∀ x ∈ c, p < absI x) → risesFrom L p c = true := by
  induction c with
  | nil => intro p _ _ _; rfl
  | cons x r ih =>
    intro p h1 h2 h3
    rw [risesFrom, h1 x (List.mem_cons_self ..), decide_eq_true (h3 x (List.mem_cons_self ..)), ih (fun y hy => h1 y (List.mem_cons_of_mem _ hy)) (List.pairwise_cons.1 h2).2 (fun y hy => (List.pairwise_cons.1 h2).1 y hy)]
    rfl
theorem clauseD {L : Int} {c : List Int} (hL : inB 1 10 L = true) (h1 : ∀ x ∈ c, isLit L x = true) (h2 : RisD c) : isClause L c = true := by
  rw [isClause, hL, Bool.true_and]
  exact risesD h1 h2 (fun x hx => by have := isLit_iff.1 (h1 x hx); unfold absI; split <;> omega)
/-- a clause of letters below x -/
def Cl (L : Int) (x : Nat) (c : List Int) : Prop := (∀ y ∈ c, isLit L y = true) ∧ RisD c ∧ ∀ y ∈ c, absI y < x
theorem Cl.nil (L : Int) (x : Nat) : Cl L x [] := ⟨by simp, List.Pairwise.nil, by simp⟩
theorem Cl.up {L : Int} {x : Nat} {c : List Int} (h : Cl L x c) : Cl L (x + 1) c := ⟨h.1, h.2.1, fun y hy => by have := h.2.2 y hy; omega⟩
theorem absI_nat (x : Nat) : absI (x : Int) = x ∧ absI (-(x : Int)) = x := by unfold absI; constructor <;> split <;> omega
theorem Cl.snoc {L : Int} {x : Nat} {c : List Int} (h : Cl L x c) (hx1 : 1 ≤ x) (hx2 : (x : Int) ≤ L) {y : Int} (hy : y = (x : Int) ∨ y = -(x : Int)) : Cl L (x + 1) (c ++ [y]) := by
  have ha : absI y = x := by rcases hy with rfl | rfl; exact (absI_nat x).1; exact (absI_nat x).2
  refine ⟨?_, ?_, ?_⟩
  · intro z hz
    rcases List.mem_append.1 hz with hz | hz
    · exact h.1 z hz
    · obtain rfl := List.mem_singleton.1 hz
      exact isLit_iff.2 (by rcases hy with rfl | rfl <;> omega)
  · refine List.pairwise_append.2 ⟨h.2.1, List.pairwise_singleton _ _, fun a ha' b hb => ?_⟩
    obtain rfl := List.mem_singleton.1 hb
    rw [ha]; exact h.2.2 a ha'
  · intro z hz
    rcases List.mem_append.1 hz with hz | hz
    · have := h.2.2 z hz; omega
    · obtain rfl := List.mem_singleton.1 hz
      rw [ha]; omega
/-- a change of new blocks alone is a change of block q and of new blocks -/
theorem Same.mono_old {lo hi q : Nat} {a w w' : World} (h : Same lo hi w w') (hq : q < lo) (hl : a.heap.size ≤ w.heap.size) (hlo : lo = a.heap.size) (ha : Same q (q + 1) a w) : Same q (q + 1) a w' :=
  ⟨h.os.trans ha.os, h.tape.trans ha.tape, h.output.trans ha.output, Nat.le_trans ha.size h.size, fun k hk hn => (h.block k (by omega) (by omega)).trans (ha.block k hk hn)⟩
theorem Same.after {lo hi l r : Nat} {a w w' : World} (ha : Same l r a w) (h : Same lo hi w w') (hlo : a.heap.size ≤ lo) : Same l r a w' :=
  ⟨h.os.trans ha.os, h.tape.trans ha.tape, h.output.trans ha.output, Nat.le_trans ha.size h.size, fun k hk hn => (h.block k (by have := ha.size; omega) (by omega)).trans (ha.block k hk hn)⟩
set_option maxHeartbeats 2000000 in
set_option maxRecDepth 100000 in
theorem l05DrawClause_any {q n : Nat} (L M : Nat) (w : World) (hq : SrcC w q n) (hn : n ≤ 1000000) (hL1 : 1 ≤ L) (hL2 : L ≤ 10) (hM : M ≤ 10) :
    Calls Try.prog 107 #[.pointer (some ⟨q, 0, none⟩), .int .i64 L, .int .i64 M] w fun e w' => ∃ u c, e = .returned u ∧ OwnI w' w.heap.size w'.heap.size u c ∧ isClause L c = true ∧ c.length ≤ M ∧ SrcC w' q (n + 2 * L) ∧ Same q (q + 1) w w' := by
  have hqw := hq.lt
  have h0 := emptySlice w
  have HQ0 := Lib.hid (hq.alloc (.cells #[] 2))
  have HS0 := Lib.hid ((Same.refl q (q + 1) w).alloc (.cells #[] 2))
  have HO0 : Hid (OwnI (w.alloc (.cells #[] 2)) w.heap.size (w.alloc (.cells #[] 2)).heap.size (.slice (some ⟨w.heap.size, 0, none⟩) 0 0) []) := h0.mono (Nat.le_refl _) (by simp) (Nat.le_refl _)
  clear h0 hq
  go_enter Try.func107, Try.ntmps107
  go_wp2_with fail
  go_loopw [7, 8, 9] (fun ov mv xv wr => ∃ (x m : Nat) (c : List Int), 1 ≤ x ∧ x ≤ L + 1 ∧ xv = .int .i64 x ∧ mv = .int .i64 m ∧ Hid (Cl L x c) ∧ c.length + m ≤ M ∧ OwnI wr w.heap.size wr.heap.size ov c ∧ SrcC wr q (n + 2 * (x - 1)) ∧ Same q (q + 1) w wr) (fun _ _ xv _ => L + 1 - (intOf xv).toNat)
  case atStart => exact ⟨1, M, [], Nat.le_refl _, by omega, rfl, rfl, Lib.hid (Cl.nil _ _), by simp, HO0.out, HQ0.out, HS0.out⟩
  case round =>
    obtain ⟨x, m, c, hx1, hx2, rfl, rfl, HC, hcm, ho, hsrc, hsm⟩ := hrel
    have hsz := hsm.size
    have HO := Lib.hid ho
    have HSR := Lib.hid hsrc
    have HSM := Lib.hid hsm
    obtain ⟨oa, oc, rfl⟩ := ho.shape
    have hon : n + 2 * (x - 1) ≤ 1099511627000 := by omega
    clear ho hsrc hsm
    by_cases hxL : x ≤ L
    · by_cases hm : 0 < m
      · go_wp2_with fail
        refine (srcOne_any 2 wr HSR.out hon (by decide) (by decide)).mono ?_
        rintro e w2 ⟨b1, rfl, hs2, hm2⟩
        have HM2 := Lib.hid hm2
        cases b1
        · go_wp2
          go_roundw
          case rel => exact ⟨x + 1, m, c, by omega, by omega, by go_num, rfl, Lib.hid HC.out.up, hcm, (HO.out.same hm2 (.inr (by omega))).mono (Nat.le_refl _) hm2.size (Nat.le_refl _), hs2.mono (by omega), HSM.out.trans hm2⟩
          case measure => simp [intOf]; omega
        · go_wp2_with fail
          refine (srcOne_any 2 w2 hs2 (by omega) (by decide) (by decide)).mono ?_
          rintro e w3 ⟨b2, rfl, hs3, hm3⟩
          cases b2
          · clear HM2
            have hz2 := hm2.size
            have hz3 := hm3.size
            have hO3 := Lib.hid (((HO.out.same hm2 (.inr (by omega))).same hm3 (.inr (by omega))).mono (Nat.le_refl _) (show wr.heap.size ≤ w3.heap.size by omega) (Nat.le_refl _))
            have HSM3 := Lib.hid ((HSM.out.trans hm2).trans hm3)
            have HS3 := Lib.hid hs3
            have HCY := Lib.hid (HC.out.snoc hx1 (show (x : Int) ≤ L by omega) (.inl rfl))
            have hz4 : w.heap.size ≤ w3.heap.size := by omega
            have hcl : c.length ≤ 10 := by omega
            clear hm2 hs2 hm3 hs3
            go_wp2_with (at_builtin; refine wpList_app1 rfl _ _ rfl _ c rfl ((x : Int)) _ hO3.out rfl (by constructor <;> omega) (by omega) hz4 ?_)
            intro v4 w4 ho4 hsm4 hz5 _
            go_wp2
            go_roundw
            case rel => exact ⟨x + 1, m - 1, c ++ [(x : Int)], by omega, by omega, by go_num, by go_num, HCY, by simp; omega, ho4, (HS3.out.same hsm4 hqw).mono (by omega), hsm4.mono_old hqw hz4 rfl HSM3.out⟩
            case measure => simp [intOf]; omega
          · clear HM2
            have hz2 := hm2.size
            have hz3 := hm3.size
            have hO3 := Lib.hid (((HO.out.same hm2 (.inr (by omega))).same hm3 (.inr (by omega))).mono (Nat.le_refl _) (show wr.heap.size ≤ w3.heap.size by omega) (Nat.le_refl _))
            have HSM3 := Lib.hid ((HSM.out.trans hm2).trans hm3)
            have HS3 := Lib.hid hs3
            have HCY := Lib.hid (HC.out.snoc hx1 (show (x : Int) ≤ L by omega) (.inr rfl))
            have hz4 : w.heap.size ≤ w3.heap.size := by omega
            have hcl : c.length ≤ 10 := by omega
            clear hm2 hs2 hm3 hs3
            go_wp2_with (at_builtin; refine wpList_app1 rfl _ _ rfl _ c rfl (-(x : Int)) _ hO3.out rfl (by constructor <;> omega) (by omega) hz4 ?_)
            intro v4 w4 ho4 hsm4 hz5 _
            go_wp2
            go_roundw
            case rel => exact ⟨x + 1, m - 1, c ++ [-(x : Int)], by omega, by omega, by go_num, by go_num, HCY, by simp; omega, ho4, (HS3.out.same hsm4 hqw).mono (by omega), hsm4.mono_old hqw hz4 rfl HSM3.out⟩
            case measure => simp [intOf]; omega
      · go_wp2
        go_roundw
        case rel => exact ⟨x + 1, m, c, by omega, by omega, by go_num, rfl, Lib.hid HC.out.up, hcm, HO.out, HSR.out.mono (by omega), HSM.out⟩
        case measure => simp [intOf]; omega
    · obtain rfl : x = L + 1 := by omega
      go_wp2
      go_ret
      exact ⟨_, c, rfl, HO.out, clauseD (by rw [inB, decide_eq_true (by omega), decide_eq_true (by omega)]; rfl) HC.out.1 HC.out.2.1, by omega, HSR.out.mono (by omega), HSM.out⟩
/-- what a drawn form is -/
def DrawnF (f : FormD) : Prop := validForm f = true ∧ 1 ≤ f.letters ∧ f.letters ≤ 5 ∧ f.clauses.length ≤ 9 ∧ ∀ c ∈ f.clauses, c.length ≤ 3
set_option maxHeartbeats 2000000 in
set_option maxRecDepth 100000 in
theorem l05DrawOk_any {q n : Nat} (w : World) (hq : SrcC w q n) (hn : n ≤ 1000) :
    Calls Try.prog 50 #[.pointer (some ⟨q, 0, none⟩)] w fun e w' => ∃ u f, e = .returned u ∧ OwnF w' w.heap.size w'.heap.size u f ∧ DrawnF f ∧ Same q (q + 1) w w' := by
  have hqw := hq.lt
  obtain ⟨W1, hW1⟩ : ∃ X, X = w.alloc (.cells #[.int .i64 0, .slice none 0 0] 26) := ⟨_, rfl⟩
  have hr1 : TwoC W1 w.heap.size 26 (.int .i64 0) (.slice none 0 0) := by rw [hW1]; exact TwoC.new _ _ _ _
  have hs1 : Same q (q + 1) w W1 := by rw [hW1]; exact (Same.refl q (q + 1) w).alloc _
  have hq1 : SrcC W1 q n := by rw [hW1]; exact hq.alloc _
  have hz1 : w.heap.size + 1 ≤ W1.heap.size := by rw [hW1]; simp
  clear hq
  go_enter Try.func50, Try.ntmps50
  go_wp2_with fail
  rw [← hW1]
  clear hW1
  refine (srcPick_any 5 W1 hq1 (by omega) (by decide) (by decide)).mono ?_
  rintro e w2 ⟨x, rfl, hx, hq2, hm2⟩
  obtain ⟨L, hL⟩ : ∃ L : Nat, 1 + x = (L : Int) := ⟨(1 + x).toNat, by omega⟩
  have hL1 : 1 ≤ L := by omega
  have hL5 : L ≤ 5 := by omega
  have hr2 := hr1.same hm2 (.inr (by omega))
  have hz2 := hm2.size
  have hw1 : IntKind.i64.wrap (L : Int) = (L : Int) := IntWalk.i64_in _ (by omega)
  obtain ⟨W3, hW3⟩ : ∃ X, X = w2.alloc (.cells #[.int .i64 L, .slice none 0 0] 26) := ⟨_, rfl⟩
  have hp3 : TwoC W3 w2.heap.size 26 (.int .i64 L) (.slice none 0 0) := by rw [hW3]; exact TwoC.new _ _ _ _
  have hs3 : Same q (q + 1) w W3 := by rw [hW3]; exact (hs1.trans hm2).alloc _
  have hq3 : SrcC W3 q (n + 1) := by rw [hW3]; exact hq2.alloc _
  have hr3 : TwoC W3 w.heap.size 26 (.int .i64 0) (.slice none 0 0) := by rw [hW3]; exact hr2.alloc _
  have hz3 : w2.heap.size + 1 ≤ W3.heap.size := by rw [hW3]; simp
  obtain ⟨fb, hfb⟩ : ∃ b, b = w2.heap.size := ⟨_, rfl⟩
  go_wp2_with fail
  rw [← hW3, ← hfb]
  rw [← hfb] at hp3 hz3
  have hfq : w.heap.size + 1 ≤ fb := by omega
  clear hW3 hL hfb hw1 hr1 hq1 hs1 hq2 hm2 hr2 hz2 hx hz1
  refine (srcPick_any 3 W3 hq3 (by omega) (by decide) (by decide)).mono ?_
  rintro e w4 ⟨x, rfl, hx, hq4, hm4⟩
  obtain ⟨M, hM⟩ : ∃ M : Nat, 1 + x = (M : Int) := ⟨(1 + x).toNat, by omega⟩
  have hM3 : M ≤ 3 := by omega
  have hw1 : IntKind.i64.wrap (M : Int) = (M : Int) := IntWalk.i64_in _ (by omega)
  have hp4 := hp3.same hm4 (.inr (by omega))
  have hr4 := hr3.same hm4 (.inr (by omega))
  have hs4 := hs3.trans hm4
  have hz4 := hm4.size
  go_wp2_with fail
  clear hM hw1 hx hq3 hm4 hp3 hr3 hs3
  refine (srcPick_any 10 w4 hq4 (by omega) (by decide) (by decide)).mono ?_
  rintro e w5 ⟨x5, rfl, hx5, hq5, hm5⟩
  obtain ⟨N, rfl⟩ : ∃ N : Nat, x5 = (N : Int) := ⟨x5.toNat, by omega⟩
  have hN9 : N ≤ 9 := by omega
  have HP5 := Lib.hid (hp4.same hm5 (.inr (by omega)))
  have HR5 := Lib.hid (hr4.same hm5 (.inr (by omega)))
  have HS5 := Lib.hid (hs4.trans hm5)
  have HQ5 := Lib.hid hq5
  have hz5 := hm5.size
  clear hx5 hq4 hm5 hp4 hr4 hs4 hq5
  have hfw5 := HP5.out.lt
  go_wp2_with fail
  go_loopw [5] (fun mv wr => ∃ (m : Nat) (cs : List (List Int)) (ov : Value), mv = .int .i64 m ∧ cs.length + m ≤ 9 ∧ (cs.map List.length).sum ≤ 3 * cs.length ∧ Hid (∀ c ∈ cs, isClause L c = true ∧ c.length ≤ 3) ∧ OwnII wr (fb + 1) wr.heap.size ov cs ∧ TwoC wr fb 26 (.int .i64 L) ov ∧ TwoC wr w.heap.size 26 (.int .i64 0) (.slice none 0 0) ∧ SrcC wr q (n + 3 + 10 * cs.length) ∧ Same q (q + 1) w wr ∧ fb < wr.heap.size) (fun mv _ => (intOf mv).toNat)
  case atStart => exact ⟨N, [], _, rfl, by simp; omega, by simp, Lib.hid (by simp), OwnII.nil _ _ _ (Nat.le_refl _), HP5.out, HR5.out, HQ5.out.mono (by simp), HS5.out, hfw5⟩
  case round =>
    obtain ⟨m, cs, ov, rfl, hcm, hsm, HC, ho, hp, hr, hq, hS, hfr⟩ := hrel
    obtain ⟨oa, oc, rfl⟩ := ho.shape
    have HO := Lib.hid ho
    have HP := Lib.hid hp
    have HR := Lib.hid hr
    have HQ := Lib.hid hq
    have HS := Lib.hid hS
    have hsr := hS.size
    by_cases hm : 0 < m
    · have c1 := hp.c1
      have c0 := hp.c0
      have hDw : Drew wr wr.drew := ⟨1, rfl⟩
      have HDC := Lib.hid (l05DrawClause_any L M wr.drew (hq.drew hDw) (by omega) hL1 (by omega) (by omega))
      clear ho hp hr hq hS
      go_wp2_with fail
      go_region_law (first | (go_simp; go_at_call 107; refine HDC.out.mono ?_; rintro e w3 ⟨u3, c, rfl, ho3, hcl, hcM, hq3, hm3⟩; obtain ⟨qa, qc, rfl⟩ := ho3.shape; have hz3 : wr.heap.size ≤ w3.heap.size := hm3.size; have hp3 := (HP.out.drew hDw).same hm3 (.inr (by omega)); have ho3' := (HO.out.below (hDw.below wr.heap.size) (Nat.le_refl _)).same hm3 (.inr (by omega)); have c66b := hp3.c1; have c66c := (hp3.alloc (.cells #[.slice qa c.length qc] 34)).c1) | ((refine step_appII (by rfl) _ _ (by rfl) _ cs (by rfl) _ c _ ho3' ho3 (Nat.le_refl _) (show fb + 1 ≤ wr.heap.size by omega) (by rfl) (by omega) (by simp; omega) (by omega) ?_; intro v4 w6 ho4 hsm4 hz6; obtain ⟨ya, yc, rfl⟩ := ho4.shape1; have hp4 := hp3.same hsm4 (.inl (Nat.lt_succ_self _)); have c4 := hp4.c1; have f4 := hp4.f1)))
      all_goals
        have HS6 := Lib.hid ((((HS.out.trans (Same.of_below (hDw.below wr.heap.size) (Nat.le_refl _))).trans hm3).after hsm4 (by omega)).after (set1_same w6 fb 1 (.slice ya (cs.length + 1) yc)) (by omega))
        have HQ6 := Lib.hid ((hq3.same hsm4 (by omega)).same (set1_same w6 fb 1 (.slice ya (cs.length + 1) yc)) (by omega))
        have HP6 := Lib.hid (hp4.set1 (.slice ya (cs.length + 1) yc))
        have HR6 := Lib.hid (((((HR.out.drew hDw).same hm3 (.inr (by omega))).same hsm4 (.inl (by omega))).same (set1_same w6 fb 1 (.slice ya (cs.length + 1) yc)) (.inl (by omega))))
        have HO6 : Hid (OwnII (w6.setCell ⟨fb, 1, none⟩ (.slice ya (cs.length + 1) yc)) (fb + 1) (w6.setCell ⟨fb, 1, none⟩ (.slice ya (cs.length + 1) yc)).heap.size (.slice ya (cs.length + 1) yc) (cs ++ [c])) := (ho4.same (set1_same _ _ _ _) (.inr (Nat.le_refl _))).mono (Nat.le_refl _) (set1_same _ _ _ _).size (Nat.le_refl _)
        have HC6 : Hid (∀ d ∈ cs ++ [c], isClause L d = true ∧ d.length ≤ 3) := by
          intro d hd
          rcases List.mem_append.1 hd with hd | hd
          · exact HC.out d hd
          · obtain rfl := List.mem_singleton.1 hd; exact ⟨hcl, by omega⟩
        have hsz6 : (w6.setCell ⟨fb, 1, none⟩ (.slice ya (cs.length + 1) yc)).heap.size = w6.heap.size := by simp
        have hsz7 := Lib.hid hsz6
        clear ho4 hsm4 hp3 ho3' ho3 hq3 hm3 hDw hp4 c4 f4 hsz6
        have hsum6 : Hid (((cs ++ [c]).map List.length).sum ≤ 3 * (cs ++ [c]).length) := by simp [Hid]; omega
        go_wp2
        go_roundw
        case rel => exact ⟨m - 1, cs ++ [c], _, by go_num, by simp; omega, hsum6.out, HC6, HO6.out, HP6.out, HR6.out, HQ6.out.mono (by simp; omega), HS6.out, by rw [hsz7.out]; omega⟩
        case measure => simp [intOf]; omega
    · have c1 := hp.c1
      have c0 := hp.c0
      have d0 := hr.f0
      have d1 := hr.f1
      have r0 := hr.c0
      have r1 := hr.c1
      clear ho hp hq hS
      go_wp2_with fail
      have hS2 := ((Same.refl w.heap.size (w.heap.size + 1) wr).setCell (p := ⟨w.heap.size, 0, none⟩) (Nat.le_refl _) (Nat.lt_succ_self _) (.int .i64 L)).setCell (p := ⟨w.heap.size, 1, none⟩) (Nat.le_refl _) (Nat.lt_succ_self _) (.slice oa cs.length oc)
      refine bodyPost_ret (v := .agg #[.int .i64 L, .slice oa cs.length oc]) (by simp [results, Try.results50, go_sem, r0, r1]) rfl ⟨_, ⟨L, cs⟩, rfl, ⟨⟨_, rfl, (HO.out.same hS2 (.inr (by omega))).mono (by omega) (by simp) (Nat.le_refl _)⟩, by constructor <;> (simp only; omega)⟩, ⟨?_, by simp only; omega, by simp only; omega, by simp only; omega, fun c hc => (HC.out c hc).2⟩, HS.out.after hS2 (Nat.le_refl _)⟩
      unfold validForm
      rw [show inB 1 10 ((L : Nat) : Int) = true by (unfold inB; rw [decide_eq_true (by omega), decide_eq_true (by omega)]; rfl), decide_eq_true (show cs.length ≤ 48 by omega), List.all_eq_true.2 (fun c hc => (HC.out c hc).1)]
      rfl
set_option maxHeartbeats 800000 in
set_option maxRecDepth 100000 in
theorem b10Form_any {l h : Nat} (v : Value) (bs : List Int) (w : World) (hv : Byts w l h v bs) (hh : h ≤ w.heap.size) :
    Calls Try.prog 8 #[v] w fun e w' => ∃ u f, e = .returned u ∧ OwnF w' w.heap.size w'.heap.size u f ∧ DrawnF f ∧ Below w.heap.size w w' := by
  obtain ⟨W1, hW1⟩ : ∃ X, X = w.alloc (.cells #[.int .i64 0, .slice none 0 0] 26) := ⟨_, rfl⟩
  have hr1 : TwoC W1 w.heap.size 26 (.int .i64 0) (.slice none 0 0) := by rw [hW1]; exact TwoC.new _ _ _ _
  have hb1 : Below w.heap.size w W1 := by rw [hW1]; exact alloc_below _ _
  have hz1 : w.heap.size + 1 ≤ W1.heap.size := by rw [hW1]; simp
  have HF := Lib.hid (l00From_any v bs W1 (hv.below hb1 hh) (by omega))
  obtain ⟨a, cap, rfl, hc1, hc2, hd⟩ := hv.out
  clear hv hd
  go_enter Try.func8, Try.ntmps8
  go_wp2_with fail
  rw [← hW1]
  clear hW1
  refine HF.out.mono ?_
  rintro e w2 ⟨rfl, hs2, hb2⟩
  have HD := Lib.hid (l05DrawOk_any w2 hs2 (by decide))
  have hz2 := hb2.size
  have HR2 := Lib.hid (hr1.below hb2 (by omega))
  have HB2 := Lib.hid (hb1.trans (hb2.mono (by omega)))
  clear hs2 hr1 hb1 hb2
  go_wp2_with fail
  refine HD.out.mono ?_
  rintro e w3 ⟨u, f, rfl, hf, hdf, hsm⟩
  have HB3 := Lib.hid (HB2.out.trans (hsm.below (B := w.heap.size) (by omega) (by omega)))
  have HR3 := Lib.hid (HR2.out.same hsm (.inl (by omega)))
  have r0 := HR3.out.c0
  have r1 := HR3.out.c1
  have d0 := HR3.out.f0
  have d1 := HR3.out.f1
  obtain ⟨u, rfl, hu⟩ := hf.ex
  obtain ⟨ua, uc, rfl⟩ := hu.shape
  have HO := Lib.hid hu
  have kf := hf.rng
  have hz3 := hsm.size
  have HDF := Lib.hid hdf
  clear hf hsm hdf hu
  go_wp2_with fail
  have hS2 := ((Same.refl w.heap.size (w.heap.size + 1) w3).setCell (p := ⟨w.heap.size, 0, none⟩) (Nat.le_refl _) (Nat.lt_succ_self _) (.int .i64 f.letters)).setCell (p := ⟨w.heap.size, 1, none⟩) (Nat.le_refl _) (Nat.lt_succ_self _) (.slice ua f.clauses.length uc)
  exact bodyPost_ret (v := .agg #[.int .i64 f.letters, .slice ua f.clauses.length uc]) (by simp [results, Try.results8, go_sem, r0, r1]) rfl ⟨_, f, rfl, ⟨⟨_, rfl, (HO.out.same hS2 (.inr (by omega))).mono (by omega) (by simp) (Nat.le_refl _)⟩, kf⟩, HDF.out, HB3.out.trans (hS2.below (Nat.le_refl _) (by omega))⟩
end Go.Proofs.Ytcpbgjnijhcpkaa

namespace Go.Proofs.Ytcpbgjnijhcpkaa
open Go.RowKit
set_option linter.unusedVariables false
set_option maxRecDepth 100000

theorem RefII.beside {w w' : World} {B lo : Nat} {v : Value} {zss : List (List Int)} (h : RefII w B lo v zss) (hs : w.heap.size ≤ w'.heap.size) (hb : Below lo w w') (hk : ∀ k, v.ownBlock = some k → w'.heap[k]? = w.heap[k]?) : RefII w' B lo v zss := by
  obtain ⟨vs, h1, h2, h3⟩ := h.ex
  exact ⟨⟨vs, h1, (h2.stay hs hk).mono (Nat.le_refl _) hs (Nat.le_refl _), fun i hi => (h3 i hi).below hb h.hB⟩, h.hB, by have := h.hlo; omega⟩
theorem RefII.blk {w : World} {B lo : Nat} {v : Value} {zss : List (List Int)} (h : RefII w B lo v zss) : ∀ k, v.ownBlock = some k → lo ≤ k ∧ k < w.heap.size := by
  obtain ⟨vs, h1, h2, h3⟩ := h.ex
  exact fun k hk => ⟨(h2.row.lt k hk).1, h2.blk k hk⟩
theorem step_appRefK {w W : World} {ops : Array Oper} {o : Oper} {a : Act} {K : Act → World → Prop} {Q : Exit → Act → World → Prop} {E : Prop} (hgd : o.guard = none) (s x : Operand)
    (ho : o.op = .call { callee := .builtin .append, args := #[s, x], argTypes := #[24, 24] })
    {B lo : Nat} (v : Value) (zss : List (List Int)) (hs : a.eval s = v) (hv : RefII w B lo v zss) (u : Value) (zs : List Int) (hu : Ints w 0 B u zs) (e : TypeId) (hW : W = w.alloc (.cells #[u] e)) (n : Nat) (hn : n = w.heap.size) (hx : a.eval x = .slice (some ⟨n, 0, none⟩) 1 1)
    (hl : zss.length + 1 ≤ 1048576)
    (h : ∀ v' w', RefII w' B lo v' (zss ++ [zs]) → (∀ k, k < w.heap.size → v.ownBlock ≠ some k → w'.heap[k]? = w.heap[k]?) → Below lo w w' → w.heap.size + 1 ≤ w'.heap.size → (v'.ownBlock = v.ownBlock ∨ v'.ownBlock = some (w.heap.size + 1)) → K (a.put o.dst v') w') :
    if Region.wanted o (yielded ops a.tmps) = true then Oper.wp Try.prog o a W K Q else E := by
  have hw : Region.wanted o (yielded ops a.tmps) = true := by simp [Region.wanted, hgd]
  rw [if_pos hw]
  subst hW
  subst hn
  obtain ⟨vs, h1, h2, h3⟩ := hv.ex
  refine wp_app1V s x ho v zss.length vs hs u (ints_one hu) e h2 hx hl hv.hlo fun v' w' ho' hkeep hsame hsz hblk => ?_
  have hb : Below lo w w' := hsame.below (Nat.le_refl _) hv.hlo
  have hlen : (zss ++ [zs]).length = zss.length + 1 := by simp
  refine h v' w' ⟨⟨vs ++ [u], by simp [h1], by rw [hlen]; exact ho', fun i hi => ?_⟩, hv.hB, by have := hv.hlo; omega⟩ hkeep hb hsz hblk
  rw [hlen] at hi
  by_cases hil : i < zss.length
  · have e1 : (vs ++ [u]).getD i undef = vs.getD i undef := by simp only [List.getD, List.getElem?_append_left (show i < vs.length by omega)]
    rw [e1, List.getElem_append_left hil]
    exact (h3 i hil).below hb hv.hB
  · obtain rfl : i = zss.length := by omega
    have e1 : (vs ++ [u]).getD zss.length undef = u := by simp only [List.getD, List.getElem?_append_right (show vs.length ≤ zss.length by omega), h1, Nat.sub_self]; rfl
    rw [e1]
    simp only [List.getElem_append_right (Nat.le_refl _), Nat.sub_self, List.getElem_cons_zero]
    exact hu.below hb hv.hB
/-- block q holds a form whose clauses lie below; beside it a list of the call's own grows -/
structure CoreC (w : World) (B lo q : Nat) (L : Int) (vl vc : Value) (left : List Int) (cls : List (List Int)) : Prop where
  cell : TwoC w q 26 (.int .i64 L) vc
  left : OwnI w lo w.heap.size vl left
  cls : RefII w B lo vc cls
  lq : vl.ownBlock ≠ some q
  cq : vc.ownBlock ≠ some q
  apart : ∀ p, vl.ownBlock = some p → vc.ownBlock ≠ some p
section
variable {w w' : World} {B lo q : Nat} {L : Int} {vl vc v2 : Value} {left : List Int} {cls : List (List Int)} {x : Int} {z : List Int}
theorem CoreC.addL (h : CoreC w B lo q L vl vc left cls) (ho : OwnI w' lo w'.heap.size v2 (left ++ [x])) (hk : ∀ k, k < w.heap.size → vl.ownBlock ≠ some k → w'.heap[k]? = w.heap[k]?) (hb : Below lo w w') {n : Nat} (hn : w.heap.size ≤ n) (hbl : v2.ownBlock = vl.ownBlock ∨ v2.ownBlock = some n) :
    CoreC w' B lo q L v2 vc (left ++ [x]) cls := by
  have hql := h.cell.lt
  refine ⟨h.cell.keep (hk q hql h.lq), ho, h.cls.beside hb.size hb (fun k hk' => hk k (h.cls.blk k hk').2 (fun e => h.apart k e hk')), ?_, h.cq, fun p hp => ?_⟩
  · rcases hbl with hbl | hbl
    · rw [hbl]; exact h.lq
    · rw [hbl]; intro e; injection e with e; omega
  · rcases hbl with hbl | hbl
    · rw [hbl] at hp; exact h.apart p hp
    · rw [hbl] at hp
      intro e
      have := (h.cls.blk p e).2
      injection hp with hp; omega
theorem CoreC.midC (h : CoreC w B lo q L vl vc left cls) (hk : ∀ k, k < w.heap.size → vc.ownBlock ≠ some k → w'.heap[k]? = w.heap[k]?) : TwoC w' q 26 (.int .i64 L) vc := h.cell.keep (hk q h.cell.lt h.cq)
theorem CoreC.addC (h : CoreC w B lo q L vl vc left cls) (hr : RefII w' B lo v2 (cls ++ [z])) (hk : ∀ k, k < w.heap.size → vc.ownBlock ≠ some k → w'.heap[k]? = w.heap[k]?) (hlq : lo ≤ q) {n : Nat} (hn : w.heap.size ≤ n) (hz : n ≤ w'.heap.size) (hbl : v2.ownBlock = vc.ownBlock ∨ v2.ownBlock = some n) :
    CoreC (w'.setCell ⟨q, 1, none⟩ v2) B lo q L vl v2 left (cls ++ [z]) := by
  have hql := h.cell.lt
  have hq2 : v2.ownBlock ≠ some q := by
    rcases hbl with hbl | hbl
    · rw [hbl]; exact h.cq
    · rw [hbl]; intro e; injection e with e; omega
  have hsz : (w'.setCell ⟨q, 1, none⟩ v2).heap.size = w'.heap.size := by simp [World.setCell]
  have hst : ∀ k, k ≠ q → (w'.setCell ⟨q, 1, none⟩ v2).heap[k]? = w'.heap[k]? := fun k hk' => Below.heap_setCell _ _ _ _ (by simpa using hk')
  have hbs : Below lo w' (w'.setCell ⟨q, 1, none⟩ v2) := (Below.refl _ _).setCell hlq _
  refine ⟨(h.midC hk).set1 v2, ?_, hr.beside (by omega) hbs (fun k hk' => hst k (fun e => hq2 (by rw [hk', e]))), h.lq, hq2, fun p hp => ?_⟩
  · have h1 := h.left.beside (w' := w') (by omega) (by omega) hk (fun p hp e => h.apart p hp e)
    have := h1.stay2 (w' := w'.setCell ⟨q, 1, none⟩ v2) (by omega) fun k hk' => hst k (fun e => h.lq (by rw [hk', e]))
    rw [hsz]; exact this
  · rcases hbl with hbl | hbl
    · rw [hbl]; exact h.apart p hp
    · intro e
      have := h.left.own.blk p hp
      rw [hbl] at e; injection e with e; omega
theorem CoreC.drew (h : CoreC w B lo q L vl vc left cls) (hd : Drew w w') : CoreC w' B lo q L vl vc left cls := by
  refine ⟨h.cell.drew hd, ?_, h.cls.drew hd, h.lq, h.cq, h.apart⟩
  have := h.left.drew hd; rw [hd.heap]; exact this
end
theorem ups_succ (n : Nat) : ups (n + 1) = ups n ++ [(n : Int)] := by simp [ups, List.range_succ]
theorem ups_len (n : Nat) : (ups n).length = n := by simp [ups]
theorem ups_mem {n : Nat} {x : Int} (h : x ∈ ups n) : 0 ≤ x ∧ x < (n : Int) := by
  obtain ⟨k, hk, rfl⟩ := List.mem_map.1 h
  have := List.mem_range.1 hk
  omega
theorem filter_snoc (S : List Int) (x i : Int) : ((S ++ [x]).filter fun y => decide (y ≠ i)) = (S.filter fun y => decide (y ≠ i)) ++ (if x = i then [] else [x]) := by
  rw [List.filter_append]
  by_cases h : x = i <;> simp [h]
end Go.Proofs.Ytcpbgjnijhcpkaa

