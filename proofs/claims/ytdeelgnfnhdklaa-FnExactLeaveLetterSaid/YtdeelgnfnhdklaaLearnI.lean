/-
  LearnFrom: contracts in the program.
-/
import Derived.Test.YtdeelgnfnhdklaaLearnP
import Derived.Test.YtdeelgnfnhdklaaUnitsOf
import Derived.Test.YtdeelgnfnhdklaaByLetter
import Derived.Test.YtdeelgnfnhdklaaCopy
namespace Go.Proofs.Ytdeelgnfnhdklaa
open Go.RowKit
set_option linter.unusedVariables false

theorem Intss.cellAt {w : World} {lo hi b off n cap : Nat} {zss : List (List Int)} (h : Intss w lo hi (.slice (some ⟨b, off, none⟩) n cap) zss) {j : Nat} (hj : j < zss.length) :
    ∃ a c, w.cell? ⟨b, off + j, none⟩ = some (.slice a zss[j].length c) ∧ Ints w lo hi (.slice a zss[j].length c) zss[j] ∧ b < hi := by
  obtain ⟨a, cap', V, e, h1, h2, hV, hd⟩ := h.out
  simp only [Value.slice.injEq] at e
  obtain ⟨e1, rfl, rfl⟩ := e
  rcases hd with rfl | ⟨b', off', r1, r2, r3, r4, hc⟩
  · simp at hj
  · rw [r1] at e1
    injection e1 with e1
    injection e1 with e1 e2
    subst e1; subst e2
    have hv := hV j hj
    obtain ⟨a2, c2, e3, _⟩ := hv.out
    have hcj := hc j hj
    rw [e3] at hcj hv
    exact ⟨a2, c2, hcj, hv, r3⟩
theorem Intss.addr {w : World} {lo hi n cap : Nat} {a : Option Addr} {zss : List (List Int)} (h : Intss w lo hi (.slice a n cap) zss) (h0 : 0 < zss.length) : ∃ b off, a = some ⟨b, off, none⟩ := by
  obtain ⟨a', cap', V, e, h1, h2, hV, hd⟩ := h.out
  simp only [Value.slice.injEq] at e
  obtain ⟨rfl, _, _⟩ := e
  rcases hd with rfl | ⟨b', off', r1, _⟩
  · simp at h0
  · exact ⟨b', off', r1⟩
theorem Ints.cellAt {w : World} {lo hi n cap : Nat} {a : Option Addr} {zs : List Int} (h : Ints w lo hi (.slice a n cap) zs) {j : Nat} (hj : j < zs.length) :
    ∃ b off, a = some ⟨b, off, none⟩ ∧ b < hi ∧ ∀ i, i < zs.length → w.cell? ⟨b, off + i, none⟩ = some (.int .i64 (zs.getD i 0)) := by
  obtain ⟨a', cap', e, h1, h2, hd⟩ := h.out
  simp only [Value.slice.injEq] at e
  obtain ⟨rfl, rfl, rfl⟩ := e
  rcases hd with rfl | ⟨b', off', r1, r2, r3, r4, hc⟩
  · simp at hj
  · exact ⟨b', off', r1, r3, hc⟩
/-- two slices of the call's own that grow side by side -/
structure LearnM (w : World) (lo : Nat) (lv ov : Value) (lk out : List Int) : Prop where
  a : OwnI w lo w.heap.size lv lk
  b : OwnI w lo w.heap.size ov out
  ap : ∀ p, lv.ownBlock = some p → ov.ownBlock ≠ some p
section
variable {w w' : World} {lo : Nat} {lv ov u : Value} {lk out zs : List Int}
theorem LearnM.swap (h : LearnM w lo lv ov lk out) : LearnM w lo ov lv out lk := ⟨h.b, h.a, fun p hp e => h.ap p e hp⟩
theorem LearnM.drew (h : LearnM w lo lv ov lk out) (hd : Drew w w') : LearnM w' lo lv ov lk out := by
  have e : w'.heap.size = w.heap.size := by rw [hd.heap]
  exact ⟨by rw [e]; exact h.a.drew hd, by rw [e]; exact h.b.drew hd, h.ap⟩
theorem LearnM.below (h : LearnM w lo lv ov lk out) (hb : Below w.heap.size w w') : LearnM w' lo lv ov lk out :=
  ⟨(h.a.below hb (Nat.le_refl _)).mono (Nat.le_refl _) hb.size (Nat.le_refl _), (h.b.below hb (Nat.le_refl _)).mono (Nat.le_refl _) hb.size (Nat.le_refl _), h.ap⟩
theorem LearnM.grow (h : LearnM w lo lv ov lk out) {n : Nat} (ho : OwnI w' lo w'.heap.size u zs) (hk : ∀ k, k < w.heap.size → lv.ownBlock ≠ some k → w'.heap[k]? = w.heap[k]?) (hz : w.heap.size ≤ w'.heap.size) (hn : w.heap.size ≤ n) (hb : u.ownBlock = lv.ownBlock ∨ u.ownBlock = some n) : LearnM w' lo u ov zs out := by
  refine ⟨ho, h.b.beside hz (Nat.le_trans h.b.own.hsz hz) hk (fun p hp e => h.ap p e hp), fun p hp e => ?_⟩
  rcases hb with hb | hb
  · exact h.ap p (by rw [← hb]; exact hp) e
  · have := h.b.own.blk p e
    rw [hb] at hp; injection hp with hp; omega
/-- a call that leaves the first slice in its old block or in new memory -/
theorem LearnM.called (h : LearnM w lo lv ov lk out) (ho : OwnI w' lo w'.heap.size u zs) (hb : Below w.heap.size w w') (hk : BlkOk w lv u) : LearnM w' lo u ov zs out := by
  refine ⟨ho, (h.b.below hb (Nat.le_refl _)).mono (Nat.le_refl _) hb.size (Nat.le_refl _), fun p hp e => ?_⟩
  rcases hk with hk | hk
  · exact h.ap p (by rw [← hk]; exact hp) e
  · have := h.b.own.blk p e
    have := hk p hp
    omega
end
theorem learn_no {f : FormD} {g : List Int} (h : (validForm f && litsGo f.letters [] g) = false) : learnF f g = ([], false) := by rw [learnF, h]; rfl
theorem learn_none {f : FormD} {g : List Int} (h : (validForm f && litsGo f.letters [] g) = true) (hw : (unitsF f.clauses g).wrong < 0) : learnF f g = ([], false) := by rw [learnF, h, if_pos rfl, if_pos hw]
theorem learn_yes {f : FormD} {g : List Int} (h : (validForm f && litsGo f.letters [] g) = true) (hw : ¬ (unitsF f.clauses g).wrong < 0) : learnF f g = (srtL (learnOut f.clauses (unitsF f.clauses g)), true) := by rw [learnF, h, if_pos rfl, if_neg hw]
/-- the start -/
theorem learn_start {L : Int} {cs : List (List Int)} {U : UnitD} {j : Nat} (hj : j < cs.length) (hw : U.wrong = (j : Int)) (hy : UnitsWhy cs U) (hc : ∀ c ∈ cs, Cons L c) : LearnInv L U.known cs[j] 0 [] ∧ learnGo cs U (11 - 0) 0 cs[j] [] = learnOut cs U := by
  have e : cs.getD U.wrong.toNat [] = cs[j] := by rw [hw, Int.toNat_natCast, getD_get hj]
  refine ⟨⟨⟨fun l hl => hy.wrong (by omega) l (by rw [e]; exact hl), hc _ (List.getElem_mem hj)⟩, Nat.zero_le _, List.Sublist.refl _⟩, by rw [learnOut, e]⟩
theorem learnAdd_cons (x y : Int) (lk r : List Int) : learnAdd x lk (y :: r) = learnAdd x (if (y == -x) || hasI lk y then lk else lk ++ [y]) r := rfl
theorem learnAdd_keep {x y : Int} {lk r : List Int} (h : ((y == -x) || hasI lk y) = true) : learnAdd x lk (y :: r) = learnAdd x lk r := by rw [learnAdd_cons, if_pos h]
theorem learnAdd_put {x y : Int} {lk r : List Int} (h : ((y == -x) || hasI lk y) = false) : learnAdd x lk (y :: r) = learnAdd x (lk ++ [y]) r := by rw [learnAdd_cons, if_neg (by rw [h]; decide)]
set_option maxHeartbeats 400000 in
set_option maxRecDepth 100000 in
theorem indexI_any {l h : Nat} (v : Value) (zs : List Int) (x : Int) (p : Nat) (w : World) (hv : Ints w l h v zs) (hp : p < zs.length) (hx : zs.getD p 0 = x) (hn : ∀ j, j < p → zs.getD j 0 ≠ x) :
    Calls Try.prog 100 #[v, .int .i64 x] w fun e w' => e = .returned (.int .i64 (p : Int)) ∧ w = w' := by
  obtain ⟨a, cap, rfl, hc1, hc2, hd⟩ := hv.out
  rcases hd with rfl | ⟨b, off, rfl, hb1, hb2, hb3, hcell⟩
  · simp at hp
  have HN := Lib.hid hn
  have HX := Lib.hid hx
  clear hn hx
  go_enter Try.func100, Try.ntmps100
  go_wp2_with fail
  go_loop [8] (fun i => ∃ k : Nat, k ≤ p ∧ i = .int .i64 k) (fun i => zs.length - (intOf i).toNat)
  case atStart => exact ⟨0, Nat.zero_le _, rfl⟩
  case round =>
    obtain ⟨k, hk, rfl⟩ := hrel
    have hkl : k < zs.length := by omega
    have hck := hcell k hkl
    by_cases hkp : k = p
    · subst hkp
      rw [HX.out] at hck
      clear hcell
      go_wp2
      go_ret
      exact ⟨rfl, rfl⟩
    · have hne := HN.out k (by omega)
      obtain ⟨y, hy⟩ : ∃ y, y = zs.getD k 0 := ⟨_, rfl⟩
      rw [← hy] at hck hne
      have hq : (x == y) = false := beq_eq_false_iff_ne.2 (Ne.symm hne)
      clear hcell hne hy
      go_wp2
      go_round
      case rel => exact ⟨k + 1, by omega, by go_num⟩
      case measure => simp [intOf]; omega
set_option maxHeartbeats 2000000 in
set_option maxRecDepth 100000 in
theorem implLearnFrom_any (w : World) {l h l' h' : Nat} (v : Value) (f : FormD) (v' : Value) (g : List Int) (hv : FormR w l h v f) (hh : h ≤ w.heap.size) (hz : SmallII f.clauses) (hv' : Ints w l' h' v' g) (hh' : h' ≤ w.heap.size) (hz' : g.length ≤ 1048576) :
    Calls Try.prog 56 #[v, v'] w fun e w' => ∃ r, e = .returned (.tuple #[r, .bool (learnF f g).2]) ∧ OwnI w' w.heap.size w'.heap.size r (learnF f g).1 ∧ Below w.heap.size w w' := by
  obtain ⟨u, rfl, hu⟩ := hv.ex
  have kL := hv.rng
  obtain ⟨a0, cap0, V0, e0, hcap1, hcap2, _, _⟩ := hu.out
  subst e0
  obtain ⟨ga, gcap, ge, gc1, gc2, _⟩ := hv'.out
  subst ge
  obtain ⟨W, hW⟩ : ∃ W, W = w.alloc (.cells #[.int .i64 f.letters, .slice a0 f.clauses.length cap0] 29) := ⟨_, rfl⟩
  have hsW : W.heap.size = w.heap.size + 1 := by rw [hW]; simp
  have hBW : Below w.heap.size w W := by rw [hW]; exact alloc_below _ _
  have hbx : TwoC W w.heap.size 29 (.int .i64 f.letters) (.slice a0 f.clauses.length cap0) := by rw [hW]; exact TwoC.new _ _ _ _
  have HF := Lib.hid (hv.below hBW hh)
  have HU := Lib.hid (hu.below hBW hh)
  have HG := Lib.hid (hv'.below hBW hh')
  have HB := Lib.hid hbx
  have HBW := Lib.hid hBW
  have hW1 : w.heap.size < W.heap.size := by omega
  have hhW : h ≤ W.heap.size := by omega
  have hhW' : h' ≤ W.heap.size := by omega
  have HZ := Lib.hid hz
  have q0 := hbx.c0
  have q1 := hbx.c1
  clear hu hv hv' hbx hBW hsW hz
  go_enter Try.func56, Try.ntmps56
  go_wp2_with fail
  rw [← hW]
  clear hW
  go_wp2_with fail
  refine (implValidForm_any W _ _ HF.out hhW HZ.out).mono ?_
  rintro e w2 ⟨rfl, hb2⟩
  have hs2 := hb2.size
  clear q0 q1
  have hbx2 := HB.out.below hb2 hW1
  have q0 := hbx2.c0
  have q1 := hbx2.c1
  have HB2 := Lib.hid hbx2
  have HBW2 := Lib.hid (HBW.out.trans (hb2.mono (by omega)))
  have HG2 := Lib.hid (HG.out.below hb2 hhW')
  have HU2 := Lib.hid (HU.out.below hb2 hhW)
  clear hbx2 hb2
  cases hval : validForm f
  · have HE := Lib.hid (learn_no (f := f) (g := g) (by rw [hval]; rfl))
    go_wp2
    go_ret2
    exact ⟨_, by rw [HE.out]; rfl, by rw [HE.out]; exact OwnI.nil _ _ _ (Nat.le_refl _), HBW2.out⟩
  have bL := (validForm_bounds hval).1
  go_wp2_with fail
  refine (areGiven_any f.letters _ g w2 bL HG2.out hz').mono ?_
  rintro e w3 ⟨rfl, rfl⟩
  cases hgv : litsGo f.letters [] g
  · have HE := Lib.hid (learn_no (f := f) (g := g) (by rw [hgv, Bool.and_false]))
    go_wp2
    go_ret2
    exact ⟨_, by rw [HE.out]; rfl, by rw [HE.out]; exact OwnI.nil _ _ _ (Nat.le_refl _), HBW2.out⟩
  have HVG : Hid ((validForm f && litsGo f.letters [] g) = true) := by rw [Hid, hgv, hval]; rfl
  have HEN := Lib.hid (learn_none HVG.out)
  have HEY := Lib.hid (learn_yes HVG.out)
  have HUN := Lib.hid (unitsOf_any w2 f.letters _ _ f.clauses g bL.2 HU2.out (by omega) HZ.out (valid_lits hval) HG2.out (by omega) (cons_of_lits hgv))
  have HOK := Lib.hid (unitsF_ok (g := g) bL.2 (valid_lits hval) (cons_of_lits hgv))
  have HWY := Lib.hid (unitsF_why (g := g) (valid_lits hval))
  have HCC : Hid (∀ c ∈ f.clauses, Cons f.letters c) := fun c hc => cons_clause ((validForm_bounds hval).2.2 c hc)
  have hL10 : f.letters ≤ 10 := bL.2
  obtain ⟨U, hU⟩ : ∃ U, U = unitsF f.clauses g := ⟨_, rfl⟩
  rw [← hU] at HUN HOK HWY HEN HEY
  clear hval hgv hU HVG
  go_wp2_with fail
  refine HUN.out.mono ?_
  rintro e w4 ⟨vk, vb, rfl, hok, hob, hb4⟩
  obtain ⟨va, vc, rfl⟩ := hok.shape
  obtain ⟨ba, bc, rfl⟩ := hob.shape
  have hs4 := hb4.size
  have hB4 := HBW2.out.trans (hb4.mono (by omega))
  obtain ⟨W4, hW4⟩ : ∃ W, W = w4.alloc (.cells #[.slice va U.known.length vc, .slice ba U.why.length bc, .int .i64 U.wrong] 81) := ⟨_, rfl⟩
  have hsW4 : W4.heap.size = w4.heap.size + 1 := by rw [hW4]; simp
  have hBW4 : Below w4.heap.size w4 W4 := by rw [hW4]; exact alloc_below _ _
  have HT : Hid (TriC W4 w4.heap.size 81 (.slice va U.known.length vc) (.slice ba U.why.length bc) (.int .i64 U.wrong)) := by rw [Hid, hW4]; exact TriC.new _ _ _ _ _
  have HK4 := Lib.hid (hok.rd.below hBW4 (Nat.le_refl _))
  have HY4 := Lib.hid (hob.rd.below hBW4 (Nat.le_refl _))
  have HB5 : Hid (Below w.heap.size w W4) := hB4.trans (hBW4.mono (by omega))
  have hsz4 : w4.heap.size < W4.heap.size := by omega
  have hw24 : w.heap.size ≤ W4.heap.size := by omega
  have HU4 := Lib.hid ((HU2.out.below hb4 (by omega)).below hBW4 (by omega))
  have HB4 := Lib.hid ((HB2.out.below hb4 (by omega)).below hBW4 (by omega))
  have hwW4 : w.heap.size < W4.heap.size := by omega
  have hhW4 : h ≤ W4.heap.size := by omega
  clear hok hob hb4 hB4 hBW4 q0 q1
  by_cases hwr : U.wrong < 0
  · have HE := Lib.hid (HEN.out hwr)
    have c2 := HT.out.c2
    rw [hW4] at c2
    go_wp2
    go_ret2
    rw [← hW4]
    exact ⟨_, by rw [HE.out]; rfl, by rw [HE.out]; exact OwnI.nil _ _ _ (Nat.le_refl _), HB5.out⟩
  have HE := Lib.hid (HEY.out (by omega))
  obtain ⟨j, hj, hwj⟩ : ∃ j, ∃ h : j < f.clauses.length, U.wrong = (j : Int) := by
    rcases HOK.out.wrong with h1 | ⟨j, h1, h2, _⟩
    · omega
    · exact ⟨j, h1, h2⟩
  obtain ⟨HI0, HG0⟩ : Hid (LearnInv f.letters U.known f.clauses[j] 0 []) ∧ Hid (learnGo f.clauses U (11 - 0) 0 f.clauses[j] [] = learnOut f.clauses U) := learn_start hj hwj HWY.out HCC.out
  obtain ⟨fb, foff, rfl⟩ := HU4.out.addr (by omega)
  have t2 : W4.cell? ⟨w4.heap.size, 2, none⟩ = some (.int .i64 (j : Int)) := by rw [HT.out.c2, hwj]
  have c1 := HB4.out.c1
  obtain ⟨ka, kc, hck, hcl, _⟩ := HU4.out.cellAt hj
  have HCP := Lib.hid (copyInts_any _ f.clauses[j] W4 hcl hhW4 (by have := HZ.out.row hj; omega))
  rw [hW4] at t2 c1 hck
  clear hwr hwj HEN HEY hcl
  go_wp2_with fail
  rw [← hW4]
  clear t2 c1 hck hW4 hsW4
  refine HCP.out.mono ?_
  rintro e w5 ⟨u5, rfl, ho5, hb5⟩
  obtain ⟨qa, qc, rfl⟩ := ho5.shape
  have HM0 : Hid (LearnM w5 W4.heap.size (.slice qa f.clauses[j].length qc) (.slice none 0 0) f.clauses[j] []) := ⟨ho5, OwnI.nil _ _ _ (Nat.le_refl _), fun p _ e => by cases e⟩
  have HB50 := Lib.hid hb5
  clear ho5 hb5
  go_wp2_with fail
  go_loopw [7, 8, 9] (fun lv ov iv wr => ∃ (i : Nat) (lk out : List Int), iv = .int .i64 i ∧ Hid (LearnInv f.letters U.known lk i out) ∧ Hid (learnGo f.clauses U (11 - i) i lk out = learnOut f.clauses U) ∧ Hid (LearnM wr W4.heap.size lv ov lk out) ∧ Hid (Below W4.heap.size W4 wr)) (fun _ _ iv _ => 11 - (intOf iv).toNat)
  case atStart => exact ⟨0, _, _, rfl, HI0, HG0, HM0, HB50⟩
  case round =>
    clear HI0 HG0 HM0 HB50 HCP
    obtain ⟨i, lk, out, rfl, HI, HGo, HM, HBr⟩ := hrel
    have hl10 := HI.out.ok.cons.len hL10
    obtain ⟨la, lc, rfl⟩ := HM.out.a.shape
    obtain ⟨oa, oc, rfl⟩ := HM.out.b.shape
    have hsr := HBr.out.size
    by_cases hlt : i < lk.length
    · obtain ⟨x, hx⟩ : ∃ x, x = lk.getD i 0 := ⟨_, rfl⟩
      have hxm : -x ∈ U.known := by rw [hx]; exact HI.out.ok.opp _ (getD_mem hlt)
      have hxr := HI.out.ok.cons.rng hL10 (getD_mem hlt)
      rw [← hx] at hxr
      have hx1 := hxr.2.1
      have hx2 := hxr.2.2
      obtain ⟨lb, loff, rfl, hlb, hlc⟩ := HM.out.a.rd.cellAt hlt
      have hlci := hlc i hlt
      rw [← hx] at hlci
      obtain ⟨p1, p2, p3⟩ := posI_spec hxm
      obtain ⟨p, hp⟩ : ∃ p, p = posI U.known (-x) := ⟨_, rfl⟩
      rw [← hp] at p1 p2 p3
      have HIX : Hid (∀ n, Calls Try.prog 100 #[.slice va U.known.length vc, .int .i64 (-x)] (wr.drewN n) fun e w' => e = .returned (.int .i64 (p : Int)) ∧ wr.drewN n = w') := fun n => indexI_any _ U.known (-x) p _ ((HK4.out.below HBr.out (by omega)).drewN n) p1 p2 p3
      obtain ⟨y, hy⟩ : ∃ y, y = U.why.getD p 0 := ⟨_, rfl⟩
      have hpw : p < U.why.length := by rw [HOK.out.len]; exact p1
      obtain ⟨yb, yoff, hyae, hyb, hyc⟩ := HY4.out.cellAt hpw
      subst hyae
      have hyr := hyc p hpw
      rw [← hy, ← HBr.out.cell (p := ⟨yb, yoff + p, none⟩) (show yb < W4.heap.size by omega)] at hyr
      have t0 := (HT.out.below HBr.out hsz4).c0
      have HX := Lib.hid hx
      have HP := Lib.hid hp
      have HY := Lib.hid hy
      have kx : I64 x := by unfold I64; omega
      have HOP : Hid (¬ y < 0 → ∃ j, ∃ h : j < f.clauses.length, y = (j : Int) ∧ OppOk U.known x f.clauses[j]) := fun h0 => by
        have h1 := why_clause HOK.out HWY.out hxm (by rw [← HP.out, ← HY.out]; exact h0)
        rw [← HP.out, ← HY.out] at h1
        exact h1
      have HTK : Hid (y < 0 → learnGo f.clauses U (11 - (i + 1)) (i + 1) lk (out ++ [x]) = learnOut f.clauses U) := fun h0 => by
        rw [← HGo.out, learn_take hl10 hlt (by rw [← HX.out, ← HP.out, ← HY.out]; exact h0), ← HX.out]
      have HAD : Hid (¬ y < 0 → ∀ c, f.clauses.getD y.toNat [] = c → learnGo f.clauses U (11 - (i + 1)) (i + 1) (learnAdd x lk c) out = learnOut f.clauses U) := fun h0 c hc => by
        rw [← HGo.out, learn_add hl10 hlt (by rw [← HX.out, ← HP.out, ← HY.out]; exact h0), ← HX.out, ← HP.out, ← HY.out, hc]
      clear hx hp hy hxm hxr hlc hyc p1 p2 p3
      go_wp2_with fail
      go_quiet ((go_at_call 100; exact quiet_same (HIX.out _)))
      obtain ⟨w1, hw1⟩ : ∃ w1, w1 = wr.drewN nq := ⟨_, rfl⟩
      rw [← hw1]
      have hD1 : Drew wr w1 := by rw [hw1]; exact Drew.one _ _
      have hlc1 : w1.cell? ⟨lb, loff + i, none⟩ = some (.int .i64 x) := by rw [hD1.cell]; exact hlci
      have hyr1 : w1.cell? ⟨yb, yoff + p, none⟩ = some (.int .i64 y) := by rw [hD1.cell]; exact hyr
      have HB1 : Hid (Below W4.heap.size W4 w1) := HBr.out.trans (hD1.below _)
      have HM1 := Lib.hid (HM.out.drew hD1)
      have t1 := (HT.out.below HB1.out hsz4).c1
      have c1 := (HB4.out.below HB1.out hwW4).c1
      have hs1 := HB1.out.size
      clear hw1 hD1 hlci hyr t0
      by_cases hw : y < 0
      · have H2 := Lib.hid (HTK.out hw)
        have HI2 : Hid (LearnInv f.letters U.known lk (i + 1) (out ++ [x])) := by rw [HX.out]; exact HI.out.take hlt
        have hol := HI.out.dist.len hL10
        go_wp2_with (at_builtin; refine wpList_app1K rfl _ _ rfl _ out rfl x _ HM1.out.b rfl kx (by omega) hs1 ?_)
        intro v3 w3 ho3 hk3 hsm3 hz3 hb3
        have HM3 := Lib.hid ((HM1.out.swap.grow ho3 hk3 (by omega) (Nat.le_succ _) hb3).swap)
        have HB3 := Lib.hid (HB1.out.trans (hsm3.below (Nat.le_refl _) hs1))
        clear ho3 hk3 hsm3 hz3 hb3
        go_wp2
        go_roundw
        case rel => exact ⟨i + 1, _, _, by go_num, HI2, H2, HM3, HB3⟩
        case measure => simp [intOf]; omega
      · obtain ⟨jc, hjc, hyj, HOPj⟩ : ∃ j, ∃ h : j < f.clauses.length, y = (j : Int) ∧ Hid (OppOk U.known x f.clauses[j]) := HOP.out (by omega)
        have H2 : Hid (learnGo f.clauses U (11 - (i + 1)) (i + 1) (learnAdd x lk f.clauses[jc]) out = learnOut f.clauses U) := HAD.out (by omega) _ (by rw [hyj, Int.toNat_natCast, getD_get hjc])
        subst hyj
        obtain ⟨ca, cc, hck4, hcl4, hfb⟩ := HU4.out.cellAt hjc
        have hck : w1.cell? ⟨fb, foff + jc, none⟩ = some (.slice ca f.clauses[jc].length cc) := by rw [HB1.out.cell (p := ⟨fb, foff + jc, none⟩) (show fb < W4.heap.size by omega)]; exact hck4
        have HCR : Hid (∀ z ∈ f.clauses[jc], -10 ≤ z ∧ z ≤ 10) := fun z hz => by
          have := (HCC.out _ (List.getElem_mem hjc)).rng hL10 hz; omega
        have hcz := HZ.out.row hjc
        obtain ⟨c, hc⟩ : ∃ c, c = f.clauses[jc] := ⟨_, rfl⟩
        rw [← hc] at H2 HOPj hck hcl4 HCR hcz
        have HCL := Lib.hid hcl4
        have HIA : Hid (LearnInv f.letters U.known (learnAdd x lk c) (i + 1) out) := HI.out.add HOK.out.cons hlt HOPj.out
        have HL0 : Hid (LkOk f.letters U.known lk ∧ i < lk.length ∧ lk.getD i 0 = x) := ⟨HI.out.ok, hlt, HX.out.symm⟩
        clear hc hck4 hcl4 HTK HAD HOP HIX
        go_wp2_with fail
        go_quiet (fail)
        obtain ⟨w2', hw2⟩ : ∃ w1', w1' = w1.drewN nq := ⟨_, rfl⟩
        rw [← hw2]
        have hD2 : Drew w1 w2' := by rw [hw2]; exact Drew.one _ _
        have HB2' : Hid (Below W4.heap.size W4 w2') := HB1.out.trans (hD2.below _)
        have HM2 := Lib.hid (HM1.out.drew hD2)
        clear hw2 hD2 hck hlc1 hyr1 t1 c1
        go_wp2_with fail
        go_loopw [7, 61] (fun lv jv wr => ∃ (m : Nat) (lk2 : List Int), m ≤ c.length ∧ jv = .int .i64 m ∧ Hid (learnAdd x lk2 (c.drop m) = learnAdd x lk c) ∧ Hid (LkOk f.letters U.known lk2 ∧ i < lk2.length ∧ lk2.getD i 0 = x) ∧ Hid (LearnM wr W4.heap.size lv (.slice oa out.length oc) lk2 out) ∧ Hid (Below W4.heap.size W4 wr)) (fun _ jv _ => c.length - (intOf jv).toNat)
        case atStart => exact ⟨0, _, Nat.zero_le _, rfl, Lib.hid rfl, HL0, HM2, HB2'⟩
        case round =>
          clear HL0 HM2 HB2'
          obtain ⟨m, lk2, hm, rfl, H3, HL2, HM3, HB3⟩ := hrel
          obtain ⟨hk2, hi2, hx2'⟩ := HL2.out
          have hl2 := hk2.cons.len hL10
          have HK2 := Lib.hid hk2
          have HX2 := Lib.hid hx2'
          obtain ⟨ra, rc, rfl⟩ := HM3.out.a.shape
          obtain ⟨lb2, loff2, rfl, hlb2, hlc2⟩ := HM3.out.a.rd.cellAt hi2
          have hli := hlc2 i hi2
          rw [hx2'] at hli
          have hs3 := HB3.out.size
          clear hk2 hx2' hlc2
          by_cases hml : m < c.length
          · obtain ⟨y, hy⟩ : ∃ y, y = c.getD m 0 := ⟨_, rfl⟩
            have hym : y ∈ c := by rw [hy]; exact getD_mem hml
            obtain ⟨cb, coff, hcae, hcb, hcc⟩ := (HCL.out.below HB3.out hhW4).cellAt hml
            subst hcae
            have hcy := hcc m hml
            rw [← hy] at hcy
            have HD : Hid (c.drop m = y :: c.drop (m + 1)) := by rw [Hid, drop_cons c m hml, hy]; simp [List.getD, hml]
            have hyr := HCR.out y hym
            have hy1 := hyr.1
            have hy2 := hyr.2
            have HYM := Lib.hid hym
            have ky : I64 y := by unfold I64; omega
            clear hy hym hcc hyr
            cases hq : (y != -x)
            · have HN : Hid (learnAdd x lk2 (c.drop (m + 1)) = learnAdd x lk c) := by
                have h1 : (y == -x) = true := by simpa [bne] using hq
                rw [Hid, ← H3.out, HD.out, learnAdd_keep (by rw [h1]; rfl)]
              go_wp2
              go_roundw
              case rel => exact ⟨m + 1, lk2, by omega, by go_num, HN, HL2, HM3, HB3⟩
              case measure => simp [intOf]; omega
            · have HQ : Hid ((y == -x) = false) := by simpa [Hid, bne] using hq
              have HH := Lib.hid (has_any _ lk2 y wr HM3.out.a.rd)
              cases hh : hasI lk2 y
              · have HN : Hid (learnAdd x (lk2 ++ [y]) (c.drop (m + 1)) = learnAdd x lk c) := by rw [Hid, ← H3.out, HD.out, learnAdd_put (by rw [HQ.out, hh]; rfl)]
                have HL3 : Hid (LkOk f.letters U.known (lk2 ++ [y]) ∧ i < (lk2 ++ [y]).length ∧ (lk2 ++ [y]).getD i 0 = x) :=
                  ⟨HK2.out.snoc HOK.out.cons (HOPj.out y HYM.out (by simpa using hq)) hh, by rw [List.length_append]; omega, by rw [getD_app _ _ _ _ hi2]; exact HX2.out⟩
                rw [hh] at HH
                clear hh
                go_wp2_with (first | (go_at_call 92; refine HH.out.mono ?_; rintro e w' ⟨rfl, rfl⟩) | (at_builtin; refine wpList_app1K rfl _ _ rfl _ lk2 rfl y _ HM3.out.a rfl ky (by omega) hs3 ?_))
                intro v3 w3 ho3 hk3 hsm3 hz3 hb3
                obtain ⟨ya, yc, rfl⟩ := ho3.shape1
                have HM4 := Lib.hid (HM3.out.grow ho3 hk3 (by omega) (Nat.le_succ _) hb3)
                have HB4' := Lib.hid (HB3.out.trans (hsm3.below (Nat.le_refl _) hs3))
                clear ho3 hk3 hsm3 hz3 hb3
                go_wp2
                go_roundw
                case rel => exact ⟨m + 1, _, by omega, by go_num, HN, HL3, HM4, HB4'⟩
                case measure => simp [intOf]; omega
              · have HN : Hid (learnAdd x lk2 (c.drop (m + 1)) = learnAdd x lk c) := by rw [Hid, ← H3.out, HD.out, learnAdd_keep (by rw [hh, Bool.or_true])]
                rw [hh] at HH
                clear hh
                go_wp2_with (go_at_call 92; refine HH.out.mono ?_; rintro e w' ⟨rfl, rfl⟩)
                go_roundw
                case rel => exact ⟨m + 1, lk2, by omega, by go_num, HN, HL2, HM3, HB3⟩
                case measure => simp [intOf]; omega
          · obtain rfl : m = c.length := by omega
            have e : lk2 = learnAdd x lk c := by
              have h1 := H3.out
              rw [drop_len _ _ (Nat.le_refl _)] at h1
              exact h1
            have HI2 : Hid (LearnInv f.letters U.known lk2 (i + 1) out) := by rw [e]; exact HIA.out
            have H4 : Hid (learnGo f.clauses U (11 - (i + 1)) (i + 1) lk2 out = learnOut f.clauses U) := by rw [e]; exact H2.out
            clear e
            go_wp2
            go_roundw
            case rel => exact ⟨i + 1, lk2, out, by go_num, HI2, H4, HM3, HB3⟩
            case measure => simp [intOf]; omega
    · have HO : Hid (learnOut f.clauses U = out) := by rw [Hid, ← HGo.out, learn_end hlt]
      have hol := HI.out.dist.len hL10
      have HBL := Lib.hid (byLetter_any _ out wr HM.out.b.rd (Nat.le_refl _) (fun z hz => by have := HI.out.dist.rng hL10 hz; omega) (by omega))
      have HIN : Hid (insUp ltL out.length out = srtL out) := insUp_all_srt HI.out.dist.2
      go_wp2_with fail
      refine HBL.out.mono ?_
      rintro e wf ⟨uf, rfl, hof, hbf⟩
      rw [HIN.out] at hof
      obtain ⟨fa, fc, rfl⟩ := hof.shape
      have HOF := Lib.hid hof
      have HBF := Lib.hid (HB5.out.trans ((HBr.out.trans (hbf.mono hsr)).mono hw24))
      clear hof hbf
      go_wp2
      go_ret2
      exact ⟨_, by rw [HE.out]; rfl, by rw [HE.out, HO.out]; exact HOF.out.mono (by omega) (Nat.le_refl _) (Nat.le_refl _), HBF.out⟩
end Go.Proofs.Ytdeelgnfnhdklaa
