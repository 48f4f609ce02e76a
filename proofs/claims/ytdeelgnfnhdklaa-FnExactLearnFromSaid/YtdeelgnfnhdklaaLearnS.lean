/-
  LearnFrom: contracts in the reference (the head of the walk is written by wip/gen/learns.py out of XLearnI).
-/
import Derived.Test.YtdeelgnfnhdklaaLearnI
namespace Go.Proofs.Ytdeelgnfnhdklaa
open Go.RowKit
set_option linter.unusedVariables false

/-- the marks of the letters that lie in a list -/
def Marks (B : List Bool) (lk : List Int) : Prop := ∀ j : Nat, j < 11 → B.getD j false = hasL lk (j : Int)
theorem marks_nil : Marks (List.replicate 11 false) ([] : List Int) := fun j _ => by rw [replicate_getD]; rfl
theorem hasL_snoc (lk : List Int) (y a : Int) : hasL (lk ++ [y]) a = (hasL lk a || absI y == a) := by simp [hasL, List.any_append]
theorem marks_set {B : List Bool} {lk : List Int} {y : Int} {A : Nat} (h : Marks B lk) (hl : B.length = 11) (hA : absI y = (A : Int)) (hA2 : A < 11) : Marks (B.set A true) (lk ++ [y]) := by
  intro j hj
  rw [hasL_snoc, hA]
  by_cases e : j = A
  · subst e; simp [List.getD, hl, hA2]
  · have e' : ((A : Int) == (j : Int)) = false := by simp; omega
    rw [e', Bool.or_false, ← h j hj]
    simp only [List.getD, List.getElem?_set_ne (show A ≠ j by omega)]
section
variable {w w' : World} {lo q : Nat} {lv ov u : Value} {lk out zs : List Int}
theorem LearnM.other (h : LearnM w lo lv ov lk out) {p : Addr} (hp : p.block < lo) (u : Value) : LearnM (w.setCell p u) lo lv ov lk out :=
  ⟨h.a.setOther p u fun k e => by have := h.a.ge k e; omega, h.b.setOther p u fun k e => by have := h.b.ge k e; omega, h.ap⟩
theorem LearnM.newOut (h : LearnM w lo lv ov lk out) (hlo : lo ≤ w.heap.size) : LearnM (w.alloc (.cells #[] 2)) lo lv (.slice (some ⟨w.heap.size, 0, none⟩) 0 0) lk [] := by
  have hb : Below w.heap.size w (w.alloc (.cells #[] 2)) := alloc_below _ _
  have hs : (w.alloc (.cells #[] 2)).heap.size = w.heap.size + 1 := by simp
  refine ⟨(h.a.below hb (Nat.le_refl _)).mono (Nat.le_refl _) hb.size (Nat.le_refl _), (emptySlice w).mono hlo (by omega) (Nat.le_refl _), fun p hp e => ?_⟩
  have h1 := h.a.own.blk p hp
  simp [Value.ownBlock] at e
  omega
structure LearnQ (w : World) (q lo : Nat) (lv ov : Value) (lk so : List Int) (B : List Bool) : Prop where
  m : LearnM w lo lv ov lk so
  row : RowB w q q 11 11 B
  lt : q < lo
  seen : Marks B lk
theorem LearnQ.drew {B : List Bool} (h : LearnQ w q lo lv ov lk out B) (hd : Drew w w') : LearnQ w' q lo lv ov lk out B := ⟨h.m.drew hd, h.row.drew hd, h.lt, h.seen⟩
end
def learnMid (y x : Int) (c lk out : List Int) (p m : Nat) : List Int × List Int := if m ≤ p then (lk, out) else if y < 0 then (lk, out ++ [x]) else (learnAdd x lk c, out)
section
variable {y x : Int} {c lk out : List Int} {p m : Nat}
theorem mid_le (h : m ≤ p) : learnMid y x c lk out p m = (lk, out) := by rw [learnMid, if_pos h]
theorem mid_skip (h : m ≠ p) : learnMid y x c lk out p (m + 1) = learnMid y x c lk out p m := by
  unfold learnMid
  by_cases h1 : m ≤ p
  · rw [if_pos h1, if_pos (by omega)]
  · rw [if_neg h1, if_neg (by omega)]
theorem mid_given (h : p < m) (hy : y < 0) : learnMid y x c lk out p m = (lk, out ++ [x]) := by rw [learnMid, if_neg (by omega), if_pos hy]
theorem mid_more (h : p < m) (hy : ¬ y < 0) : learnMid y x c lk out p m = (learnAdd x lk c, out) := by rw [learnMid, if_neg (by omega), if_neg hy]
end
set_option maxHeartbeats 2000000 in
set_option maxRecDepth 100000 in
theorem specLearnFrom_any (w : World) {l h l' h' : Nat} (v : Value) (f : FormD) (v' : Value) (g : List Int) (hv : FormR w l h v f) (hh : h ≤ w.heap.size) (hz : SmallII f.clauses) (hv' : Ints w l' h' v' g) (hh' : h' ≤ w.heap.size) (hz' : g.length ≤ 1048576) :
    Calls Try.prog 55 #[v, v'] w fun e w' => ∃ r, e = .returned (.tuple #[r, .bool (learnF f g).2]) ∧ OwnI w' w.heap.size w'.heap.size r (learnF f g).1 ∧ Below w.heap.size w w' := by
  obtain ⟨u, rfl, hu⟩ := hv.ex
  have kL := hv.rng
  obtain ⟨a0, cap0, V0, e0, hcap1, hcap2, _, _⟩ := hu.out
  subst e0
  obtain ⟨ga, gcap, ge, gc1, gc2, _⟩ := hv'.out
  subst ge
  obtain ⟨W, hW⟩ : ∃ W, W = w.alloc (.cells #[.int .i64 f.letters, .slice a0 f.clauses.length cap0] 29) := ⟨_, rfl⟩
  have hsW : W.heap.size = w.heap.size + 1 := by rw [hW]; simp
  have hBW : Below w.heap.size w W := by rw [hW]; exact alloc_below _ _
  have hbx : TwoC W w.heap.size 29 (.int .i64 f.letters) (.slice a0 f.clauses.length cap0) := by rw [hW]; exact TwoC.new _ _ _ _
  have HF := Lib.hid (hv.below hBW hh)
  have HU := Lib.hid (hu.below hBW hh)
  have HG := Lib.hid (hv'.below hBW hh')
  have HB := Lib.hid hbx
  have HBW := Lib.hid hBW
  have hW1 : w.heap.size < W.heap.size := by omega
  have hhW : h ≤ W.heap.size := by omega
  have hhW' : h' ≤ W.heap.size := by omega
  have HZ := Lib.hid hz
  clear hu hv hv' hbx hBW hsW hz
  go_enter Try.func55, Try.ntmps55
  go_wp2_with fail
  rw [← hW]
  clear hW
  refine (l05Is_any W _ _ f HB.out.c0 HB.out.c1 hW1 kL HU.out hhW).mono ?_
  rintro e w2 ⟨rfl, hb2⟩
  have hs2 := hb2.size
  have hbx2 := HB.out.below hb2 hW1
  have q0 := hbx2.c0
  have q1 := hbx2.c1
  have HB2 := Lib.hid hbx2
  have HBW2 := Lib.hid (HBW.out.trans (hb2.mono (by omega)))
  have HG2 := Lib.hid (HG.out.below hb2 hhW')
  have HU2 := Lib.hid (HU.out.below hb2 hhW)
  clear hbx2 hb2
  cases hval : validForm f
  · have HE := Lib.hid (learn_no (f := f) (g := g) (by rw [hval]; rfl))
    go_wp2
    go_ret2
    exact ⟨_, by rw [HE.out]; rfl, by rw [HE.out]; exact OwnI.nil _ _ _ (Nat.le_refl _), HBW2.out⟩
  have bL := (validForm_bounds hval).1
  go_wp2_with fail
  refine (l05Lits_any f.letters _ g w2 bL HG2.out (by omega)).mono ?_
  rintro e w3 ⟨rfl, hb3⟩
  have hs3 := hb3.size
  clear q0 q1
  have hbx3 := HB2.out.below hb3 (by omega)
  have q0 := hbx3.c0
  have q1 := hbx3.c1
  have HB3 := Lib.hid hbx3
  have HBW3 := Lib.hid (HBW2.out.trans (hb3.mono (by omega)))
  have HG3 := Lib.hid (HG2.out.below hb3 (by omega))
  have HU3 := Lib.hid (HU2.out.below hb3 (by omega))
  clear hbx3 hb3
  cases hgv : litsGo f.letters [] g
  · have HE := Lib.hid (learn_no (f := f) (g := g) (by rw [hgv, Bool.and_false]))
    go_wp2
    go_ret2
    exact ⟨_, by rw [HE.out]; rfl, by rw [HE.out]; exact OwnI.nil _ _ _ (Nat.le_refl _), HBW3.out⟩
  have HVG : Hid ((validForm f && litsGo f.letters [] g) = true) := by rw [Hid, hgv, hval]; rfl
  have HEN := Lib.hid (learn_none HVG.out)
  have HEY := Lib.hid (learn_yes HVG.out)
  have HUN := Lib.hid (l05Units_any w3 f.letters _ _ f.clauses g bL.2 HU3.out (by omega) HZ.out (valid_lits hval) HG3.out (by omega) (cons_of_lits hgv))
  have HOK := Lib.hid (unitsF_ok (g := g) bL.2 (valid_lits hval) (cons_of_lits hgv))
  have HWY := Lib.hid (unitsF_why (g := g) (valid_lits hval))
  have HCC : Hid (∀ c ∈ f.clauses, Cons f.letters c) := fun c hc => cons_clause ((validForm_bounds hval).2.2 c hc)
  have hL10 : f.letters ≤ 10 := bL.2
  obtain ⟨U, hU⟩ : ∃ U, U = unitsF f.clauses g := ⟨_, rfl⟩
  rw [← hU] at HUN HOK HWY HEN HEY
  clear hval hgv hU HVG
  go_wp2_with fail
  refine HUN.out.mono ?_
  rintro e w4 ⟨vk, vb, rfl, hok, hob, hb4⟩
  obtain ⟨va, vc, rfl⟩ := hok.shape
  obtain ⟨ba, bc, rfl⟩ := hob.shape
  have hs4 := hb4.size
  have hB4 := HBW3.out.trans (hb4.mono (by omega))
  obtain ⟨W4, hW4⟩ : ∃ W, W = w4.alloc (.cells #[.slice va U.known.length vc, .slice ba U.why.length bc, .int .i64 U.wrong] 77) := ⟨_, rfl⟩
  have hsW4 : W4.heap.size = w4.heap.size + 1 := by rw [hW4]; simp
  have hBW4 : Below w4.heap.size w4 W4 := by rw [hW4]; exact alloc_below _ _
  have HT : Hid (TriC W4 w4.heap.size 77 (.slice va U.known.length vc) (.slice ba U.why.length bc) (.int .i64 U.wrong)) := by rw [Hid, hW4]; exact TriC.new _ _ _ _ _
  have HK4 := Lib.hid (hok.rd.below hBW4 (Nat.le_refl _))
  have HY4 := Lib.hid (hob.rd.below hBW4 (Nat.le_refl _))
  have HB5 : Hid (Below w.heap.size w W4) := hB4.trans (hBW4.mono (by omega))
  have hsz4 : w4.heap.size < W4.heap.size := by omega
  have hw24 : w.heap.size ≤ W4.heap.size := by omega
  have HU4 := Lib.hid ((HU3.out.below hb4 (by omega)).below hBW4 (by omega))
  have HB4 := Lib.hid ((HB3.out.below hb4 (by omega)).below hBW4 (by omega))
  have hwW4 : w.heap.size < W4.heap.size := by omega
  have hhW4 : h ≤ W4.heap.size := by omega
  clear hok hob hb4 hB4 hBW4 q0 q1
  by_cases hwr : U.wrong < 0
  · have HE := Lib.hid (HEN.out hwr)
    have c2 := HT.out.c2
    rw [hW4] at c2
    go_wp2
    go_ret2
    rw [← hW4]
    exact ⟨_, by rw [HE.out]; rfl, by rw [HE.out]; exact OwnI.nil _ _ _ (Nat.le_refl _), HB5.out⟩
  have HE := Lib.hid (HEY.out (by omega))
  obtain ⟨j, hj, hwj⟩ : ∃ j, ∃ h : j < f.clauses.length, U.wrong = (j : Int) := by
    rcases HOK.out.wrong with h1 | ⟨j, h1, h2, _⟩
    · omega
    · exact ⟨j, h1, h2⟩
  obtain ⟨HI0, HG0⟩ : Hid (LearnInv f.letters U.known f.clauses[j] 0 []) ∧ Hid (learnGo f.clauses U (11 - 0) 0 f.clauses[j] [] = learnOut f.clauses U) := learn_start hj hwj HWY.out HCC.out
  obtain ⟨fb, foff, rfl⟩ := HU4.out.addr (by omega)
  obtain ⟨Ws, hWs⟩ : ∃ W, W = W4.alloc (.cells (madeCells #[Value.bool false] 11) 4) := ⟨_, rfl⟩
  obtain ⟨W5, hW5⟩ : ∃ W, W = Ws.alloc (.cells #[] 2) := ⟨_, rfl⟩
  have hsWs : Ws.heap.size = w4.heap.size + 1 + 1 := by rw [hWs]; simp [hsW4]
  have hsW5 : W5.heap.size = w4.heap.size + 1 + 1 + 1 := by rw [hW5]; simp [hsWs]
  have hrow0 : RowB Ws (w4.heap.size + 1) (w4.heap.size + 1) 11 11 (List.replicate 11 false) := by
    rw [hWs, ← hsW4]; exact RowB.made (World.ownsRow_lit W4 _ 11 (Nat.le_refl _) (by simp [maxLen]) (by simp [size_madeCells]))
  have hBs : Below W4.heap.size W4 Ws := by rw [hWs]; exact alloc_below _ _
  have hB5' : Below Ws.heap.size Ws W5 := by rw [hW5]; exact alloc_below _ _
  have HB55 : Hid (Below W4.heap.size W4 W5) := hBs.trans (hB5'.mono (by omega))
  have HR5 : Hid (RowB W5 (w4.heap.size + 1) (w4.heap.size + 1) 11 11 (List.replicate 11 false)) := hrow0.below hB5' (by omega)
  have HO5 : Hid (OwnI W5 (w4.heap.size + 1 + 1) W5.heap.size (.slice (some ⟨w4.heap.size + 1 + 1, 0, none⟩) 0 0) []) := by
    rw [Hid, hsW5, ← hsWs]; rw [hW5]; exact emptySlice Ws
  obtain ⟨ka, kc, hck, hcl, hfb⟩ := HU4.out.cellAt hj
  have HCJ := Lib.hid (hcl.below HB55.out hhW4)
  have hjz := HZ.out.row hj
  have t2 : W5.cell? ⟨w4.heap.size, 2, none⟩ = some (.int .i64 (j : Int)) := by rw [(HT.out.below HB55.out hsz4).c2, hwj]
  have c1 := (HB4.out.below HB55.out hwW4).c1
  have hck5 : W5.cell? ⟨fb, foff + j, none⟩ = some (.slice ka f.clauses[j].length kc) := by rw [HB55.out.cell (p := ⟨fb, foff + j, none⟩) (show fb < W4.heap.size by omega)]; exact hck
  have hmk := l05Lits_made w4
  have t24 : W4.cell? ⟨w4.heap.size, 2, none⟩ = some (.int .i64 (j : Int)) := by rw [HT.out.c2, hwj]
  have HQ5 : Hid (W5 = ((w4.alloc (.cells #[.slice va U.known.length vc, .slice ba U.why.length bc, .int .i64 U.wrong] 77)).alloc (.cells (madeCells #[Value.bool false] 11) 4)).alloc (.cells #[] 2)) := by rw [Hid, hW5, hWs, hW4]
  rw [hW4] at t24
  rw [hW5, hWs, hW4] at t2 c1 hck5
  have hs5 : w4.heap.size + 1 + 1 ≤ W5.heap.size := by omega
  have hsz5 : W4.heap.size ≤ W5.heap.size := by omega
  have hq4 : W4.heap.size ≤ w4.heap.size + 1 := by omega
  have hq5 : w4.heap.size + 1 ≤ W4.heap.size := by omega
  have HB4W : Hid (W4.heap.size ≤ w4.heap.size + 1 + 1) := by rw [Hid]; omega
  have HCR : Hid (∀ z ∈ f.clauses[j], -10 ≤ z ∧ z ≤ 10 ∧ absI z < 11) := fun z hz => by
    have h1 := (HCC.out _ (List.getElem_mem hj)).rng hL10 hz
    have h2 := absI_le ((HCC.out _ (List.getElem_mem hj)).1 z hz)
    omega
  have hc10 := (HCC.out _ (List.getElem_mem hj)).len hL10
  obtain ⟨c0, hc0⟩ : ∃ c, c = f.clauses[j] := ⟨_, rfl⟩
  rw [← hc0] at HI0 HG0 HCJ HCR hjz hck5 hc10
  clear hwr hwj HEN HEY hcl hck hrow0 hBs hB5' hsWs hsW5 hsW4 hW5 hWs hW4 hc0
  go_wp2_with (at_builtin; rw [← HQ5.out]; refine wpList_appIs rfl _ _ rfl _ [] rfl HO5.out _ c0 rfl HCJ.out (by simp; omega) hs5 ?_)
  intro v6 w6 ho6 hsm6 hz6 _
  have HO6 : Hid (OwnI w6 (w4.heap.size + 1 + 1) w6.heap.size v6 c0) := by simpa [Hid] using ho6
  obtain ⟨qa, qc, rfl⟩ := HO6.out.shape
  have HR6 := Lib.hid (HR5.out.keep (hsm6.block (w4.heap.size + 1) (by omega) (by omega)))
  have HB6 : Hid (Below W4.heap.size W4 w6) := HB55.out.trans (hsm6.below HB4W.out hsz5)
  have hs6 : w4.heap.size + 1 + 1 ≤ w6.heap.size := Nat.le_trans hs5 hz6
  clear ho6 hsm6 hz6 t2 c1 hck5 hmk t24 HO5 HR5 HQ5 HCJ
  have HM6 : Hid (LearnM w6 (w4.heap.size + 1 + 1) (.slice qa c0.length qc) (.slice none 0 0) c0 []) := ⟨HO6.out, OwnI.nil _ _ _ (Nat.le_refl _), fun p _ e => by cases e⟩
  go_wp2_with fail
  go_loopw [42] (fun kv wr => ∃ (k : Nat) (B : List Bool), k ≤ c0.length ∧ kv = .int .i64 k ∧ Hid (Marks B (c0.take k)) ∧ Hid (LearnM wr (w4.heap.size + 1 + 1) (.slice qa c0.length qc) (.slice none 0 0) c0 []) ∧ Hid (RowB wr (w4.heap.size + 1) (w4.heap.size + 1) 11 11 B) ∧ Hid (Below W4.heap.size W4 wr) ∧ Hid (Below W4.heap.size w6 wr)) (fun kv _ => c0.length - (intOf kv).toNat)
  case atStart => exact ⟨0, _, Nat.zero_le _, rfl, Lib.hid marks_nil, HM6, HR6, HB6, Lib.hid (Below.refl _ _)⟩
  case round =>
    clear HM6 HR6 HB6
    obtain ⟨k, B, hk, rfl, HMk, HM, HR, HBr, HBr6⟩ := hrel
    by_cases hlt : k < c0.length
    · obtain ⟨x, hx⟩ : ∃ x, x = c0.getD k 0 := ⟨_, rfl⟩
      have hxr := HCR.out _ (getD_mem hlt)
      rw [← hx] at hxr
      obtain ⟨lb, loff, hqe, hlb, hlc⟩ := HM.out.a.rd.cellAt hlt
      subst hqe
      have hlk := hlc k hlt
      rw [← hx] at hlk
      obtain ⟨A, hA⟩ : ∃ A : Nat, absI x = (A : Int) := Int.eq_ofNat_of_zero_le (by unfold absI; split <;> omega)
      have hA2 : A < 11 := by omega
      have hl5 := fun wx => l05Letter_any x (by omega) (by omega) wx
      rw [hA] at hl5
      have Hl5 := Lib.hid hl5
      have HMk2 : Hid (Marks (B.set A true) (c0.take (k + 1))) := by
        have e : c0.take (k + 1) = c0.take k ++ [x] := by rw [List.take_succ_eq_append_getElem hlt, hx]; simp [List.getD, hlt]
        rw [Hid, e]; exact marks_set HMk.out HR.out.length hA hA2
      have hBA := HR.out.cell hA2
      have hfA := HR.out.frozen A
      have HM2 := Lib.hid (HM.out.other (p := ⟨w4.heap.size + 1, A, none⟩) (Nat.lt_succ_self _) (.bool true))
      have HR2 := Lib.hid (HR.out.stored A true)
      have HB2' := Lib.hid (HBr.out.setCell (p := ⟨w4.heap.size + 1, A, none⟩) hq4 (.bool true))
      have HB62 := Lib.hid (HBr6.out.setCell (p := ⟨w4.heap.size + 1, A, none⟩) hq4 (.bool true))
      clear hl5 hxr hx hlc hA
      go_wp2_with (go_at_call 98; refine (Hl5.out _).mono ?_; rintro e w' ⟨rfl, rfl⟩)
      go_roundw
      case rel => exact ⟨k + 1, _, by omega, by go_num, HMk2, HM2, HR2, HB2', HB62⟩
      case measure => simp [intOf]; omega
    · obtain rfl : k = c0.length := by omega
      rw [List.take_length] at HMk
      have HLW : Hid (w4.heap.size + 1 + 1 ≤ wr.heap.size) := Nat.le_trans hs6 HBr6.out.size
      have HM0 := Lib.hid (HM.out.newOut HLW.out)
      have HR0 := Lib.hid (HR.out.alloc (.cells #[] 2))
      have HB0 := Lib.hid (HBr.out.alloc HBr.out.size (.cells #[] 2))
      have HQ0 : Hid (LearnQ (wr.alloc (.cells #[] 2)) (w4.heap.size + 1) (w4.heap.size + 1 + 1) (.slice qa c0.length qc) (.slice (some ⟨wr.heap.size, 0, none⟩) 0 0) c0 (srtL []) B) := ⟨HM0.out, HR0.out, Nat.lt_succ_self _, HMk.out⟩
      clear HM HR HBr HM0 HR0 HMk
      go_wp2_with fail
      go_loopw [8, 10, 11] (fun lv ov iv wr => ∃ (i : Nat) (lk out : List Int) (B : List Bool), iv = .int .i64 i ∧ Hid (LearnInv f.letters U.known lk i out) ∧ Hid (learnGo f.clauses U (11 - i) i lk out = learnOut f.clauses U) ∧ Hid (LearnQ wr (w4.heap.size + 1) (w4.heap.size + 1 + 1) lv ov lk (srtL out) B) ∧ Hid (Below W4.heap.size W4 wr)) (fun _ _ iv _ => 11 - (intOf iv).toNat)
      case atStart => exact ⟨0, _, _, _, rfl, HI0, HG0, HQ0, HB0⟩
      case round =>
        clear HI0 HG0 HQ0 HB0
        obtain ⟨i, lk, out, B, rfl, HI, HGo, HQ, HBr⟩ := hrel
        have hl10 := HI.out.ok.cons.len hL10
        obtain ⟨la, lc, rfl⟩ := HQ.out.m.a.shape
        obtain ⟨oa, oc, rfl⟩ := HQ.out.m.b.shape
        by_cases hlt : i < lk.length
        · obtain ⟨x, hx⟩ : ∃ x, x = lk.getD i 0 := ⟨_, rfl⟩
          have hxm : -x ∈ U.known := by rw [hx]; exact HI.out.ok.opp _ (getD_mem hlt)
          have hxr := HI.out.ok.cons.rng hL10 (getD_mem hlt)
          rw [← hx] at hxr
          have hx1 := hxr.2.1
          have hx2 := hxr.2.2
          obtain ⟨p1, p2, p3⟩ := posI_spec hxm
          obtain ⟨p, hp⟩ : ∃ p, p = posI U.known (-x) := ⟨_, rfl⟩
          rw [← hp] at p1 p2 p3
          have hpu : ∀ m, m < U.known.length → m ≠ p → U.known.getD m 0 ≠ -x := fun m hm hne e => by
            have h1 := HOK.out.cons.getD_ne hm p1 hne
            rw [e, p2] at h1
            exact h1 rfl
          obtain ⟨y, hy⟩ : ∃ y, y = U.why.getD p 0 := ⟨_, rfl⟩
          have hpw : p < U.why.length := by rw [HOK.out.len]; exact p1
          obtain ⟨c, HCX⟩ : ∃ c : List Int, Hid (¬ y < 0 → ∃ j, ∃ h : j < f.clauses.length, y = (j : Int) ∧ f.clauses[j] = c ∧ OppOk U.known x c ∧ learnGo f.clauses U (11 - (i + 1)) (i + 1) (learnAdd x lk c) out = learnOut f.clauses U) := by
            by_cases h0 : y < 0
            · exact ⟨[], fun h => absurd h0 h⟩
            · have h1 := why_clause HOK.out HWY.out hxm (by rw [← hp, ← hy]; exact h0)
              rw [← hp, ← hy] at h1
              obtain ⟨j, h2, h3, h4⟩ := h1
              refine ⟨f.clauses[j], fun _ => ⟨j, h2, h3, rfl, h4, ?_⟩⟩
              rw [← HGo.out, learn_add hl10 hlt (by rw [← hx, ← hp, ← hy]; exact h0), ← hx, ← hp, ← hy, h3, Int.toNat_natCast, getD_get h2]
          have HTK : Hid (y < 0 → learnGo f.clauses U (11 - (i + 1)) (i + 1) lk (out ++ [x]) = learnOut f.clauses U) := fun h0 => by
            rw [← HGo.out, learn_take hl10 hlt (by rw [← hx, ← hp, ← hy]; exact h0), ← hx]
          have HL0 : Hid (LkOk f.letters U.known lk ∧ i < lk.length ∧ lk.getD i 0 = x) := ⟨HI.out.ok, hlt, hx.symm⟩
          have HX := Lib.hid hx
          have HP2 := Lib.hid p2
          have HPU := Lib.hid hpu
          have HY := Lib.hid hy
          have t0 := (HT.out.below HBr.out hsz4).c0
          clear hx hp hy hxm hxr p2 p3 hpu
          go_wp2_with fail
          clear t0
          go_loopw [8, 10, 63] (fun lv ov mv wr => ∃ (m : Nat) (lk2 out2 : List Int) (B : List Bool), m ≤ U.known.length ∧ mv = .int .i64 m ∧ Hid ((lk2, out2) = learnMid y x c lk out p m) ∧ Hid (LkOk f.letters U.known lk2 ∧ i < lk2.length ∧ lk2.getD i 0 = x) ∧ Hid (LearnQ wr (w4.heap.size + 1) (w4.heap.size + 1 + 1) lv ov lk2 (srtL out2) B) ∧ Hid (Below W4.heap.size W4 wr)) (fun _ _ mv _ => U.known.length - (intOf mv).toNat)
          case atStart => exact ⟨0, lk, out, B, Nat.zero_le _, rfl, Lib.hid (mid_le (Nat.zero_le _)).symm, HL0, HQ, HBr⟩
          case round =>
            clear HQ HBr HL0
            obtain ⟨m, lk2, out2, B, hm, rfl, HMD, HL2, HQ, HBr⟩ := hrel
            obtain ⟨hk2, hi2, hx2'⟩ := HL2.out
            have hl2 := hk2.cons.len hL10
            have HK2 := Lib.hid hk2
            have HX2 := Lib.hid hx2'
            obtain ⟨ra, rc, rfl⟩ := HQ.out.m.a.shape
            obtain ⟨sa, sc, rfl⟩ := HQ.out.m.b.shape
            have hkl := HOK.out.cons.len hL10
            clear hk2 hx2'
            by_cases hml : m < U.known.length
            · obtain ⟨z, hz⟩ : ∃ z, z = U.known.getD m 0 := ⟨_, rfl⟩
              obtain ⟨kb, koff, hkae, hkb, hkc⟩ := HK4.out.cellAt hml
              subst hkae
              have hkm := hkc m hml
              rw [← hz, ← HBr.out.cell (p := ⟨kb, koff + m, none⟩) (show kb < W4.heap.size by omega)] at hkm
              obtain ⟨lb, loff, hqe, hlb, hlc⟩ := HQ.out.m.a.rd.cellAt hi2
              subst hqe
              have hli := hlc i hi2
              rw [HX2.out] at hli
              have t0 := (HT.out.below HBr.out hsz4).c0
              have hzr := HOK.out.cons.rng hL10 (getD_mem hml)
              rw [← hz] at hzr
              have hz1 := hzr.2.1
              have hz2 := hzr.2.2
              by_cases hmp : m = p
              · obtain rfl : m = p := hmp
                have hzx : z = -x := by rw [hz]; exact HP2.out
                subst hzx
                have hne : (-x != -x) = false := by simp
                have HE2 : Hid (lk2 = lk ∧ out2 = out) := by
                  have h1 := HMD.out
                  rw [mid_le (Nat.le_refl _)] at h1
                  injection h1 with h1 h2
                  exact ⟨h1, h2⟩
                clear hz hkc hlc hzr
                go_wp2_with fail
                go_quiet (fail)
                obtain ⟨w1, hw1⟩ : ∃ w1, w1 = wr.drewN nq := ⟨_, rfl⟩
                rw [← hw1]
                have hD1 : Drew wr w1 := by rw [hw1]; exact Drew.one _ _
                have hli1 : w1.cell? ⟨lb, loff + i, none⟩ = some (.int .i64 x) := by rw [hD1.cell]; exact hli
                have HB1 : Hid (Below W4.heap.size W4 w1) := HBr.out.trans (hD1.below _)
                have HQ1 := Lib.hid (HQ.out.drew hD1)
                obtain ⟨yb, yoff, hyae, hyb, hyc⟩ := HY4.out.cellAt hpw
                subst hyae
                have hyr := hyc m hpw
                rw [← HY.out, ← HB1.out.cell (p := ⟨yb, yoff + m, none⟩) (show yb < W4.heap.size by omega)] at hyr
                have t1 := (HT.out.below HB1.out hsz4).c1
                have c1 := (HB4.out.below HB1.out hwW4).c1
                have hs1 := HB1.out.size
                clear hw1 hD1 hkm hli t0 hyc hne
                by_cases hw : y < 0
                · have H2 : Hid ((lk2, out2 ++ [x]) = learnMid y x c lk out m (m + 1)) := by rw [Hid, mid_given (Nat.lt_succ_self _) hw, HE2.out.1, HE2.out.2]
                  have HJN : Hid (joinN (srtL out2) x = (srtL (out2 ++ [x]), true)) := by
                    rw [Hid, HE2.out.2]; exact srtL_put HI.out.dist.2 (fun v hv => by rw [HX.out]; exact HI.out.fresh hlt v hv)
                  have hol := HI.out.dist.len hL10
                  rw [← HE2.out.2] at hol
                  have HJ := Lib.hid (l05JoinF_any w1 (lo := w4.heap.size + 1 + 1) _ (srtL out2) x HQ1.out.m.b HQ1.out.row.lt (by rw [srtL_len]; omega) (fun v hv => by
                    rw [srtL_mem, HE2.out.2] at hv
                    have h1 := HI.out.dist.rng hL10 hv
                    omega) hx1 hx2)
                  rw [HJN.out] at HJ
                  go_wp2_with fail
                  refine HJ.out.mono ?_
                  rintro e w2' ⟨u2, rfl, ho2, hbk2, hb2'⟩
                  obtain ⟨ua, uc, rfl⟩ := ho2.shape
                  have HQ2 : Hid (LearnQ w2' (w4.heap.size + 1) (w4.heap.size + 1 + 1) (.slice (some ⟨lb, loff, none⟩) lk2.length rc) (.slice ua (srtL (out2 ++ [x])).length uc) lk2 (srtL (out2 ++ [x])) B) :=
                    ⟨(HQ1.out.m.swap.called ho2 hb2' hbk2).swap, HQ1.out.row.below hb2' HQ1.out.row.lt, Nat.lt_succ_self _, HQ1.out.seen⟩
                  have HB2' : Hid (Below W4.heap.size W4 w2') := HB1.out.trans (hb2'.mono hs1)
                  clear ho2 hbk2 hb2'
                  go_wp2
                  go_roundw
                  case rel => exact ⟨m + 1, lk2, _, B, by omega, by go_num, H2, HL2, HQ2, HB2'⟩
                  case measure => simp [intOf]; omega
                · obtain ⟨jc, hjc, hyj, hcc, hop, hgo⟩ := HCX.out (by omega)
                  subst hyj
                  obtain ⟨ca, cc, hck4, hcl4, _⟩ := HU4.out.cellAt hjc
                  have hcz := HZ.out.row hjc
                  have hcon := HCC.out _ (List.getElem_mem hjc)
                  rw [hcc] at hck4 hcl4 hcz hcon
                  have hck : w1.cell? ⟨fb, foff + jc, none⟩ = some (.slice ca c.length cc) := by rw [HB1.out.cell (p := ⟨fb, foff + jc, none⟩) (show fb < W4.heap.size by omega)]; exact hck4
                  have HCRc : Hid (∀ z ∈ c, -10 ≤ z ∧ z ≤ 10 ∧ absI z < 11) := fun z hz => by
                    have h1 := hcon.rng hL10 hz
                    have h2 := absI_le (hcon.1 z hz)
                    omega
                  have HCL := Lib.hid hcl4
                  have HOP := Lib.hid hop
                  have H30 : Hid (learnAdd x lk2 (c.drop 0) = learnAdd x lk c) := by rw [Hid, HE2.out.1]; rfl
                  have HEND : Hid (∀ lk3, lk3 = learnAdd x lk c → (lk3, out2) = learnMid (jc : Int) x c lk out m (m + 1)) := fun lk3 e => by
                    rw [mid_more (Nat.lt_succ_self _) hw, e, HE2.out.2]
                  clear hck4 hcl4 hop hgo hcc hcon HCX
                  go_wp2_with fail
                  go_quiet (fail)
                  obtain ⟨w2', hw2⟩ : ∃ w1', w1' = w1.drewN nq := ⟨_, rfl⟩
                  rw [← hw2]
                  have hD2 : Drew w1 w2' := by rw [hw2]; exact Drew.one _ _
                  have HB2' : Hid (Below W4.heap.size W4 w2') := HB1.out.trans (hD2.below _)
                  have HQ2 := Lib.hid (HQ1.out.drew hD2)
                  clear hw2 hD2 hck hyr t1 c1 hli1
                  go_wp2_with fail
                  go_loopw [8, 103] (fun lv jv wr => ∃ (mm : Nat) (lk3 : List Int) (B3 : List Bool), mm ≤ c.length ∧ jv = .int .i64 mm ∧ Hid (learnAdd x lk3 (c.drop mm) = learnAdd x lk c) ∧ Hid (LkOk f.letters U.known lk3 ∧ i < lk3.length ∧ lk3.getD i 0 = x) ∧ Hid (LearnQ wr (w4.heap.size + 1) (w4.heap.size + 1 + 1) lv (.slice sa (srtL out2).length sc) lk3 (srtL out2) B3) ∧ Hid (Below W4.heap.size W4 wr)) (fun _ jv _ => c.length - (intOf jv).toNat)
                  case atStart => exact ⟨0, lk2, B, Nat.zero_le _, rfl, H30, HL2, HQ2, HB2'⟩
                  case round =>
                    clear H30 HQ2 HB2'
                    obtain ⟨mm, lk3, B3, hmm, rfl, H3, HL3, HQ3, HB3'⟩ := hrel
                    obtain ⟨hk3, hi3, hx3⟩ := HL3.out
                    have hl3 := hk3.cons.len hL10
                    have HK3 := Lib.hid hk3
                    have HX3 := Lib.hid hx3
                    obtain ⟨ta, tc, rfl⟩ := HQ3.out.m.a.shape
                    clear hk3 hx3
                    by_cases hcm : mm < c.length
                    · obtain ⟨v, hv⟩ : ∃ v, v = c.getD mm 0 := ⟨_, rfl⟩
                      have hvm : v ∈ c := by rw [hv]; exact getD_mem hcm
                      obtain ⟨cb, coff, hcae, hcb, hcc2⟩ := HCL.out.cellAt hcm
                      subst hcae
                      have hcv4 := hcc2 mm hcm
                      rw [← hv] at hcv4
                      have HCV := Lib.hid hcv4
                      have hcv : wr.cell? ⟨cb, coff + mm, none⟩ = some (.int .i64 v) := by rw [HB3'.out.cell (p := ⟨cb, coff + mm, none⟩) (show cb < W4.heap.size by omega)]; exact hcv4
                      obtain ⟨tb, toff, hte, htb, htc⟩ := HQ3.out.m.a.rd.cellAt hi3
                      subst hte
                      have hti := htc i hi3
                      rw [HX3.out] at hti
                      have HD : Hid (c.drop mm = v :: c.drop (mm + 1)) := by rw [Hid, drop_cons c mm hcm, hv]; simp [List.getD, hcm]
                      have hvr := HCRc.out v hvm
                      have hv1 := hvr.1
                      have hv2 := hvr.2.1
                      have kv : I64 v := by unfold I64; omega
                      obtain ⟨A, hA⟩ : ∃ A : Nat, absI v = (A : Int) := Int.eq_ofNat_of_zero_le (by unfold absI; split <;> omega)
                      have hA2 : A < 11 := by omega
                      have hl5 := fun wx => l05Letter_any v (by omega) (by omega) wx
                      rw [hA] at hl5
                      have Hl5 := Lib.hid hl5
                      have HVM := Lib.hid hvm
                      have HA := Lib.hid hA
                      clear hl5 hcv4 htc hcc2 hv hvm hvr hA
                      cases hq : (v != -x)
                      · have HN : Hid (learnAdd x lk3 (c.drop (mm + 1)) = learnAdd x lk c) := by
                          have h1 : (v == -x) = true := by simpa [bne] using hq
                          rw [Hid, ← H3.out, HD.out, learnAdd_keep (by rw [h1]; rfl)]
                        go_wp2_with fail
                        go_quiet (fail)
                        have HQ4 := Lib.hid (HQ3.out.drew (Drew.one wr nq))
                        have HB4' : Hid (Below W4.heap.size W4 (wr.drewN nq)) := HB3'.out.trans ((Drew.one wr nq).below _)
                        go_wp2
                        go_roundw
                        case rel => exact ⟨mm + 1, lk3, B3, by omega, by go_num, HN, HL3, HQ4, HB4'⟩
                        case measure => simp [intOf]; omega
                      · have HQN : Hid ((v == -x) = false) := by simpa [Hid, bne] using hq
                        have HVK : Hid (-v ∈ U.known) := HOP.out v HVM.out (by simpa using hq)
                        have hBA := HQ3.out.row.cell hA2
                        have hse : B3.getD A false = hasI lk3 v := by rw [HQ3.out.seen A hA2, ← HA.out, HK3.out.seen HOK.out.cons HVK.out]
                        rw [hse] at hBA
                        clear hse
                        cases hh : hasI lk3 v
                        · have HN : Hid (learnAdd x (lk3 ++ [v]) (c.drop (mm + 1)) = learnAdd x lk c) := by rw [Hid, ← H3.out, HD.out, learnAdd_put (by rw [HQN.out, hh]; rfl)]
                          have HL4 : Hid (LkOk f.letters U.known (lk3 ++ [v]) ∧ i < (lk3 ++ [v]).length ∧ (lk3 ++ [v]).getD i 0 = x) :=
                            ⟨HK3.out.snoc HOK.out.cons HVK.out hh, by rw [List.length_append]; omega, by rw [getD_app _ _ _ _ hi3]; exact HX3.out⟩
                          rw [hh] at hBA
                          have HMS : Hid (Marks (B3.set A true) (lk3 ++ [v])) := marks_set HQ3.out.seen HQ3.out.row.length HA.out hA2
                          clear hh
                          go_wp2_with fail
                          go_quiet ((go_at_call 98; exact quiet_same (Hl5.out _)))
                          obtain ⟨w7, hw7⟩ : ∃ w7, w7 = wr.drewN nq := ⟨_, rfl⟩
                          rw [← hw7]
                          have hD7 : Drew wr w7 := by rw [hw7]; exact Drew.one _ _
                          have HB7 : Hid (Below W4.heap.size W4 w7) := HB3'.out.trans (hD7.below _)
                          have HQ7 := Lib.hid (HQ3.out.drew hD7)
                          have hcv7 : w7.cell? ⟨cb, coff + mm, none⟩ = some (.int .i64 v) := by rw [hD7.cell]; exact hcv
                          have hBA7 : w7.cell? ⟨w4.heap.size + 1, A, none⟩ = some (.bool false) := by rw [hD7.cell]; exact hBA
                          have hfA := HQ7.out.row.frozen A
                          have HB8 := Lib.hid (HB7.out.setCell (p := ⟨w4.heap.size + 1, A, none⟩) hq4 (.bool true))
                          have hcv8 : (w7.setCell ⟨w4.heap.size + 1, A, none⟩ (.bool true)).cell? ⟨cb, coff + mm, none⟩ = some (.int .i64 v) := by rw [HB8.out.cell (p := ⟨cb, coff + mm, none⟩) (show cb < W4.heap.size by omega)]; exact HCV.out
                          have HM8 := Lib.hid (HQ7.out.m.other (p := ⟨w4.heap.size + 1, A, none⟩) (Nat.lt_succ_self _) (.bool true))
                          have HR8 := Lib.hid (HQ7.out.row.stored A true)
                          have HSE : Hid ((w7.setCell ⟨w4.heap.size + 1, A, none⟩ (.bool true)).heap.size = w7.heap.size) := by simp [Hid, World.setCell]
                          have hs8 : w4.heap.size + 1 + 1 ≤ (w7.setCell ⟨w4.heap.size + 1, A, none⟩ (.bool true)).heap.size := by rw [HSE.out]; exact HQ7.out.row.lt
                          have HS8 := Lib.hid hs8
                          clear hw7 hD7 hcv hBA hti hs8
                          go_wp2_with (first | (go_at_call 98; refine (Hl5.out _).mono ?_; rintro e w' ⟨rfl, rfl⟩) | (at_builtin; refine wpList_app1K rfl _ _ rfl _ lk3 rfl v _ HM8.out.a (by rw [HSE.out]; rfl) kv (by omega) HS8.out ?_))
                          intro v9 w9 ho9 hk9 hsm9 hz9 hb9
                          obtain ⟨ya, yc, rfl⟩ := ho9.shape1
                          have HB9 : Hid (Below W4.heap.size W4 w9) := HB8.out.trans (hsm9.below HB4W.out (Nat.le_trans HB4W.out HS8.out))
                          have hk9' : ∀ k, k < (w7.setCell ⟨w4.heap.size + 1, A, none⟩ (.bool true)).heap.size → (Value.slice (some ⟨tb, toff, none⟩) lk3.length tc).ownBlock ≠ some k → w9.heap[k]? = (w7.setCell ⟨w4.heap.size + 1, A, none⟩ (.bool true)).heap[k]? := fun k hk hn => hk9 k (by rw [HSE.out] at hk; exact hk) hn
                          have HQ9 : Hid (LearnQ w9 (w4.heap.size + 1) (w4.heap.size + 1 + 1) (.slice ya (lk3.length + 1) yc) (.slice sa (srtL out2).length sc) (lk3 ++ [v]) (srtL out2) (B3.set A true)) :=
                            ⟨HM8.out.grow ho9 hk9' (by rw [HSE.out]; omega) (by rw [HSE.out]; exact Nat.le_succ _) hb9, HR8.out.keep (hk9' (w4.heap.size + 1) HR8.out.lt (fun e => by have := HM8.out.a.ge _ e; omega)), Nat.lt_succ_self _, HMS.out⟩
                          clear ho9 hk9 hk9' hsm9 hz9 hb9 hcv7 hBA7 hcv8 hfA
                          go_wp2
                          go_roundw
                          case rel => exact ⟨mm + 1, _, _, by omega, by go_num, HN, HL4, HQ9, HB9⟩
                          case measure => simp [intOf]; omega
                        · have HN : Hid (learnAdd x lk3 (c.drop (mm + 1)) = learnAdd x lk c) := by rw [Hid, ← H3.out, HD.out, learnAdd_keep (by rw [hh, Bool.or_true])]
                          rw [hh] at hBA
                          clear hh
                          go_wp2_with fail
                          go_quiet ((go_at_call 98; exact quiet_same (Hl5.out _)))
                          have HQ4 := Lib.hid (HQ3.out.drew (Drew.one wr nq))
                          have HB4' : Hid (Below W4.heap.size W4 (wr.drewN nq)) := HB3'.out.trans ((Drew.one wr nq).below _)
                          go_wp2
                          go_roundw
                          case rel => exact ⟨mm + 1, lk3, B3, by omega, by go_num, HN, HL3, HQ4, HB4'⟩
                          case measure => simp [intOf]; omega
                    · obtain rfl : mm = c.length := by omega
                      have e : lk3 = learnAdd x lk c := by
                        have h1 := H3.out
                        rw [drop_len _ _ (Nat.le_refl _)] at h1
                        exact h1
                      have H4 := Lib.hid (HEND.out lk3 e)
                      clear e
                      go_wp2
                      go_roundw
                      case rel => exact ⟨m + 1, lk3, out2, B3, by omega, by go_num, H4, HL3, HQ3, HB3'⟩
                      case measure => simp [intOf]; omega
              · have hne : (z != -x) = true := by
                  have h1 := HPU.out m hml hmp
                  rw [← hz] at h1
                  simpa using h1
                have H2 : Hid ((lk2, out2) = learnMid y x c lk out p (m + 1)) := by rw [Hid, mid_skip hmp]; exact HMD.out
                clear hz hkc hlc hzr hmp
                go_wp2_with fail
                go_quiet (fail)
                have HQ1 := Lib.hid (HQ.out.drew (Drew.one wr nq))
                have HB1 : Hid (Below W4.heap.size W4 (wr.drewN nq)) := HBr.out.trans ((Drew.one wr nq).below _)
                go_wp2
                go_roundw
                case rel => exact ⟨m + 1, lk2, out2, B, by omega, by go_num, H2, HL2, HQ1, HB1⟩
                case measure => simp [intOf]; omega
            · obtain rfl : m = U.known.length := by omega
              have HN : Hid (LearnInv f.letters U.known lk2 (i + 1) out2 ∧ learnGo f.clauses U (11 - (i + 1)) (i + 1) lk2 out2 = learnOut f.clauses U) := by
                have h1 := HMD.out
                by_cases hw : y < 0
                · rw [mid_given p1 hw] at h1
                  injection h1 with h1 h2
                  rw [h1, h2]
                  exact ⟨by rw [HX.out]; exact HI.out.take hlt, HTK.out hw⟩
                · rw [mid_more p1 hw] at h1
                  injection h1 with h1 h2
                  obtain ⟨jc, hjc, hyj, hcc, hop, hgo⟩ := HCX.out (by omega)
                  rw [h1, h2]
                  exact ⟨HI.out.add HOK.out.cons hlt hop, hgo⟩
              obtain ⟨HN1, HN2⟩ : Hid (LearnInv f.letters U.known lk2 (i + 1) out2) ∧ Hid (learnGo f.clauses U (11 - (i + 1)) (i + 1) lk2 out2 = learnOut f.clauses U) := HN.out
              clear HN
              go_wp2
              go_roundw
              case rel => exact ⟨i + 1, lk2, out2, B, by go_num, HN1, HN2, HQ, HBr⟩
              case measure => simp [intOf]; omega
        · have HO : Hid (learnOut f.clauses U = out) := by rw [Hid, ← HGo.out, learn_end hlt]
          go_wp2
          go_ret2
          exact ⟨_, by rw [HE.out]; rfl, by rw [HE.out, HO.out]; exact HQ.out.m.b.mono (by omega) (Nat.le_refl _) (Nat.le_refl _), HB5.out.trans (HBr.out.mono hw24)⟩
end Go.Proofs.Ytdeelgnfnhdklaa
