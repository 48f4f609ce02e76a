/-
  ThinForm leaves out clauses of which others are parts: contracts in the reference and in the program.
-/
import Derived.Test.YtcpbgjnijhcpkaaStep
import Derived.Test.YtcpbgjnijhcpkaaPart
import Derived.Test.YtcpbgjnijhcpkaaCopy
import Derived.Test.YtcpbgjnijhcpkaaTwo
import Derived.Deep.RegionLaw
namespace Go.Proofs.Ytcpbgjnijhcpkaa
open Go.RowKit
set_option linter.unusedVariables false
set_option maxRecDepth 100000

def thinTold (cs : List (List Int)) (i k : Nat) : Bool :=
  !(decide (k = i)) && (isPart (cs.getD k []) (cs.getD i []) && (decide ((cs.getD k []).length < (cs.getD i []).length) || decide (k < i)))
def thinAny (cs : List (List Int)) (i n : Nat) : Bool := (List.range n).any (thinTold cs i)
theorem thinAny_succ (cs : List (List Int)) (i n : Nat) : thinAny cs i (n + 1) = (thinAny cs i n || thinTold cs i n) := by
  simp [thinAny, List.range_succ, List.any_append]
def thinTo (cs : List (List Int)) (n : Nat) : List (List Int) := ((List.range n).filter fun i => !thinAny cs i cs.length).map fun i => cs.getD i []
theorem thinTo_no {cs : List (List Int)} {n : Nat} (h : thinAny cs n cs.length = true) : thinTo cs (n + 1) = thinTo cs n := by
  simp [thinTo, List.range_succ, List.filter_append, h]
theorem thinTo_yes {cs : List (List Int)} {n : Nat} (h : thinAny cs n cs.length = false) (hn : n < cs.length) : thinTo cs (n + 1) = thinTo cs n ++ [cs[n]] := by
  simp [thinTo, List.range_succ, List.filter_append, h, List.getD, hn]
theorem thinTo_len (cs : List (List Int)) (n : Nat) : (thinTo cs n).length ≤ n := by
  have := List.length_filter_le (fun i => !thinAny cs i cs.length) (List.range n)
  simpa [thinTo] using this
theorem thinTo_sum (cs : List (List Int)) (n : Nat) (hn : n ≤ cs.length) : ((thinTo cs n).map List.length).sum ≤ (cs.map List.length).sum := by
  have h : ∀ n, n ≤ cs.length → ((thinTo cs n).map List.length).sum ≤ offs cs n := by
    intro n
    induction n with
    | zero => intro _; simp [thinTo]
    | succ n ih =>
      intro hn
      have h1 := ih (by omega)
      have h2 := offs_succ cs n (by omega)
      cases h : thinAny cs n cs.length
      · rw [thinTo_yes h (by omega), List.map_append, List.sum_append]; simp; omega
      · rw [thinTo_no h]; omega
  have := h n hn
  have := offs_le cs n
  omega
def thinForm (f : FormD) : FormD × Bool := if validForm f then (⟨f.letters, thinTo f.clauses f.clauses.length⟩, true) else (⟨0, []⟩, false)
theorem told_same {cs : List (List Int)} {i k : Nat} (h : k = i) : thinTold cs i k = false := by simp [thinTold, h]
theorem told_apart {cs : List (List Int)} {i k : Nat} (hi : i < cs.length) (hk : k < cs.length) (h : k ≠ i) : thinTold cs i k = (isPart cs[k] cs[i] && (decide (cs[k].length < cs[i].length) || decide (k < i))) := by
  simp [thinTold, h, List.getD, hi, hk]
set_option maxHeartbeats 2000000 in
set_option maxRecDepth 100000 in
theorem implThinForm_any (w : World) {l h : Nat} (v : Value) (f : FormD) (hv : FormR w l h v f) (hh : h ≤ w.heap.size) (hz : SmallII f.clauses) :
    Calls Try.prog 41 #[v] w fun e w' => ∃ r, e = .returned (.tuple #[r, .bool (thinForm f).2]) ∧ OwnF w' w.heap.size w'.heap.size r (thinForm f).1 ∧ Below w.heap.size w w' := by
  obtain ⟨u, rfl, hu⟩ := hv.ex
  have kL := hv.rng
  obtain ⟨a0, cap0, V0, e0, _⟩ := hu.out
  subst e0
  obtain ⟨W1, hW1⟩ : ∃ W, W = w.alloc (.cells #[.int .i64 f.letters, .slice a0 f.clauses.length cap0] 26) := ⟨_, rfl⟩
  obtain ⟨W, hW⟩ : ∃ W, W = W1.alloc (.cells #[.int .i64 0, .slice none 0 0] 26) := ⟨_, rfl⟩
  have hs1 : W1.heap.size = w.heap.size + 1 := by rw [hW1]; simp
  have hsW : W.heap.size = w.heap.size + 2 := by rw [hW]; simp [hs1]
  have hB1 : Below w.heap.size w W1 := by rw [hW1]; exact alloc_below _ _
  have hBW : Below w.heap.size w W := by rw [hW]; exact hB1.alloc (by omega) _
  have hbx : TwoC W w.heap.size 26 (.int .i64 f.letters) (.slice a0 f.clauses.length cap0) := by rw [hW]; refine TwoC.alloc ?_ _; rw [hW1]; exact TwoC.new _ _ _ _
  have hbr : TwoC W (w.heap.size + 1) 26 (.int .i64 0) (.slice none 0 0) := by rw [hW, ← hs1]; exact TwoC.new _ _ _ _
  have HU := Lib.hid (hu.below hBW hh)
  have HF := Lib.hid (hv.below hBW hh)
  have HB := Lib.hid hbx
  have HR := Lib.hid hbr
  have hcl : f.clauses.length ≤ 1048576 := hz.1
  have HZ := Lib.hid hz
  clear hu hv hbr hB1
  go_enter Try.func41, Try.ntmps41
  go_wp2_with fail
  rw [← hW1, ← hW]
  have q0 := hbx.c0
  have q1 := hbx.c1
  clear hW hW1 hbx
  go_wp2_with fail
  refine (implValidForm_any W _ _ HF.out (by omega) HZ.out).mono ?_
  rintro e w2 ⟨rfl, hb2⟩
  have hs2 := hb2.size
  have hbr2 := HR.out.below hb2 HR.out.lt
  have HR2 := Lib.hid hbr2
  have r0 := hbr2.c0
  have r1 := hbr2.c1
  have g0 := hbr2.f0
  have g1 := hbr2.f1
  clear hbr2 q0 q1
  cases hval : validForm f
  · have HE := Lib.hid (show thinForm f = (⟨0, []⟩, false) by simp [thinForm, hval])
    go_wp2_with fail
    refine bodyPost_ret (v := .tuple #[.agg #[.int .i64 0, .slice none 0 0], .bool false]) (by simp [results, Try.results41, go_sem, r0, r1]) rfl ⟨_, by rw [HE.out], by rw [HE.out]; exact noForm _ _ (Nat.le_refl _) _, ?_⟩
    exact ((hBW.trans (hb2.mono hBW.size)).setCell (by simp) _).setCell (by simp) _
  · have HE := Lib.hid (show thinForm f = (⟨f.letters, thinTo f.clauses f.clauses.length⟩, true) by simp [thinForm, hval])
    obtain ⟨W3, hW3⟩ : ∃ W, W = w2.alloc (.cells #[.int .i64 f.letters, .slice none 0 0] 26) := ⟨_, rfl⟩
    have hs3 : W3.heap.size = w2.heap.size + 1 := by rw [hW3]; simp
    have hb3 : Below w2.heap.size w2 W3 := by rw [hW3]; exact alloc_below _ _
    have hp3 : TwoC W3 w2.heap.size 26 (.int .i64 f.letters) (.slice none 0 0) := by rw [hW3]; exact TwoC.new _ _ _ _
    have hbx2 := HB.out.below hb2 HB.out.lt
    have HB2 := Lib.hid hbx2
    have q0 := hbx2.c0
    have q1 := hbx2.c1
    have HU2 := Lib.hid (HU.out.below hb2 (by omega))
    have q1a := (hbx2.alloc (.cells #[.int .i64 f.letters, .slice none 0 0] 26)).c1
    clear hval hbx2 HF
    go_wp2_with fail
    rw [← hW3]
    clear q0 q1 q1a r0 r1 g0 g1 hW3
    go_loopw [20] (fun i wr => ∃ (k : Nat) (ov : Value), k ≤ f.clauses.length ∧ i = .int .i64 k ∧ TwoC wr w2.heap.size 26 (.int .i64 f.letters) ov ∧ OwnII wr (w2.heap.size + 1) wr.heap.size ov (thinTo f.clauses k) ∧ Below w2.heap.size w2 wr) (fun i _ => f.clauses.length - (intOf i).toNat)
    case atStart => exact ⟨0, _, Nat.zero_le _, rfl, hp3, OwnII.nil _ _ _ (Nat.le_refl _), hb3⟩
    case round =>
      clear hp3 hb3 hs3
      obtain ⟨k, ov, hk, rfl, hp, ho, hb⟩ := hrel
      have hsr := hb.size
      have HP := Lib.hid hp
      have HO := Lib.hid ho
      have hbx := HB2.out.below hb HB2.out.lt
      have q0 := hbx.c0
      have q1 := hbx.c1
      have hx := HU2.out.below hb (by omega)
      obtain ⟨a1, cap1, V, e1, hc1, hc2, hV, hd⟩ := hx.out
      simp only [Value.slice.injEq] at e1
      obtain ⟨rfl, _, rfl⟩ := e1
      have HV := Lib.hid hV
      clear hV hp ho hx
      by_cases hlt : k < f.clauses.length
      · rcases hd with hd | ⟨b, off, rfl, hb1, hbb2, hbb3, hcell⟩
        · rw [hd] at hlt; simp at hlt
        have hck := hcell k hlt
        have HC := Lib.hid hcell
        obtain ⟨ka, kc, hke, _⟩ := (HV.out k hlt).out
        rw [hke] at hck
        have HKE := Lib.hid hke
        have hxk := HV.out k hlt
        rw [hke] at hxk
        have HXK := Lib.hid hxk
        have HN0 : Hid (thinAny f.clauses k 0 = false) := rfl
        clear hcell hke hxk
        obtain ⟨wu, hwu⟩ : ∃ wu : World, wu = wr := ⟨_, rfl⟩
        rw [← hwu] at hb hsr HP HO hbx q0 q1 HC HV hck HXK
        rw [← hwu]
        clear hwu
        go_wp2_with fail
        go_loopw [7, 28] (fun t j wr => ∃ m : Nat, m ≤ f.clauses.length ∧ j = .int .i64 m ∧ t = .bool (!thinAny f.clauses k m) ∧ wu = wr) (fun _ j _ => f.clauses.length - (intOf j).toNat)
        case atStart => exact ⟨0, Nat.zero_le _, rfl, by rw [HN0.out]; rfl, rfl⟩
        case round =>
          obtain ⟨m, hm, rfl, rfl, rfl⟩ := hrel
          have HS := Lib.hid (thinAny_succ f.clauses k m)
          by_cases hml : m < f.clauses.length
          · have hcm := HC.out m hml
            obtain ⟨ma, mc, hme, _⟩ := (HV.out m hml).out
            rw [hme] at hcm
            have hxm := HV.out m hml
            rw [hme] at hxm
            have HXM := Lib.hid hxm
            clear hxm hme
            by_cases hmk : m = k
            · have HT := Lib.hid (told_same (cs := f.clauses) hmk)
              obtain rfl : m = k := hmk
              have hne : ((m : Int) != (m : Int)) = false := by simp
              go_wp2
              go_roundw
              case rel => exact ⟨m + 1, by omega, by go_num, by rw [HS.out, HT.out, Bool.or_false], by first | rfl | trivial⟩
              case measure => simp [intOf]; omega
            · have HT := Lib.hid (told_apart hlt hml hmk)
              have hne : ((m : Int) != (k : Int)) = true := by simp; omega
              cases hpt : isPart f.clauses[m] f.clauses[k]
              · go_wp2_with (go_at_call 99; refine (isPart_any _ _ _ _ _ HXM.out HXK.out).mono ?_; rintro e w' ⟨rfl, rfl⟩)
                go_roundw
                case rel => exact ⟨m + 1, by omega, by go_num, by rw [HS.out, HT.out, hpt, Bool.false_and, Bool.or_false], by first | rfl | trivial⟩
                case measure => simp [intOf]; omega
              · cases hl : decide (f.clauses[m].length < f.clauses[k].length) <;> cases hmk2 : decide (m < k)
                case false.false =>
                  go_wp2_with (go_at_call 99; refine (isPart_any _ _ _ _ _ HXM.out HXK.out).mono ?_; rintro e w' ⟨rfl, rfl⟩)
                  go_roundw
                  case rel => exact ⟨m + 1, by omega, by go_num, by rw [HS.out, HT.out, hpt, hl, hmk2, Bool.true_and, Bool.or_false, Bool.or_false], by first | rfl | trivial⟩
                  case measure => simp [intOf]; omega
                all_goals
                  go_wp2_with (go_at_call 99; refine (isPart_any _ _ _ _ _ HXM.out HXK.out).mono ?_; rintro e w' ⟨rfl, rfl⟩)
                  go_roundw
                  case rel => exact ⟨m + 1, by omega, by go_num, by rw [HS.out, HT.out, hpt, hl, hmk2]; simp, by first | rfl | trivial⟩
                  case measure => simp [intOf]; omega
          · obtain rfl : m = f.clauses.length := by omega
            have hDw : Drew wu wu.drew := ⟨1, rfl⟩
            clear HS
            cases ht : thinAny f.clauses k f.clauses.length
            · obtain ⟨oa, oc, rfl⟩ := HO.out.shape
              have c66 := HP.out.c1
              have hzk := HZ.out.row hlt
              have hplt := HP.out.lt
              have hln := thinTo_len f.clauses k
              have hsum : ((thinTo f.clauses k ++ [f.clauses[k]]).map List.length).sum ≤ 1099511627776 := by
                have h1 := thinTo_sum f.clauses k (by omega)
                have h2 := HZ.out.2
                simp; omega
              have HXD := Lib.hid (HXK.out.drew hDw)
              go_wp2_with fail
              go_region_law (first | (go_simp; go_at_call 64; refine (copyInts_any _ f.clauses[k] wu.drew HXD.out (by rw [hDw.heap]; omega) (by omega)).mono ?_; rintro e w3 ⟨u3, rfl, ho3, hb3⟩; obtain ⟨qa, qc, rfl⟩ := ho3.shape; have hb3' : Below wu.heap.size wu w3 := (hDw.below _).trans hb3; have hz3 := hb3'.size; have kb3 : Below w2.heap.size wu w3 := hb3'.mono (by omega); have hp3 := HP.out.below hb3' hplt; have ho3' := HO.out.below hb3' (Nat.le_refl _); have c66b := hp3.c1; have c66c := (hp3.alloc (.cells #[.slice qa f.clauses[k].length qc] 34)).c1) | ((refine step_appII (by rfl) _ _ (by rfl) _ (thinTo f.clauses k) (by rfl) _ f.clauses[k] _ ho3' ho3 (Nat.le_refl _) (show w2.heap.size + 1 ≤ wu.heap.size by omega) (by rfl) (by omega) hsum (by omega) ?_; intro v4 w4 ho4 hsm4 hz4; obtain ⟨ya, yc, rfl⟩ := ho4.shape1; have hp4 := hp3.same hsm4 (.inl (Nat.lt_succ_self _)); have c4 := hp4.c1; have f4 := hp4.f1; have kb4 := kb3.trans (hsm4.below (B := w2.heap.size) (by omega) (by omega)))))
              all_goals
                have HF := Lib.hid (thinTo_yes ht hlt)
                go_wp2
                go_roundw
                case rel =>
                  refine ⟨k + 1, _, by omega, by go_num, hp4.set1 _, ?_, hb.trans (kb4.setCell (Nat.le_refl _) _)⟩
                  rw [HF.out]
                  exact (ho4.same (set1_same _ _ _ _) (.inr (Nat.le_refl _))).mono (Nat.le_refl _) (set1_same _ _ _ _).size (Nat.le_refl _)
                case measure => simp [intOf]; omega
            · go_wp2
              go_roundw
              case rel => exact ⟨k + 1, _, by omega, by go_num, HP.out, by rw [thinTo_no ht]; exact HO.out, hb⟩
              case measure => simp [intOf]; omega
      · obtain rfl : k = f.clauses.length := by omega
        obtain ⟨oa, oc, rfl⟩ := HO.out.shape
        have hp := HP.out
        have c0 := hp.c0
        have c1 := hp.c1
        have hr := HR2.out.below hb (by omega)
        have r0 := hr.c0
        have r1 := hr.c1
        have g0 := hr.f0
        have g1 := hr.f1
        have hsr2 : w.heap.size + 1 < wr.heap.size := by omega
        go_wp2_with fail
        have hS := ((Same.refl w.heap.size (w.heap.size + 2) wr).setCell (p := ⟨w.heap.size + 1, 0, none⟩) (by simp) (by simp) (.int .i64 f.letters)).setCell (p := ⟨w.heap.size + 1, 1, none⟩) (by simp) (by simp) (.slice oa (thinTo f.clauses f.clauses.length).length oc)
        refine bodyPost_ret (v := .tuple #[.agg #[.int .i64 f.letters, .slice oa (thinTo f.clauses f.clauses.length).length oc], .bool true]) (by simp [results, Try.results41, go_sem, r0, r1]) rfl ⟨_, by rw [HE.out], ?_, ((hBW.trans (hb2.mono hBW.size)).trans (hb.mono (by omega))).trans (hS.below (Nat.le_refl _) (by omega))⟩
        rw [HE.out]
        exact ⟨⟨_, rfl, (HO.out.same hS (.inr (by omega))).mono (by omega) hS.size (Nat.le_refl _)⟩, kL⟩
end Go.Proofs.Ytcpbgjnijhcpkaa
