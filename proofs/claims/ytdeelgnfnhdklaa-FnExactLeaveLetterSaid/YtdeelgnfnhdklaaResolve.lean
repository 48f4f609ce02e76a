/-
  Resolve: contracts in the reference and in the program.
-/
import Derived.Test.YtdeelgnfnhdklaaJoin
import Derived.Deep.DeepCutAuto
namespace Go.Proofs.Ytdeelgnfnhdklaa
open Go.RowKit
set_option linter.unusedVariables false

def resolveN (a b : List Int) (l : Int) : List Int × Bool := if clash a b l then joinAll l (outOfL l a) b else ([], false)
theorem outOfL_snoc (l : Int) (a : List Int) (x : Int) : outOfL l (a ++ [x]) = outOfL l a ++ (if absI x = l then [] else [x]) := by
  rw [outOfL, outOfL, List.filter_append]
  by_cases h : absI x = l <;> simp [h]
theorem joinAll_skip {l x : Int} {S r : List Int} (h : absI x = l) : joinAll l S (x :: r) = joinAll l S r := by rw [joinAll, if_pos h]
theorem joinAll_bad {l x : Int} {S r : List Int} (h : absI x ≠ l) (hj : (joinN S x).2 = false) : joinAll l S (x :: r) = ([], false) := by rw [joinAll, if_neg h, hj]; rfl
theorem joinAll_next {l x : Int} {S r : List Int} (h : absI x ≠ l) (hj : (joinN S x).2 = true) : joinAll l S (x :: r) = joinAll l (joinN S x).1 r := by rw [joinAll, if_neg h, hj]; rfl
set_option maxHeartbeats 2000000 in
set_option maxRecDepth 100000 in
theorem l05Resolve_any (w : World) {l' h' l'' h'' : Nat} (va vb : Value) (a b : List Int) (l : Int) (ha : Ints w l' h' va a) (hha : h' ≤ w.heap.size) (hb : Ints w l'' h'' vb b) (hhb : h'' ≤ w.heap.size) (hra : ∀ x ∈ a, -10 ≤ x ∧ x ≤ 10) (hrb : ∀ x ∈ b, -10 ≤ x ∧ x ≤ 10) (hla : a.length ≤ 100) (hlb : b.length ≤ 100) (hl1 : 1 ≤ l) (hl2 : l ≤ 10) :
    Calls Try.prog 91 #[va, vb, .int .i64 l] w fun e w' => ∃ u, e = .returned (.tuple #[u, .bool (resolveN a b l).2]) ∧ OwnI w' w.heap.size w'.heap.size u (resolveN a b l).1 ∧ Below w.heap.size w w' := by
  have HA := Lib.hid ha
  have HB := Lib.hid hb
  obtain ⟨aa, ac, rfl, ac1, ac2, ad⟩ := ha.out
  obtain ⟨ba, bc, rfl, bc1, bc2, bd⟩ := hb.out
  have HRA := Lib.hid hra
  have HRB := Lib.hid hrb
  have AC : Hid (∀ (wx : World) (j : Nat), Below w.heap.size w wx → j < a.length → ∃ b o, aa = some ⟨b, o, none⟩ ∧ wx.cell? ⟨b, o + j, none⟩ = some (.int .i64 (a.getD j 0))) := fun wx j hbx hj => by
    rcases ad with rfl | ⟨g, o, e, r1, r2, r3, hc⟩
    · simp at hj
    · exact ⟨g, o, e, by rw [hbx.cell (p := ⟨g, o + j, none⟩) (show g < w.heap.size by omega)]; exact hc j hj⟩
  have BC : Hid (∀ (wx : World) (j : Nat), Below w.heap.size w wx → j < b.length → ∃ g o, ba = some ⟨g, o, none⟩ ∧ wx.cell? ⟨g, o + j, none⟩ = some (.int .i64 (b.getD j 0))) := fun wx j hbx hj => by
    rcases bd with rfl | ⟨g, o, e, r1, r2, r3, hc⟩
    · simp at hj
    · exact ⟨g, o, e, by rw [hbx.cell (p := ⟨g, o + j, none⟩) (show g < w.heap.size by omega)]; exact hc j hj⟩
  have h0 := emptySlice w
  have hs0 : (w.alloc (.cells #[] 2)).heap.size = w.heap.size + 1 := by simp
  have H0 : Hid (OwnI (w.alloc (.cells #[] 2)) w.heap.size (w.alloc (.cells #[] 2)).heap.size (.slice (some ⟨w.heap.size, 0, none⟩) 0 0) []) := h0.mono (Nat.le_refl _) (by omega) (Nat.le_refl _)
  have HB0 := Lib.hid (alloc_below w (.cells #[] 2))
  clear ha hb ad bd hra hrb h0 hs0
  go_enter Try.func91, Try.ntmps91
  go_upto_region 1 with fail
  go_cut [33] from 13 to 33 (fun s wx => s = .bool (!clash a b l) ∧ wx = w)
  case first =>
    cases h1 : hasI a l <;> cases h2 : hasI b (-l) <;> cases h3 : hasI a (-l) <;> cases h4 : hasI b l
    all_goals
      have HC : Hid (clash a b l = ((hasI a l && hasI b (-l)) || (hasI a (-l) && hasI b l))) := rfl
      rw [h1, h2, h3, h4] at HC
      go_wp2_with (first | (go_at_call_of 94 (Value.slice aa a.length ac); refine (l00Has_any _ a _ _ HA.out).mono ?_; rintro e w' ⟨rfl, rfl⟩) | (go_at_call_of 94 (Value.slice ba b.length bc); refine (l00Has_any _ b _ _ HB.out).mono ?_; rintro e w' ⟨rfl, rfl⟩))
      go_meet
      exact ⟨by rw [HC.out]; rfl, rfl⟩
  case rest =>
    obtain ⟨rfl, rfl⟩ := hcut
    cases hcl : clash a b l
    · have HE : Hid (resolveN a b l = ([], false)) := by rw [Hid, resolveN, hcl]; rfl
      clear hcl
      go_wp2
      go_ret2
      exact ⟨_, by rw [HE.out]; rfl, by rw [HE.out]; exact OwnI.nil _ _ _ (Nat.le_refl _), Below.refl _ _⟩
    have HE : Hid (resolveN a b l = joinAll l (outOfL l a) b) := by rw [Hid, resolveN, hcl]; rfl
    clear hcl
    go_wp2_with fail
    go_loopw [8, 37] (fun ov i wr => ∃ k : Nat, k ≤ a.length ∧ i = .int .i64 k ∧ OwnI wr wc.heap.size wr.heap.size ov (outOfL l (a.take k)) ∧ Below wc.heap.size wc wr) (fun _ i _ => a.length - (intOf i).toNat)
    case atStart => exact ⟨0, Nat.zero_le _, rfl, H0.out, HB0.out⟩
    case round =>
      clear H0 HB0
      obtain ⟨k, hk, rfl, ho, hb⟩ := hrel
      have hs := hb.size
      have HO := Lib.hid ho
      have HBB := Lib.hid hb
      clear ho
      by_cases hlt : k < a.length
      · obtain ⟨g, o, rfl, hck⟩ := AC.out wr k hb hlt
        have hge : a.getD k 0 = a[k] := by simp [List.getD, hlt]
        rw [hge] at hck
        have HT : Hid (outOfL l (a.take (k + 1)) = outOfL l (a.take k) ++ (if absI a[k] = l then [] else [a[k]])) := by rw [Hid, List.take_succ_eq_append_getElem hlt, outOfL_snoc]
        have hxr := HRA.out a[k] (List.getElem_mem hlt)
        obtain ⟨x, hx⟩ : ∃ x, x = a[k] := ⟨_, rfl⟩
        rw [← hx] at hck HT hxr
        have hx1 := hxr.1
        have hx2 := hxr.2
        have HLN : Hid ((outOfL l (a.take k)).length + 1 ≤ 1099511627776) := by
          have h1 : (outOfL l (a.take k)).length ≤ (a.take k).length := List.length_filter_le _ _
          rw [List.length_take] at h1
          rw [Hid]; omega
        have HLX := Lib.hid (l05Letter_any x (by omega) (by omega) wr)
        obtain ⟨ax, hax⟩ : ∃ z, z = absI x := ⟨_, rfl⟩
        rw [← hax] at HLX HT
        clear hge hx hxr hax hb
        by_cases hal : ax = l
        · have hne : (ax != l) = false := by simpa using hal
          rw [if_pos hal, List.append_nil] at HT
          clear hal
          go_wp2_with fail
          refine HLX.out.mono ?_
          rintro e w' ⟨rfl, rfl⟩
          go_wp2
          go_roundw
          case rel => (repeat apply Exists.intro); exact ⟨⟨k + 1, by omega, by go_num, by rw [HT.out]; exact HO.out, HBB.out⟩, rfl⟩
          case measure => simp [intOf]; omega
        · have hne : (ax != l) = true := by simpa using hal
          rw [if_neg hal] at HT
          clear hal
          go_wp2_with fail
          refine HLX.out.mono ?_
          rintro e w' ⟨rfl, rfl⟩
          go_wp2_with (at_builtin; refine wpList_app1 rfl _ _ rfl _ (outOfL l (a.take k)) rfl x _ HO.out rfl (by unfold I64; omega) HLN.out hs ?_)
          intro v2 w3 ho2 hsm hz3 _
          have HO2 : Hid (OwnI w3 wc.heap.size w3.heap.size v2 (outOfL l (a.take (k + 1)))) := by rw [Hid, HT.out]; exact ho2
          have HB2 := Lib.hid (HBB.out.trans (hsm.below (Nat.le_refl _) hs))
          clear ho2
          go_wp2
          go_roundw
          case rel => (repeat apply Exists.intro); exact ⟨⟨k + 1, by omega, by go_num, HO2.out, HB2.out⟩, rfl⟩
          case measure => simp [intOf]; omega
      · obtain rfl : k = a.length := by omega
        rw [List.take_length] at HO
        have HOL : Hid ((outOfL l a).length ≤ a.length) := List.length_filter_le _ _
        have HORG : Hid (∀ y ∈ outOfL l a, -10 ≤ y ∧ y ≤ 10) := fun y hy => HRA.out y (List.mem_filter.1 hy).1
        obtain ⟨A0, hA0⟩ : ∃ A0, A0 = outOfL l a := ⟨_, rfl⟩
        rw [← hA0] at HO HE HOL HORG
        clear hA0 hb
        go_wp2_with fail
        go_loopw [8, 57] (fun ov i wr => ∃ (k : Nat) (S : List Int), k ≤ b.length ∧ i = .int .i64 k ∧ S.length ≤ a.length + k ∧ Hid (∀ y ∈ S, -10 ≤ y ∧ y ≤ 10) ∧ Hid (joinAll l S (b.drop k) = joinAll l A0 b) ∧ OwnI wr wc.heap.size wr.heap.size ov S ∧ Below wc.heap.size wc wr) (fun _ i _ => b.length - (intOf i).toNat)
        case atStart => exact ⟨0, A0, Nat.zero_le _, rfl, HOL.out, HORG, Lib.hid rfl, HO.out, HBB.out⟩
        case round =>
          clear HO HBB HOL HORG
          obtain ⟨k, S, hk, rfl, hSl, HSR, H, ho, hb⟩ := hrel
          have hs := hb.size
          have HO := Lib.hid ho
          have HBB := Lib.hid hb
          clear ho
          by_cases hlt : k < b.length
          · obtain ⟨g, o, rfl, hck⟩ := BC.out wr k hb hlt
            have hge : b.getD k 0 = b[k] := by simp [List.getD, hlt]
            rw [hge] at hck
            have HD : Hid (b.drop k = b[k] :: b.drop (k + 1)) := drop_cons b k hlt
            have hxr := HRB.out b[k] (List.getElem_mem hlt)
            obtain ⟨x, hx⟩ : ∃ x, x = b[k] := ⟨_, rfl⟩
            rw [← hx] at hck HD hxr
            have hx1 := hxr.1
            have hx2 := hxr.2
            have HLX := Lib.hid (l05Letter_any x (by omega) (by omega) wr)
            have HJ := Lib.hid (l05Join_any wr _ S x HO.out hs (by omega) HSR.out hx1 hx2)
            have HJM : Hid (∀ y ∈ (joinN S x).1, -10 ≤ y ∧ y ≤ 10) := fun y hy => by
              rcases joinN_mem hy with rfl | hy
              · exact ⟨hx1, hx2⟩
              · exact HSR.out y hy
            have hjl := joinN_len x S
            have HSK : Hid (absI x = l → joinAll l S (x :: b.drop (k + 1)) = joinAll l S (b.drop (k + 1))) := fun h => joinAll_skip h
            have HBD : Hid (absI x ≠ l → (joinN S x).2 = false → joinAll l S (x :: b.drop (k + 1)) = ([], false)) := fun h1 h2 => joinAll_bad h1 h2
            have HNX : Hid (absI x ≠ l → (joinN S x).2 = true → joinAll l S (x :: b.drop (k + 1)) = joinAll l (joinN S x).1 (b.drop (k + 1))) := fun h1 h2 => joinAll_next h1 h2
            obtain ⟨ax, hax⟩ : ∃ z, z = absI x := ⟨_, rfl⟩
            rw [← hax] at HLX HSK HBD HNX
            obtain ⟨J, hJ⟩ : ∃ J, J = (joinN S x).1 := ⟨_, rfl⟩
            rw [← hJ] at HJ HJM hjl HNX
            obtain ⟨t, ht⟩ : ∃ t, t = (joinN S x).2 := ⟨_, rfl⟩
            rw [← ht] at HJ HBD HNX
            clear hge hx hxr hax hb hJ ht
            by_cases hal : ax = l
            · have hne : (ax == l) = true := by simpa using hal
              have HN : Hid (joinAll l S (b.drop (k + 1)) = joinAll l A0 b) := by rw [Hid, ← H.out, HD.out]; exact (HSK.out hal).symm
              clear hal
              go_wp2_with fail
              refine HLX.out.mono ?_
              rintro e w' ⟨rfl, rfl⟩
              go_wp2
              go_roundw
              case rel => (repeat apply Exists.intro); exact ⟨⟨k + 1, S, by omega, by go_num, by omega, HSR, HN, HO.out, HBB.out⟩, rfl⟩
              case measure => simp [intOf]; omega
            · have hne : (ax == l) = false := by simpa using hal
              cases t
              · have HN : Hid (resolveN a b l = ([], false)) := by rw [Hid, HE.out, ← H.out, HD.out]; exact HBD.out hal rfl
                clear hal
                go_wp2_with fail
                refine HLX.out.mono ?_
                rintro e w' ⟨rfl, rfl⟩
                go_wp2_with fail
                refine HJ.out.mono ?_
                rintro e w2 ⟨u, rfl, hou, hb2⟩
                have HB2 := Lib.hid (HBB.out.trans (hb2.mono hs))
                clear hou hb2
                go_wp2
                go_ret2
                exact ⟨_, by rw [HN.out]; rfl, by rw [HN.out]; exact OwnI.nil _ _ _ (Nat.le_refl _), HB2.out⟩
              · have HN : Hid (joinAll l J (b.drop (k + 1)) = joinAll l A0 b) := by rw [Hid, ← H.out, HD.out]; exact (HNX.out hal rfl).symm
                clear hal
                go_wp2_with fail
                refine HLX.out.mono ?_
                rintro e w' ⟨rfl, rfl⟩
                go_wp2_with fail
                refine HJ.out.mono ?_
                rintro e w2 ⟨u, rfl, hou, hb2⟩
                have HB2 := Lib.hid (HBB.out.trans (hb2.mono hs))
                have HO2 := Lib.hid hou
                clear hou hb2
                go_wp2
                go_roundw
                case rel => (repeat apply Exists.intro); exact ⟨⟨k + 1, J, by omega, by go_num, by omega, HJM, HN, HO2.out, HB2.out⟩, rfl⟩
                case measure => simp [intOf]; omega
          · obtain rfl : k = b.length := by omega
            have HN : Hid (resolveN a b l = (S, true)) := by rw [Hid, HE.out, ← H.out, drop_len _ _ (Nat.le_refl _)]; rfl
            clear hb
            go_wp2
            go_ret2
            exact ⟨_, by rw [HN.out]; rfl, by rw [HN.out]; exact HO.out, HBB.out⟩
end Go.Proofs.Ytdeelgnfnhdklaa
