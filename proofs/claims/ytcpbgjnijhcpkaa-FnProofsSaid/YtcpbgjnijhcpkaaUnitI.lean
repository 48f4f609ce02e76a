/-
  Known literals by unit clauses: contracts in the program.
-/
import Derived.Test.YtcpbgjnijhcpkaaTri
namespace Go.Proofs.Ytcpbgjnijhcpkaa
open Go.RowKit
set_option linter.unusedVariables false
set_option maxRecDepth 100000

set_option maxHeartbeats 2000000 in
set_option maxRecDepth 100000 in
theorem unitsOf_any (w : World) {l h l' h' : Nat} (L : Int) (v v' : Value) (cs : List (List Int)) (g : List Int) (hL : L ≤ 10) (hv : Intss w l h v cs) (hh : h ≤ w.heap.size) (hz : SmallII cs) (hcl : ∀ c ∈ cs, ∀ x ∈ c, isLit L x = true) (hv' : Ints w l' h' v' g) (hh' : h' ≤ w.heap.size) (hg : Cons L g) :
    Calls Try.prog 57 #[v, v'] w fun e w' => ∃ vk vb, e = .returned (.agg #[vk, vb, .int .i64 (unitsF cs g).wrong]) ∧ OwnI w' w.heap.size w'.heap.size vk (unitsF cs g).known ∧ OwnN w' w.heap.size w'.heap.size vb (unitsF cs g).why ∧ Below w.heap.size w w' := by
  obtain ⟨ca, ccap, CV, rfl, cc1, cc2, CR, cd⟩ := hv.out
  have hgv := hv'
  obtain ⟨ga, gcap, rfl, gc1, gc2, gd⟩ := hv'.out
  clear gd
  obtain ⟨W1, hW1⟩ : ∃ W, W = w.alloc (.cells #[.slice none 0 0, .slice none 0 0, .int .i64 0] 71) := ⟨_, rfl⟩
  have hs1 : W1.heap.size = w.heap.size + 1 := by rw [hW1]; simp
  have hB1 : Below w.heap.size w W1 := by rw [hW1]; exact alloc_below _ _
  have HR0 : Hid (TriC W1 w.heap.size 71 (.slice none 0 0) (.slice none 0 0) (.int .i64 0)) := by rw [Hid, hW1]; exact TriC.new _ _ _ _ _
  have hg10 := hg.len hL
  have HGV := Lib.hid (hgv.below hB1 hh')
  have HG := Lib.hid hg
  have HCL := Lib.hid hcl
  have HBW1 := Lib.hid hB1
  have hcl1 := hz.1
  have HZ := Lib.hid hz
  have CC : Hid (∀ (wx : World) (j : Nat), Below w.heap.size w wx → (hj : j < cs.length) → ∃ b o, ca = some ⟨b, o, none⟩ ∧ wx.cell? ⟨b, o + j, none⟩ = some (CV j) ∧ Ints wx l h (CV j) cs[j]) := fun wx j hb hj => by
    rcases cd with rfl | ⟨b, o, e, r1, r2, r3, hc⟩
    · simp at hj
    · exact ⟨b, o, e, by rw [hb.cell (p := ⟨b, o + j, none⟩) (show b < w.heap.size by omega)]; exact hc j hj, (CR j hj).below hb hh⟩
  clear hv hv' cd CR hcl hg hz hB1 hgv
  go_enter Try.func57, Try.ntmps57
  go_wp2_with fail
  rw [← hW1]
  clear hW1
  refine (copyInts_any _ g W1 HGV.out (by omega) (by omega)).mono ?_
  rintro e w2 ⟨u, rfl, hou, hb2⟩
  have hs2 := hb2.size
  obtain ⟨ua, uc, rfl⟩ := hou.shape
  obtain ⟨W, hW⟩ : ∃ W, W = w2.alloc (.cells #[.slice ua g.length uc, .slice none 0 0, .int .i64 (-1)] 71) := ⟨_, rfl⟩
  have hsW : W.heap.size = w2.heap.size + 1 := by rw [hW]; simp
  have hBW : Below w2.heap.size w2 W := by rw [hW]; exact alloc_below _ _
  obtain ⟨q, hq⟩ : ∃ q, q = w2.heap.size := ⟨_, rfl⟩
  have HU0 : Hid (UnitC W (w.heap.size + 1) q 71 (.slice ua g.length uc) (.slice none 0 0) g [] (-1)) := by
    refine ⟨by rw [hW, hq]; exact TriC.new _ _ _ _ _, (hou.below hBW (Nat.le_refl _)).mono (by omega) (by omega) (Nat.le_refl _), OwnN.nil _ _ _ (Nat.le_refl _), fun e => ?_, by simp [Value.ownBlock], by simp [Value.ownBlock]⟩
    have := hou.own.blk q e
    omega
  have HR : Hid (TriC W w.heap.size 71 (.slice none 0 0) (.slice none 0 0) (.int .i64 0)) := (HR0.out.below hb2 HR0.out.lt).below hBW (by omega)
  have HBW : Hid (Below w.heap.size w W) := (HBW1.out.trans (hb2.mono (by omega))).trans (hBW.mono (by omega))
  have hql : w.heap.size + 1 ≤ q := by omega
  have hqW : q < W.heap.size := by omega
  have hqne : ¬ w.heap.size = q := by omega
  have hqne2 : ¬ q = w.heap.size := by omega
  clear hou hb2 hBW HGV HR0 HBW1
  go_wp2_with fail
  rw [← hW, ← hq]
  clear hW
  rw [← hq] at hsW hs2
  clear hq
  have hsW' : w.heap.size + 1 < W.heap.size := by omega
  clear hsW hs1 hs2
  go_loopw [20] (fun i wr => ∃ (k : Nat) (vb : Value), k ≤ g.length ∧ i = .int .i64 k ∧ UnitC wr (w.heap.size + 1) q 71 (.slice ua g.length uc) vb g (List.replicate k (-1)) (-1) ∧ Below (w.heap.size + 1) W wr) (fun i _ => g.length - (intOf i).toNat)
  case atStart => exact ⟨0, _, Nat.zero_le _, rfl, HU0.out, Below.refl _ _⟩
  case round =>
    clear HU0
    obtain ⟨k, vb, hk, rfl, hU, hb⟩ := hrel
    have hsr := hb.size
    have HB := Lib.hid (HBW.out.trans (hb.mono (by omega)))
    by_cases hlt : k < g.length
    · obtain ⟨ba, bc, hba⟩ := hU.why.shape
      rw [List.length_replicate] at hba
      subst hba
      have c1 := hU.cell.c1
      have c1a := (hU.alloc (.cells #[.int .i64 (-1)] 3)).cell.c1
      have HU := Lib.hid hU
      have HBB := Lib.hid hb
      clear hU hb
      go_wp2_with (at_builtin; refine wpList_app1KN rfl _ _ rfl _ (List.replicate k (-1)) rfl (-1) _ HU.out.why rfl (by unfold I64; omega) (by simp; omega) (by omega) ?_)
      intro v5 w5 ho5 hk5 hsm5 hz5 hb5
      obtain ⟨za, zc, hza⟩ := ho5.shape1
      rw [List.length_replicate] at hza
      subst hza
      have hm5 := HU.out.midB hk5
      have c5 := hm5.c1
      have f5 := hm5.f1
      have HU5 : Hid (UnitC (w5.setCell ⟨q, 1, none⟩ (.slice za (k + 1) zc)) (w.heap.size + 1) q 71 (.slice ua g.length uc) (.slice za (k + 1) zc) g (List.replicate (k + 1) (-1)) (-1)) := by
        rw [Hid, List.replicate_succ']
        exact HU.out.addB ho5 hk5 (Nat.le_succ _) hz5 hb5
      have HB5 : Hid (Below (w.heap.size + 1) W (w5.setCell ⟨q, 1, none⟩ (.slice za (k + 1) zc))) := (HBB.out.trans (hsm5.below (B := w.heap.size + 1) (by omega) (by omega))).setCell hql _
      clear ho5 hk5 hsm5 hz5 hb5 hm5 c1 c1a
      go_wp2
      go_roundw
      case rel => exact ⟨k + 1, _, by omega, by go_num, HU5.out, HB5.out⟩
      case measure => simp [intOf]; omega
    · obtain rfl : k = g.length := by omega
      have hUs := hU
      have hbs := hb
      clear hU hb HB
      go_wp2_with fail
      go_loopw [6] (fun _ wr => ∃ (vk vb : Value) (kn why : List Int), UnitC wr (w.heap.size + 1) q 71 vk vb kn why (-1) ∧ Hid (Cons L kn) ∧ Hid (why.length = kn.length) ∧ Hid (unitsGo cs (11 - kn.length) kn why = unitsF cs g) ∧ Below (w.heap.size + 1) W wr) (fun _ wr => 11 - lenAt wr ⟨q, 0, none⟩)
      case atStart => exact ⟨_, _, _, _, hUs, HG, Lib.hid (by simp), Lib.hid rfl, hbs⟩
      case round =>
        clear hUs hbs
        obtain ⟨vk, vb, kn, why, hU, HC, HWL, H, hb⟩ := hrel
        have hkl := HC.out.len hL
        have hsr := hb.size
        have HB := Lib.hid (HBW.out.trans (hb.mono (by omega)))
        obtain ⟨va, vc, rfl⟩ := hU.kn.shape
        obtain ⟨ba, bc, rfl⟩ := hU.why.shape
        have HLN : Hid (lenAt wr ⟨q, 0, none⟩ = kn.length) := hU.len
        have HR1 := Lib.hid (HR.out.below hb (by omega))
        have HU := Lib.hid hU
        have HBB := Lib.hid hb
        obtain ⟨w1, hw1⟩ : ∃ w1, w1 = wr := ⟨_, rfl⟩
        subst hw1
        have HSP := Lib.hid (scan_spec kn cs cs.length 0 (-1) 0 (by omega) (.inl (by omega)))
        have hcz : (0 : Int) ≤ (cs.length : Int) := by omega
        have q0 := HU.out.cell.c0
        clear hU hb
        go_wp2_with fail
        go_loop [6, 7, 30] (fun uv lv iv => ∃ (i : Nat) (u y : Int), i ≤ cs.length ∧ iv = .int .i64 i ∧ uv = .int .i64 u ∧ lv = .int .i64 y ∧ -1 ≤ u ∧ u < (cs.length : Int) + 1 ∧ -10 ≤ y ∧ y ≤ 10 ∧ Hid (scanU kn cs (cs.length - i) i u y = scanU kn cs cs.length 0 (-1) 0)) (fun _ _ iv => cs.length - (intOf iv).toNat)
        case atStart => exact ⟨0, -1, 0, Nat.zero_le _, rfl, rfl, rfl, by omega, by omega, by omega, by omega, Lib.hid rfl⟩
        case round =>
          obtain ⟨i, u, y, hi, rfl, rfl, rfl, hu1, hu2, hy1, hy2, HSC⟩ := hrel
          by_cases hlt : i < cs.length
          · obtain ⟨cb, co, rfl, hck, hxi⟩ := CC.out w1 i HB.out hlt
            obtain ⟨ka, kc, hke, _, _, kd⟩ := hxi.out
            rw [hke] at hck hxi
            have hzi := HZ.out.row hlt
            obtain ⟨c, hc⟩ : ∃ c, c = cs[i] := ⟨_, rfl⟩
            rw [← hc] at hck hxi hzi kd
            have HLT : Hid (∀ x ∈ c, x ≠ 0 ∧ -10 ≤ x ∧ x ≤ 10) := fun x hx => by have := isLit_iff.1 (HCL.out _ (List.getElem_mem hlt) x (by rw [← hc]; exact hx)); omega
            have HCC := Lib.hid hc
            clear hke hc hxi
            go_wp2_with fail
            go_loop [10, 11, 12, 37] (fun fv lv dv jv => ∃ (m n : Nat) (z : Int), m ≤ c.length ∧ jv = .int .i64 m ∧ fv = .int .i64 n ∧ lv = .int .i64 z ∧ dv = .bool (giveDone kn (c.take m)) ∧ n ≤ m ∧ -10 ≤ z ∧ z ≤ 10 ∧ Hid (n = (giveRest kn (c.take m)).length) ∧ Hid (z = lastOf (giveRest kn (c.take m)))) (fun _ _ _ jv => c.length - (intOf jv).toNat)
            case atStart => exact ⟨0, 0, 0, Nat.zero_le _, rfl, rfl, rfl, rfl, Nat.le_refl _, by omega, by omega, Lib.hid rfl, Lib.hid rfl⟩
            case round =>
              obtain ⟨m, n, z, hm, rfl, rfl, rfl, rfl, hnm, hz1, hz2, HN, HZZ⟩ := hrel
              by_cases hml : m < c.length
              · rcases kd with rfl | ⟨kb, ko, rfl, hkb1, hkb2, hkb3, kcell⟩
                · simp at hml
                have hcm := kcell m hml
                have hge : c.getD m 0 = c[m] := by simp [List.getD, hml]
                rw [hge] at hcm
                have HT := Lib.hid (show c.take (m + 1) = c.take m ++ [c[m]] from List.take_succ_eq_append_getElem hml)
                have HRS := Lib.hid (giveRest_snoc kn (c.take m) c[m])
                have HDS := Lib.hid (giveDone_snoc kn (c.take m) c[m])
                have hxr := (HLT.out c[m] (List.getElem_mem hml)).2
                obtain ⟨x, hx⟩ : ∃ x, x = c[m] := ⟨_, rfl⟩
                rw [← hx] at hcm HT HRS HDS hxr
                have hx1 := hxr.1
                have hx2 := hxr.2
                obtain ⟨t, ht⟩ : ∃ t, t = giveDone kn (c.take m) := ⟨_, rfl⟩
                rw [← ht] at HDS ⊢
                clear kcell hge hx hxr ht
                cases h3 : hasI kn (-x)
                · have HNX : Hid (n + 1 = (giveRest kn (c.take (m + 1))).length) := by rw [Hid, HT.out, HRS.out, h3, HN.out]; simp
                  have HLX : Hid (x = lastOf (giveRest kn (c.take (m + 1)))) := by rw [Hid, HT.out, HRS.out, h3]; exact (lastOf_snoc _ _).symm
                  cases h1 : t <;> cases h2 : hasI kn x
                  all_goals
                    have HDX : Hid (giveDone kn (c.take (m + 1)) = (t || hasI kn x)) := by rw [Hid, HT.out, HDS.out]
                    rw [h1, h2] at HDX
                    subst h1
                    go_wp2_with (go_at_call 66; refine (has_any _ kn _ _ HU.out.kn.rd).mono ?_; rintro e w' ⟨rfl, rfl⟩)
                    go_round
                    case rel => exact ⟨m + 1, n + 1, x, by omega, by go_num, by go_num, rfl, by rw [HDX.out]; rfl, by omega, by omega, by omega, HNX, HLX⟩
                    case measure => simp [intOf]; omega
                · have HNX : Hid (n = (giveRest kn (c.take (m + 1))).length) := by rw [Hid, HT.out, HRS.out, h3, HN.out]; simp
                  have HLX : Hid (z = lastOf (giveRest kn (c.take (m + 1)))) := by rw [Hid, HT.out, HRS.out, h3, HZZ.out]; simp
                  cases h1 : t <;> cases h2 : hasI kn x
                  all_goals
                    have HDX : Hid (giveDone kn (c.take (m + 1)) = (t || hasI kn x)) := by rw [Hid, HT.out, HDS.out]
                    rw [h1, h2] at HDX
                    subst h1
                    go_wp2_with (go_at_call 66; refine (has_any _ kn _ _ HU.out.kn.rd).mono ?_; rintro e w' ⟨rfl, rfl⟩)
                    go_round
                    case rel => exact ⟨m + 1, n, z, by omega, by go_num, rfl, rfl, by rw [HDX.out]; rfl, by omega, by omega, by omega, HNX, HLX⟩
                    case measure => simp [intOf]; omega
              · obtain rfl : m = c.length := by omega
                rw [List.take_length] at HN HZZ ⊢
                rw [HCC.out] at HN HZZ ⊢
                rw [← HCC.out]
                cases hdn : giveDone kn c
                · have HDN : Hid (giveDone kn cs[i] = false) := by rw [Hid, ← HCC.out]; exact hdn
                  clear hdn
                  by_cases hn0 : n = 0
                  · subst hn0
                    have hsw := scan_wrong (u := u) (l := y) hlt HDN.out HN.out.symm
                    have HE : Hid (unitsF cs g = ⟨kn, why, (i : Int)⟩) := by
                      rw [Hid, ← H.out]; exact units_wrong hkl (by rw [← HSC.out]; exact hsw) (by omega)
                    have q1 := HU.out.cell.c1
                    have q2 := HU.out.cell.c2
                    have f2 := HU.out.cell.f2
                    have r0 := HR1.out.c0
                    have r1 := HR1.out.c1
                    have r2 := HR1.out.c2
                    have g0 := HR1.out.f0
                    have g1 := HR1.out.f1
                    have g2 := HR1.out.f2
                    have hw2 : Same q (q + 1) w1 (w1.setCell ⟨q, 2, none⟩ (.int .i64 i)) := set1_same _ _ _ _
                    have HU2 : Hid (UnitC (w1.setCell ⟨q, 2, none⟩ (.int .i64 i)) (w.heap.size + 1) q 71 (.slice va kn.length vc) (.slice ba why.length bc) kn why (i : Int)) := HU.out.setW _
                    have HB2 : Hid (Below w.heap.size w (w1.setCell ⟨q, 2, none⟩ (.int .i64 i))) := HB.out.setCell (by show w.heap.size ≤ q; omega) _
                    clear hsw
                    go_wp2_with fail
                    have hS := ((((Same.refl w.heap.size (w.heap.size + 1) (w1.setCell ⟨q, 2, none⟩ (.int .i64 i))).setCell (p := ⟨w.heap.size, 0, none⟩) (by simp) (by simp) (.slice va kn.length vc)).setCell (p := ⟨w.heap.size, 1, none⟩) (by simp) (by simp) (.slice ba why.length bc)).setCell (p := ⟨w.heap.size, 2, none⟩) (by simp) (by simp) (.int .i64 i))
                    refine bodyPost_ret (v := .agg #[.slice va kn.length vc, .slice ba why.length bc, .int .i64 i]) (by simp [results, Try.results57, go_sem, r0, r1, r2]) rfl ⟨_, _, by rw [HE.out], ?_, ?_, HB2.out.trans (hS.below (Nat.le_refl _) HB2.out.size)⟩
                    · rw [HE.out]; exact (HU2.out.kn.same hS (.inr (by omega))).mono (by omega) hS.size (Nat.le_refl _)
                    · rw [HE.out]; exact (HU2.out.why.same hS (.inr (by omega))).mono (by omega) hS.size (Nat.le_refl _)
                  · by_cases hun : n = 1 ∧ u < 0
                    · obtain ⟨rfl, hu0⟩ := hun
                      have HS2 : Hid (scanU kn cs (cs.length - (i + 1)) (i + 1) i z = scanU kn cs cs.length 0 (-1) 0) := by
                        rw [Hid, ← HSC.out, scan_unit hlt HDN.out HN.out.symm hu0, HZZ.out]
                      clear hn0
                      go_wp2
                      go_round
                      case rel => exact ⟨i + 1, i, z, by omega, by go_num, rfl, rfl, by omega, by omega, hz1, hz2, HS2⟩
                      case measure => (simp [intOf]; try omega)
                    · have HS2 : Hid (scanU kn cs (cs.length - (i + 1)) (i + 1) u y = scanU kn cs cs.length 0 (-1) 0) := by
                        rw [Hid, ← HSC.out, scan_other hlt HDN.out (by rw [← HN.out]; exact hn0) (by rw [← HN.out]; exact hun)]
                      have e0 : ((n : Int) == 0) = false := by simpa using hn0
                      by_cases hn1 : n = 1
                      · subst hn1
                        have hu0 : ¬ u < 0 := fun h => hun ⟨rfl, h⟩
                        have hu3 : decide (u < 0) = false := by simpa using hu0
                        clear hn0 hun
                        go_wp2
                        go_round
                        case rel => exact ⟨i + 1, u, y, by omega, by go_num, rfl, rfl, by omega, by omega, hy1, hy2, HS2⟩
                        case measure => (simp [intOf]; try omega)
                      · have e1 : ((n : Int) == 1) = false := by simp; omega
                        clear hn0 hun
                        go_wp2
                        go_round
                        case rel => exact ⟨i + 1, u, y, by omega, by go_num, rfl, rfl, by omega, by omega, hy1, hy2, HS2⟩
                        case measure => (simp [intOf]; try omega)
                · have HS2 : Hid (scanU kn cs (cs.length - (i + 1)) (i + 1) u y = scanU kn cs cs.length 0 (-1) 0) := by
                    rw [Hid, ← HSC.out, scan_done hlt (by rw [← HCC.out]; exact hdn)]
                  clear hdn
                  go_wp2
                  go_round
                  case rel => exact ⟨i + 1, u, y, by omega, by go_num, rfl, rfl, by omega, by omega, hy1, hy2, HS2⟩
                  case measure => (simp [intOf]; try omega)
          · obtain rfl : i = cs.length := by omega
            have HSE : Hid (scanU kn cs cs.length 0 (-1) 0 = (-1, u, y)) := by rw [Hid, ← HSC.out]; exact scan_end kn cs u y
            by_cases hu0 : u < 0
            · have HE : Hid (unitsF cs g = ⟨kn, why, -1⟩) := by
                rw [Hid, ← H.out]; exact units_end hkl HSE.out hu0
              have q1 := HU.out.cell.c1
              have q2 := HU.out.cell.c2
              have r0 := HR1.out.c0
              have r1 := HR1.out.c1
              have r2 := HR1.out.c2
              have g0 := HR1.out.f0
              have g1 := HR1.out.f1
              have g2 := HR1.out.f2
              go_wp2_with fail
              have hS := ((((Same.refl w.heap.size (w.heap.size + 1) w1).setCell (p := ⟨w.heap.size, 0, none⟩) (by simp) (by simp) (.slice va kn.length vc)).setCell (p := ⟨w.heap.size, 1, none⟩) (by simp) (by simp) (.slice ba why.length bc)).setCell (p := ⟨w.heap.size, 2, none⟩) (by simp) (by simp) (.int .i64 (-1)))
              refine bodyPost_ret (v := .agg #[.slice va kn.length vc, .slice ba why.length bc, .int .i64 (-1)]) (by simp [results, Try.results57, go_sem, r0, r1, r2]) rfl ⟨_, _, by rw [HE.out], ?_, ?_, HB.out.trans (hS.below (Nat.le_refl _) (by omega))⟩
              · rw [HE.out]; exact (HU.out.kn.same hS (.inr (by omega))).mono (by omega) hS.size (Nat.le_refl _)
              · rw [HE.out]; exact (HU.out.why.same hS (.inr (by omega))).mono (by omega) hS.size (Nat.le_refl _)
            · have HT : isLit L y = true ∧ y ∉ kn ∧ -y ∉ kn := by
                rcases HSP.out.2 with ⟨h1, _⟩ | ⟨j, _, hT⟩
                · rw [HSE.out] at h1; exact absurd h1 hu0
                · rw [HSE.out] at hT
                  obtain ⟨t1, t2, t3, _⟩ := hT.lit HCL.out
                  exact ⟨t1, t2, t3⟩
              have HC2 : Hid (Cons L (kn ++ [y])) := HC.out.snoc HT.1 HT.2.1 HT.2.2
              have H2 : Hid (unitsGo cs (11 - (kn ++ [y]).length) (kn ++ [y]) (why ++ [u]) = unitsF cs g) := by
                rw [Hid, ← H.out, units_more hkl HSE.out hu0]
              have HWL2 : Hid ((why ++ [u]).length = (kn ++ [y]).length) := by rw [Hid, List.length_append, List.length_append, HWL.out]; rfl
              have c0a := (HU.out.alloc (.cells #[.int .i64 y] 2)).cell.c0
              have hsw : w.heap.size + 1 ≤ w1.heap.size := by omega
              have hwl : why.length ≤ 10 := by rw [HWL.out]; exact hkl
              clear HT
              go_wp2_with (at_builtin; refine wpList_app1K rfl _ _ rfl _ kn rfl y _ HU.out.kn rfl (by unfold I64; omega) (by omega) hsw ?_)
              intro v3 w3 ho3 hk3 hsm3 hz3 hb3
              have hm3 := HU.out.midK hk3
              have c3 := hm3.c0
              have f3 := hm3.f0
              obtain ⟨ya, yc, rfl⟩ := ho3.shape1
              have c1 := hm3.c1
              have HU4 := Lib.hid (HU.out.addK ho3 hk3 (Nat.le_succ _) hz3 hb3)
              have HB4 := Lib.hid ((HBB.out.trans (hsm3.below (B := w.heap.size + 1) (by omega) (by omega))).setCell (p := ⟨q, 0, none⟩) hql (.slice ya (kn.length + 1) yc))
              have hs4 := HB4.out.size
              have HSE5 : Hid ((w3.setCell ⟨q, 0, none⟩ (.slice ya (kn.length + 1) yc)).heap.size = w3.heap.size) := by simp [Hid, World.setCell]
              clear ho3 hk3 hsm3 hz3 hb3 q0 c0a hm3
              go_wp2_with (at_builtin; refine wpList_app1KN rfl _ _ rfl _ why rfl u _ HU4.out.why (by rw [HSE5.out]; rfl) (by unfold I64; omega) (by omega) (by omega) ?_)
              intro v5 w5 ho5 hk5' hsm5 hz5 hb5
              have hk5 : ∀ k, k < (w3.setCell ⟨q, 0, none⟩ (.slice ya (kn.length + 1) yc)).heap.size → (Value.slice ba why.length bc).ownBlock ≠ some k → w5.heap[k]? = (w3.setCell ⟨q, 0, none⟩ (.slice ya (kn.length + 1) yc)).heap[k]? := fun k hk hn => hk5' k (by rw [HSE5.out] at hk; exact hk) hn
              clear hk5'
              obtain ⟨za, zc, rfl⟩ := ho5.shape1
              have hm5 := HU4.out.midB hk5
              have c5 := hm5.c1
              have f5 := hm5.f1
              have HU5 := Lib.hid (HU4.out.addB ho5 hk5 (by rw [HSE5.out]; exact Nat.le_succ _) hz5 hb5)
              have HB5 := Lib.hid ((HB4.out.trans (hsm5.below (B := w.heap.size + 1) (by omega) (by omega))).setCell (p := ⟨q, 1, none⟩) hql (.slice za (why.length + 1) zc))
              have HLN5 := Lib.hid HU5.out.len
              clear ho5 hk5 hsm5 hz5 hb5 hm5 c1 c3 f3
              go_wp2
              go_roundw
              case rel => exact ⟨_, _, _, _, HU5.out, HC2, HWL2, H2, HB5.out⟩
              case measure => rw [HLN5.out, HLN.out, List.length_append]; simp; omega
end Go.Proofs.Ytcpbgjnijhcpkaa
