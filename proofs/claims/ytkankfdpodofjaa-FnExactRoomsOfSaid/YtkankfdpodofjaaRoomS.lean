/-
  RoomsOf: contract in the reference.
-/
import Derived.Test.YtkankfdpodofjaaRoomI
import Derived.Test.YtkankfdpodofjaaOwn2
namespace Go.Proofs.Ytkankfdpodofjaa
open Go.RowKit
set_option linter.unusedVariables false
set_option maxRecDepth 100000

set_option maxHeartbeats 1600000 in
set_option maxRecDepth 100000 in
theorem l06Meet_any {p1 o1 p2 o2 : Nat} (f1 t1 f2 t2 : Int) (w : World) (h1 : w.cell? ⟨p1, o1, none⟩ = some (.int .i64 f1)) (h2 : w.cell? ⟨p1, o1 + 1, none⟩ = some (.int .i64 t1)) (h3 : w.cell? ⟨p2, o2, none⟩ = some (.int .i64 f2)) (h4 : w.cell? ⟨p2, o2 + 1, none⟩ = some (.int .i64 t2)) :
    Calls Try.prog 70 #[.pointer (some ⟨p1, o1, none⟩), .pointer (some ⟨p2, o2, none⟩)] w fun e w' => e = .returned (.bool (decide (f1 < t2) && decide (f2 < t1))) ∧ Drew w w' := by
  cases hd1 : decide (f1 < t2) <;> cases hd2 : decide (f2 < t1)
  all_goals
    go_enter Try.func70, Try.ntmps70
    go_wp2_with fail
    go_quiet (fail)
    go_wp2
    go_ret
    exact ⟨rfl, Drew.one _ _⟩
theorem below_newR (w : World) (o : Obj) : Below w.heap.size w (w.alloc o) := (Below.refl _ _).alloc (Nat.le_refl _) o
theorem froms_snoc (ss : List SpanD) (k : Nat) (h : k < ss.length) : froms (ss.take (k + 1)) = froms (ss.take k) ++ [ss[k].x0] := by
  rw [froms, froms, List.take_succ_eq_append_getElem h, List.map_append]; rfl
set_option maxHeartbeats 4000000 in
set_option maxRecDepth 100000 in
theorem specRoomsOf_any (w : World) {l h : Nat} (v : Value) (ss : List SpanD) (hv : Spans w l h v ss) (hh : h ≤ w.heap.size) (hz : ss.length ≤ 1048576) :
    Calls Try.prog 25 #[v] w fun e w' => ∃ u, e = .returned (.tuple #[u, .int .i64 (roomsOf ss).2.1, .bool (roomsOf ss).2.2]) ∧ OwnI w' w.heap.size w'.heap.size u (roomsOf ss).1 ∧ Below w.heap.size w w' := by
  have HV := Lib.hid hv
  have HAS := Lib.hid (l06Spans_any v ss w hv hh)
  obtain ⟨va, vc, rfl, hc1, hc2, hd⟩ := hv.out
  cases har : areSpans ss
  · have HE := Lib.hid (show roomsOf ss = ([], 0, false) by rw [roomsOf, if_neg (by rw [har]; decide)])
    rw [har] at HAS
    clear hv har hd
    go_enter Try.func25, Try.ntmps25
    go_wp2_with fail
    refine HAS.out.mono ?_
    rintro e w1 ⟨rfl, hb⟩
    have HB := Lib.hid hb
    clear hb
    go_wp2
    go_ret3
    exact ⟨_, by rw [HE.out]; rfl, by rw [HE.out]; exact OwnI.nil _ _ _ (Nat.le_refl _), HB.out⟩
  · rw [har] at HAS
    obtain ⟨a1, a2, a3⟩ := areSpans_out har
    have HOK := Lib.hid a3
    have HYP := Lib.hid (spans_hyp har)
    have HE : Hid (roomsOf ss = (roOut (froms ss) (tos ss) (ordS ss) 0 ss.length ss.length, (((roE (froms ss) (tos ss) (ordS ss) ss.length).length : Nat) : Int), true)) := by rw [Hid, roomsOf, if_pos har]
    clear hv har a3
    rcases hd with hd | ⟨b, off, rfl, hb1, hb2, hb3, hcell⟩
    · exfalso; rw [hd] at a1; simp at a1
    have HC0 : Hid (∀ wx, Below w.heap.size w wx → ∀ k, k < ss.length → wx.cell? ⟨b, off + k * 3, none⟩ = some (.int .i64 ((froms ss).getD k 0))) := fun wx hx k hk => by rw [hx.cell (p := ⟨b, off + k * 3, none⟩) (show b < w.heap.size by omega), froms_at ss hk]; exact (hcell k hk).1
    have HC1 : Hid (∀ wx, Below w.heap.size w wx → ∀ k, k < ss.length → wx.cell? ⟨b, off + k * 3 + 1, none⟩ = some (.int .i64 ((tos ss).getD k 0))) := fun wx hx k hk => by rw [hx.cell (p := ⟨b, off + k * 3 + 1, none⟩) (show b < w.heap.size by omega), tos_at ss hk]; exact (hcell k hk).2.1
    clear hcell
    go_enter Try.func25, Try.ntmps25
    go_wp2_with fail
    refine HAS.out.mono ?_
    rintro e w0 ⟨rfl, hbz⟩
    have hsz := hbz.size
    have h0 := emptySlice w0
    have hb0 := below_newR w0 (.cells #[] 2)
    obtain ⟨W1, hW1⟩ : ∃ W, W = w0.alloc (.cells #[] 2) := ⟨_, rfl⟩
    rw [← hW1] at h0 hb0
    have hs1 : W1.heap.size = w0.heap.size + 1 := by rw [hW1]; simp
    have h1 := emptySlice W1
    have hb1' := below_newR W1 (.cells #[] 2)
    obtain ⟨W2, hW2⟩ : ∃ W, W = W1.alloc (.cells #[] 2) := ⟨_, rfl⟩
    rw [← hW2] at h1 hb1'
    have hs2 : W2.heap.size = w0.heap.size + 2 := by rw [hW2]; simp [hs1]
    have H0 := Lib.hid ((h0.below hb1' (by omega)).mono (show w.heap.size ≤ w0.heap.size from hsz) (show w0.heap.size + 1 ≤ W2.heap.size by omega) (Nat.le_refl _))
    have H1 := Lib.hid (h1.mono (show w.heap.size ≤ W1.heap.size by omega) (show W1.heap.size + 1 ≤ W2.heap.size by omega) (Nat.le_refl _))
    have HB2 := Lib.hid (hbz.trans ((hb0.trans (hb1'.mono (by omega))).mono hsz))
    have hne : w0.heap.size ≠ W1.heap.size := by omega
    rw [hs1] at H1
    clear h0 h1 hb0 hb1' hbz
    go_wp2_with fail
    rw [← hW1, ← hW2]
    clear hW1 hW2
    go_loopw [5, 6, 7] (fun lv gv i wr => ∃ k : Nat, k ≤ ss.length ∧ i = .int .i64 k ∧ OwnI wr w.heap.size wr.heap.size lv (froms (ss.take k)) ∧ OwnI wr w.heap.size wr.heap.size gv (List.replicate k (-1)) ∧ Hid (∀ p, lv.ownBlock = some p → gv.ownBlock ≠ some p) ∧ Below w.heap.size w wr) (fun _ _ i _ => ss.length - (intOf i).toNat)
    case atStart => exact ⟨0, Nat.zero_le _, rfl, by simpa [froms] using H0.out, by simpa using H1.out, Lib.hid (by intro p hp hq; simp [Value.ownBlock] at hp hq; omega), HB2.out⟩
    case round =>
      clear H0 H1 HB2
      obtain ⟨k, hk, rfl, hol, hog, HAP, hb⟩ := hrel
      have hs := hb.size
      have HOL := Lib.hid hol
      have HOG := Lib.hid hog
      have hll : (froms (ss.take k)).length ≤ k := by simp [froms]; omega
      have hgl : (List.replicate k (-1 : Int)).length ≤ k := by simp
      clear hol hog
      by_cases hlt : k < ss.length
      · have HS1 := Lib.hid (froms_snoc ss k hlt)
        have HS2 : Hid (List.replicate (k + 1) (-1 : Int) = List.replicate k (-1) ++ [-1]) := by rw [Hid, List.replicate_succ']
        have c0 := HC0.out wr hb k hlt
        rw [froms_at ss hlt] at c0
        have hrg := okSpan_bounds (HOK.out ss[k] (List.getElem_mem _))
        have hrg2 : I64 ss[k].x0 := by unfold I64; omega
        obtain ⟨x, hx⟩ : ∃ x, x = ss[k].x0 := ⟨_, rfl⟩
        rw [← hx] at HS1 c0 hrg2
        clear hrg hx
        go_wp2_with (at_builtin; refine wpList_app1K rfl _ _ rfl _ (froms (ss.take k)) rfl x _ HOL.out rfl hrg2 (by omega) hs ?_)
        intro v2 w3 ho2 hkp hsm hz3 hbk
        have hb3 := hb.trans (hsm.below (Nat.le_refl _) hs)
        have hs3 := hb3.size
        have hog3 := HOG.out.beside (show wr.heap.size ≤ w3.heap.size by omega) (show wr.heap.size ≤ w3.heap.size by omega) hkp (fun p hp hq => HAP.out p hq hp)
        have HAP3 : Hid (∀ p, v2.ownBlock = some p → u6.ownBlock ≠ some p) := by
          intro p hp hq
          rcases hbk with hbk | hbk
          · exact HAP.out p (by rw [← hbk]; exact hp) hq
          · rw [hbk] at hp; cases hp
            have := HOG.out.own.blk _ hq; omega
        have HO2 := Lib.hid ho2
        have HOG3 := Lib.hid hog3
        have HB3 := Lib.hid hb3
        clear ho2 hog3 hkp hbk hb3
        go_wp2_with (at_builtin; refine wpList_app1K rfl _ _ rfl _ (List.replicate k (-1)) rfl (-1) _ HOG3.out rfl (by unfold I64; omega) (by omega) hs3 ?_)
        intro v4 w4 ho4 hkp4 hsm4 hz4 hbk4
        have hb4 := HB3.out.trans (hsm4.below (Nat.le_refl _) hs3)
        have hol4 := HO2.out.beside (show w3.heap.size ≤ w4.heap.size by omega) (show w3.heap.size ≤ w4.heap.size by omega) hkp4 (fun p hp hq => HAP3.out p hp hq)
        have HAP4 : Hid (∀ p, v2.ownBlock = some p → v4.ownBlock ≠ some p) := by
          intro p hp hq
          rcases hbk4 with hbk4 | hbk4
          · exact HAP3.out p hp (by rw [← hbk4]; exact hq)
          · rw [hbk4] at hq; cases hq
            have := HO2.out.own.blk _ hp; omega
        have HOL4 := Lib.hid hol4
        have HO4 := Lib.hid ho4
        have HB4 := Lib.hid hb4
        clear ho4 hol4 hkp4 hbk4 hb4
        go_wp2
        go_roundw
        case rel => exact ⟨k + 1, by omega, by go_num, by rw [HS1.out]; exact HOL4.out, by rw [HS2.out]; exact HO4.out, HAP4, HB4.out⟩
        case measure => simp [intOf]; omega
      · obtain rfl : k = ss.length := by omega
        rw [List.take_length] at HOL
        have hfl : (froms ss).length = ss.length := by simp [froms]
        have HQ := Lib.hid (l06Order_any _ (froms ss) wr HOL.out.rd (Nat.le_refl _) (by rw [hfl]; omega))
        rw [hfl, show ordTo (keyLt (froms ss)) ss.length = ordS ss from rfl] at HQ
        have HRG := HOG.out.rowOf
        rw [List.length_replicate] at HRG
        rcases HRG with ⟨_, h0⟩ | ⟨g, oc, rfl, g1, g2, g3, hrow⟩
        · exfalso; have := congrArg List.length h0; simp at this; rw [this] at a1; simp at a1
        have zgw := hrow.ge
        have HROW := Lib.hid hrow
        have HB3 := Lib.hid hb
        obtain ⟨w2, rfl⟩ : ∃ X, X = wr := ⟨_, rfl⟩
        obtain ⟨F, hF⟩ : ∃ F, F = froms ss := ⟨_, rfl⟩
        obtain ⟨T, hT⟩ : ∃ T, T = tos ss := ⟨_, rfl⟩
        obtain ⟨O, hO⟩ : ∃ O, O = ordS ss := ⟨_, rfl⟩
        obtain ⟨o1, o2, _, _, o5⟩ := ordS_facts ss
        rw [← hO] at o1 o2 o5 HQ HYP HE
        rw [← hF] at HYP HC0 HE
        rw [← hT] at HYP HC1 HE
        have HO1 := Lib.hid o1
        have HO2 := Lib.hid o2
        have HALL := Lib.hid (roOut_all HYP.out o5)
        clear hF hT hO o1 o2 o5 hrow hb HOL HOG HAP hll hgl hfl
        go_wp2_with fail
        refine HQ.out.mono ?_
        rintro e w3 ⟨ov, rfl, ho3, hb3⟩
        have hz3 := hb3.size
        have hrd := ho3.rd
        obtain ⟨oa, oc', oe, c1, c2, od⟩ := hrd.out
        rw [HO1.out] at oe
        subst oe
        rcases od with od | ⟨ob, oo, rfl, y1, y2, y3, ocell⟩
        · exfalso; have := HO1.out; rw [od] at this; simp at this; omega
        have HOC := Lib.hid ocell
        have HR3 := Lib.hid (HROW.out.below hb3 g1)
        have HB4 := Lib.hid (HB3.out.trans (hb3.mono (by omega)))
        clear ho3 hb3 hrd c1 ocell HQ HROW HB3
        go_wp2_with fail
        go_loopw [9, 10] (fun rv tv wr => ∃ t : Nat, t ≤ ss.length ∧ tv = .int .i64 t ∧ rv = .int .i64 ((roE F T O t).length : Nat) ∧ Hid (RowI wr w.heap.size g ss.length oc (roOut F T O (-1) ss.length t)) ∧ Hid (Same g (g + 1) w3 wr)) (fun _ tv _ => ss.length - (intOf tv).toNat)
        case atStart => exact ⟨0, Nat.zero_le _, rfl, rfl, HR3.out, Same.refl _ _ _⟩
        case round =>
          clear HR3
          obtain ⟨t, ht, rfl, rfl, HRO, HS⟩ := hrel
          have hsr := HS.out.size
          have HBW : Hid (Below w.heap.size w wr) := HB4.out.trans (HS.out.below zgw HB4.out.size)
          obtain ⟨w4, rfl⟩ : ∃ X, X = wr := ⟨_, rfl⟩
          by_cases htn : t < ss.length
          · have hio := HO2.out t htn
            have HM := Lib.hid (fun r => room_meet HYP.out htn r)
            obtain ⟨i, hi⟩ : ∃ i, i = ixO O t := ⟨_, rfl⟩
            rw [← hi] at hio
            obtain ⟨hin, hoi⟩ := hio
            have HLS := Lib.hid (roE_lenS F T O t)
            have HLE := Lib.hid (roE_len F T O t)
            obtain ⟨E, hE⟩ : ∃ E, E = roE F T O t := ⟨_, rfl⟩
            obtain ⟨R, hR⟩ : ∃ R, R = roOut F T O (-1) ss.length t := ⟨_, rfl⟩
            obtain ⟨f, hf⟩ : ∃ f, f = F.getD i 0 := ⟨_, rfl⟩
            obtain ⟨e1, he1⟩ : ∃ x, x = T.getD i 0 := ⟨_, rfl⟩
            have HNR : Hid (roOut F T O (-1) ss.length (t + 1) = R.set i ((rkF f E : Nat) : Int)) := by rw [Hid, roOut, ← hi, ← hE, ← hR, ← hf]
            rw [← hE, ← hR, ← hi, ← hf, ← he1] at HM
            rw [← hE, ← hi, ← hf] at HLS
            rw [← hE] at HLE ⊢
            rw [← hR] at HRO
            have hkF := rkF_le f E
            obtain ⟨kF, hkF2⟩ : ∃ x, x = rkF f E := ⟨_, rfl⟩
            have HKE := Lib.hid (show ∀ k : Nat, k ≤ kF → k < E.length → f < E.getD k 0 → k + 1 ≤ kF from fun k hk hkl h => by rw [hkF2]; exact rk_step (by omega) hkl h)
            have HKD := Lib.hid (show ∀ k : Nat, k ≤ kF → (k = E.length ∨ E.getD k 0 ≤ f) → k = kF from fun k hk h => by rw [hkF2]; exact rk_end (by omega) (h.imp id (fun h => by omega)))
            rw [← hkF2] at hkF HNR HLS
            have hoc : w4.cell? ⟨ob, oo + t, none⟩ = some (.int .i64 (i : Int)) := by rw [cell_of_heap (HS.out.block ob y2 (by omega)), HOC.out t (by rw [HO1.out]; exact htn), hoi]
            have HKO := Lib.hid hoc
            have hle := HLE.out
            have zi : (i : Int) < (ss.length : Int) := by omega
            have zt : (t : Int) < (ss.length : Int) := by omega
            have HFE : Hid (F.getD i 0 = f) := by rw [Hid, hf]
            have HTE : Hid (T.getD i 0 = e1) := by rw [Hid, he1]
            clear hi hE hR hf he1 hoi hkF2 hoc
            go_wp2_with fail
            go_loopw [11, 12] (fun rv jv wx => ∃ r j : Nat, r ≤ kF ∧ j ≤ ss.length ∧ rv = .int .i64 r ∧ jv = .int .i64 j ∧ Hid (∀ x, x < j → ¬ (R.getD x 0 = (r : Int) ∧ F.getD x 0 < e1 ∧ f < T.getD x 0)) ∧ Drew w4 wx) (fun rv jv _ => (kF - (intOf rv).toNat) * 65 + (ss.length - (intOf jv).toNat))
            case atStart => exact ⟨0, 0, Nat.zero_le _, Nat.zero_le _, rfl, rfl, Lib.hid (fun x hx => by omega), Drew.refl _⟩
            case round =>
              obtain ⟨r, j, hr, hj, rfl, rfl, HNO, hD⟩ := hrel
              have HBX := Lib.hid (HBW.out.trans (hD.below _))
              have HD := Lib.hid hD
              have HRX := Lib.hid (HRO.out.drew hD)
              have hoc : wr.cell? ⟨ob, oo + t, none⟩ = some (.int .i64 (i : Int)) := (hD.cell ⟨ob, oo + t, none⟩).trans HKO.out
              have hrk : r ≤ 64 := by omega
              clear hD
              by_cases hjn : j < ss.length
              · have zj : (j : Int) < (ss.length : Int) := by omega
                have hcx := HRX.out.cell hjn
                have HMT := Lib.hid (fun wz (hz : Drew wr wz) => l06Meet_any (F.getD j 0) (T.getD j 0) (F.getD i 0) (T.getD i 0) wz (HC0.out wz (HBX.out.trans (hz.below _)) j hjn) (HC1.out wz (HBX.out.trans (hz.below _)) j hjn) (HC0.out wz (HBX.out.trans (hz.below _)) i hin) (HC1.out wz (HBX.out.trans (hz.below _)) i hin))
                rw [HFE.out, HTE.out] at HMT
                obtain ⟨mb, hmb⟩ : ∃ m, m = (decide (F.getD j 0 < e1) && decide (f < T.getD j 0)) := ⟨_, rfl⟩
                rw [← hmb] at HMT
                have HMB : Hid (mb = true ↔ (F.getD j 0 < e1 ∧ f < T.getD j 0)) := by rw [Hid, hmb, Bool.and_eq_true, decide_eq_true_eq, decide_eq_true_eq]
                obtain ⟨x, hx⟩ : ∃ x, x = R.getD j 0 := ⟨_, rfl⟩
                rw [← hx] at hcx
                have HNX : Hid (¬ (x = (r : Int) ∧ mb = true) → ∀ y, y < j + 1 → ¬ (R.getD y 0 = (r : Int) ∧ F.getD y 0 < e1 ∧ f < T.getD y 0)) := fun hn y hy => by
                  by_cases hyj : y = j
                  · subst hyj; rw [← hx]; exact fun ⟨g1, g2⟩ => hn ⟨g1, HMB.out.2 g2⟩
                  · exact HNO.out y (by omega)
                have HUP : Hid (x = (r : Int) → mb = true → r + 1 ≤ kF) := fun g1 g2 => by
                  have := (HM.out r).1 ⟨j, hjn, by rw [← hx, g1], HMB.out.1 g2⟩
                  exact HKE.out r hr this.1 this.2
                clear hmb hx HMB HNO
                by_cases hxr : x = (r : Int)
                · have hxb : (x == (r : Int)) = true := by simpa using hxr
                  cases mb
                  · have HN2 := Lib.hid (HNX.out (fun h => Bool.noConfusion h.2))
                    clear HNX HUP hxr
                    go_wp2_with fail
                    go_quiet ((with_reducible exact quiet_drew (HMT.out _ (Drew.one _ _))))
                    go_wp2
                    go_roundw
                    case rel => exact ⟨r, j + 1, hr, by omega, rfl, by go_num, HN2, HD.out.step _⟩
                    case measure => (simp [intOf]; try omega)
                  · have hup := HUP.out hxr rfl
                    clear HNX HUP hxr
                    go_wp2_with fail
                    go_quiet ((with_reducible exact quiet_drew (HMT.out _ (Drew.one _ _))))
                    go_wp2
                    go_roundw
                    case rel => exact ⟨r + 1, 0, hup, by omega, by go_num, by go_num, Lib.hid (fun x hx => by omega), HD.out.step _⟩
                    case measure => (simp [intOf]; try omega)
                · have hxb : (x == (r : Int)) = false := by simpa using hxr
                  have HN2 := Lib.hid (HNX.out (fun h => hxr h.1))
                  clear HNX HUP hxr
                  go_wp2_with fail
                  go_quiet (fail)
                  go_wp2
                  go_roundw
                  case rel => exact ⟨r, j + 1, hr, by omega, rfl, by go_num, HN2, HD.out.step _⟩
                  case measure => (simp [intOf]; try omega)
              · obtain rfl : j = ss.length := by omega
                have hrkF : r = kF := HKD.out r hr (by
                  by_cases g1 : r < E.length
                  · by_cases g2 : f < E.getD r 0
                    · obtain ⟨y, y1, y2, y3⟩ := (HM.out r).2 ⟨g1, g2⟩
                      exact absurd ⟨y2, y3⟩ (HNO.out y y1)
                    · exact .inr (by omega)
                  · exact .inl (by omega))
                subst hrkF
                have hcx := HRX.out.cell hin
                have hfx := HRX.out.frozen i
                have HSX := Lib.hid (HS.out.drewD HD.out)
                have HRR : Hid (∀ u, RowI (wr.setCell ⟨g, i, none⟩ (.int .i64 u)) w.heap.size g ss.length oc (R.set i u)) := fun u => HRX.out.stored i u
                have HSS : Hid (∀ u, Same g (g + 1) w3 (wr.setCell ⟨g, i, none⟩ (.int .i64 u))) := fun u => HSX.out.setCell (show g ≤ g by omega) (show g < g + 1 by omega) _
                go_upto_region 23 with (fail)
                obtain ⟨w7, hw7⟩ : ∃ X, X = wr.setCell ⟨g, i, none⟩ (.int .i64 (r : Int)) := ⟨_, rfl⟩
                have hR7 := HRR.out (r : Int)
                have hS7 := HSS.out (r : Int)
                rw [← hw7] at hR7 hS7 ⊢
                have HR7 := Lib.hid hR7
                have HS7 := Lib.hid hS7
                have hmx : max (E.length : Int) ((r : Int) + 1) = (((roE F T O (t + 1)).length : Nat) : Int) := by rw [HLS.out]; omega
                have HMX := Lib.hid hmx
                clear hw7 hR7 hS7 HRR HSS hcx hfx hmx HM
                go_wp2_with fail
                refine (l00Max_any _ _ _).mono ?_
                rintro e w' ⟨rfl, rfl⟩
                go_wp2
                go_roundw
                case rel => exact ⟨t + 1, by omega, by go_num, by rw [HMX.out], by rw [HNR.out]; exact HR7, HS7⟩
                case measure => (simp [intOf]; try omega)
          · obtain rfl : t = ss.length := by omega
            have HRR : Hid (OwnI w4 w.heap.size w4.heap.size (.slice (some ⟨g, 0, none⟩) ss.length oc) (roOut F T O (-1) ss.length ss.length)) := HRO.out.own (hi := w4.heap.size) (fun y hy => by have := roOut_rng (F := F) (T := T) (O := O) (n := ss.length) (z := -1) (by omega) (by omega) ss.length y hy; unfold I64; omega) (by omega) HRO.out.lt (Nat.le_refl _)
            go_wp2
            go_ret3
            exact ⟨_, by rw [HE.out]; rfl, by rw [HE.out, HALL.out]; exact HRR.out, HBW.out⟩
end Go.Proofs.Ytkankfdpodofjaa
