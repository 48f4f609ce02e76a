/-
  spec.LeftOf and impl.LeftOf, for valid rows and a finite list as long as it must be.
-/
import Derived.Test.YtocngcpdpeflnaaStepA
import Derived.Test.YtocngcpdpeflnaaStepFL
import Derived.Deep.DeepCutAuto
namespace Go.Proofs.Ytocngcpdpeflnaa
open Go.RowKit
set_option linter.unusedVariables false
set_option maxRecDepth 100000

theorem oneFl (w : World) (x : Nat) : OwnFL (w.alloc (.cells #[.float .f32 x] 23)) w.heap.size (w.heap.size + 1) (.slice (some ⟨w.heap.size, 0, none⟩) 1 1) [x] :=
  ⟨⟨World.ownsRow_lit w #[.float .f32 x] 1 (Nat.le_refl _) (by simp [maxLen]) (by simp), fun k e => by simp [Value.ownBlock] at e; omega, by simp⟩, by simp⟩
theorem QuadC.drewS {w w' : World} {q : Nat} {t : TypeId} {x y z s : Value} (h : QuadC w q t x y z s) (hd : Drew w w') : QuadC w' q t x y z s := h.keep (by rw [hd.heap])
theorem left_succ (r : RowsD) (x : List Nat) (k : Nat) : (List.range (k + 1)).map (leftAt r x) = (List.range k).map (leftAt r x) ++ [leftAt r x k] := by rw [List.range_succ, List.map_append]; rfl
theorem rows_nums {r : RowsD} (ho : okRows r = true) : ∃ V : Nat, r.vars = (V : Int) ∧ r.vars.toNat = V ∧ 1 ≤ V ∧ V ≤ 8 ∧ 1 ≤ r.bounds.length ∧ r.bounds.length ≤ 8 ∧ r.gains.length ≤ 8 ∧ r.numbers.length = V * r.bounds.length ∧ allFin r.numbers = true ∧ r.bounds.all okBy = true := by
  obtain ⟨o1, o2, o3, o4, o5, o6, o7⟩ := okRows_out ho
  have u1 := inB_true o1
  have u2 := inB_true o2
  obtain ⟨V, hV⟩ : ∃ V : Nat, r.vars = (V : Int) := ⟨r.vars.toNat, by omega⟩
  refine ⟨V, hV, by omega, by omega, by omega, by omega, by omega, by omega, ?_, o5, o7⟩
  have : ((V * r.bounds.length : Nat) : Int) = (V : Int) * (r.bounds.length : Int) := by simp
  rw [hV] at o4
  omega
theorem bound_fin {r : RowsD} (ho : r.bounds.all okBy = true) {k : Nat} (hk : k < r.bounds.length) : finF (r.bounds.getD k 0) = true := by
  have hm : r.bounds.getD k 0 ∈ r.bounds := by
    rw [List.getD, List.getElem?_eq_getElem hk]; exact List.getElem_mem _
  have := List.all_eq_true.1 ho _ hm
  rw [okBy, Bool.and_eq_true] at this
  exact this.1
theorem rowF_len {r : RowsD} {V k : Nat} (hV : r.vars.toNat = V) (hn : r.numbers.length = V * r.bounds.length) (hk : k < r.bounds.length) : (rowF r k).length = V := by
  have := row_arith (V := V) hk
  unfold rowF
  rw [hV, List.length_take, List.length_drop, hn]
  omega
theorem rowF_fin {r : RowsD} (k : Nat) (h : allFin r.numbers = true) : allFin (rowF r k) = true := allFin_take _ _ (allFin_drop _ _ h)
set_option maxHeartbeats 2000000 in
set_option maxRecDepth 100000 in
theorem specLeftOf_any (w : World) {l h l' h' : Nat} (v : Value) (r : RowsD) (u : Value) (x : List Nat) (hv : RowsR w l h v r) (hh : h ≤ w.heap.size) (hx : Flts w l' h' u x) (hh' : h' ≤ w.heap.size) (ho : okRows r = true) (hl : (x.length : Int) = r.vars) (hf : allFin x = true) :
    Calls Try.prog 39 #[v, u] w fun e w' => ∃ y, e = .returned (.tuple #[y, .bool (leftO r x).isSome]) ∧ OwnFL w' w.heap.size w'.heap.size y ((leftO r x).getD []) ∧ Below w.heap.size w w' := by
  obtain ⟨V, hV, hV2, hV1, hV8, hb1, hb8, hg8, hnn, hfn, hfb⟩ := rows_nums ho
  obtain ⟨a, b, c, rfl, ha0, hb0, hc0⟩ := hv.ex
  obtain ⟨p2, c2, rfl⟩ := hb0.shape
  obtain ⟨W, hW⟩ : ∃ W, W = w.alloc (.cells #[.int .i64 r.vars, a, .slice p2 r.bounds.length c2, c] 33) := ⟨_, rfl⟩
  have hBW : Below w.heap.size w W := by rw [hW]; exact alloc_belowR _ _
  have q0 : QuadC W w.heap.size 33 (.int .i64 r.vars) a (.slice p2 r.bounds.length c2) c := by rw [hW]; exact QuadC.new _ _ _ _ _ _
  have ha := ha0.below hBW hh
  have hb := hb0.below hBW hh
  have hc := hc0.below hBW hh
  have hxW := hx.below hBW hh'
  have HFit := Lib.hid (l02Fit_any r _ _ _ u x W q0 ha hb hc hxW ho hl)
  rw [hf] at HFit
  have HQ := Lib.hid q0
  have HA := Lib.hid ha
  have HB := Lib.hid hb
  have HX := Lib.hid hxW
  have HBW := Lib.hid hBW
  have HSW : Hid (W.heap.size = w.heap.size + 1) := by rw [hW]; simp [Hid]
  have HFX := Lib.hid hf
  have HLX := Lib.hid (show x.length = V by omega)
  have HN := Lib.hid (And.intro hV (And.intro hV2 (And.intro hnn (And.intro hfn hfb))))
  have hzW := hBW.size
  clear ha0 hb0 hc0 hv hx ha hb hc hxW q0 hf hl hV hV2 hnn hfn hfb
  go_enter Try.func39, Try.ntmps39
  go_wp2_with fail
  rw [← hW]
  clear hW hBW
  refine HFit.out.mono ?_
  rintro e w2 ⟨rfl, hd2⟩
  have hB2 : Below w.heap.size w w2 := HBW.out.trans (hd2.below _)
  have hW2 : W.heap.size ≤ w2.heap.size := by rw [hd2.heap]; exact Nat.le_refl _
  have hE2 := emptySliceFL w2
  have HO2 : Hid (OwnFL (w2.alloc (.cells #[] 23)) W.heap.size (w2.alloc (.cells #[] 23)).heap.size (.slice (some ⟨w2.heap.size, 0, none⟩) 0 0) []) := hE2.mono hW2 (by simp) (Nat.le_refl _)
  have hK2 : Below W.heap.size W (w2.alloc (.cells #[] 23)) := (hd2.below _).alloc hW2 _
  have HK2 := Lib.hid hK2
  clear hK2 hE2
  have HD2 := Lib.hid hd2
  clear hd2 hB2
  go_wp2_with fail
  go_loopw [6, 7] (fun ov i wr => ∃ (k : Nat) (zs : List Nat), k ≤ r.bounds.length ∧ i = .int .i64 k ∧ OwnFL wr W.heap.size wr.heap.size ov zs ∧ Hid (FVs ((List.range k).map (leftAt r x)) zs) ∧ Below W.heap.size W wr) (fun _ i _ => r.bounds.length - (intOf i).toNat)
  case atStart => exact ⟨0, [], Nat.zero_le _, rfl, HO2.out, Lib.hid trivial, HK2.out⟩
  case round =>
    obtain ⟨k, zs, hk, rfl, hown, HV, hbr⟩ := hrel
    have hsr := hbr.size
    have HBR := Lib.hid hbr
    have HO := Lib.hid hown
    have HZL := Lib.hid (show zs.length = k by rw [HV.out.len]; simp)
    have hqr := HQ.out.below hbr HQ.out.lt
    have k2 := hqr.c2
    obtain ⟨oa, oc, rfl⟩ := hown.rd.shape
    by_cases hlt : k < r.bounds.length
    · have hbd := HB.out.below hbr (by omega)
      obtain ⟨pB, cB, hBe, hcB, _, hbd6⟩ := hbd.out
      simp only [Value.slice.injEq] at hBe
      obtain ⟨rfl, _, rfl⟩ := hBe
      rcases hbd6 with hbd6 | ⟨bk, off, rfl, hbk1, hbk2, hbk3, hcell⟩
      · rw [hbd6] at hlt; simp at hlt
      have hck := hcell k hlt
      obtain ⟨y, hy⟩ : ∃ y, y = r.bounds.getD k 0 := ⟨_, rfl⟩
      rw [← hy] at hck
      have HY := Lib.hid hy
      obtain ⟨hV, hV2, hnn, hfn, hfb⟩ := HN.out
      have HYF := Lib.hid (show finF y = true by rw [hy]; exact bound_fin hfb hlt)
      have HRL := Lib.hid (show (rowF r k).length = x.length by rw [rowF_len hV2 hnn hlt, HLX.out])
      have HRF := Lib.hid (rowF_fin (r := r) k hfn)
      have HRW := Lib.hid (fun wx (hw : Drew wr wx) => l02Row_any r V k _ _ _ wx (hqr.drewS hw) ((HA.out.below hbr (by omega)).drew hw) hV hV1 hV8 hlt hb8 hnn)
      have HRE : Hid ((r.numbers.drop (k * V)).take V = rowF r k) := by unfold Hid rowF; rw [hV2]
      rw [HRE.out] at HRW
      have HXR := Lib.hid (HX.out.below hbr (by omega))
      have hDw : Drew wr wr.drew := ⟨1, rfl⟩
      have HLN := Lib.hid (show zs.length + [y].length ≤ 1099511627776 by simp; have := HZL.out; omega)
      clear hy hcell hbd hown hqr hV hV2 hnn hfn hfb hbr
      go_wp2_with fail
      go_region_law (first | (go_simp; go_at_call 31; refine (HRW.out _ hDw).mono ?_; rintro e w3 ⟨u3, rfl, hf3, hd3⟩; have hd3' := hDw.trans hd3; have hf3' := hf3.drew hd3; obtain ⟨xa, xc, hxe⟩ := hf3'.shape; subst hxe; have cw3 := hd3'.cell) | (go_simp; go_at_call 46; refine (l02Dot_any _ _ (rowF r k) x w3 hf3' (HXR.out.drew hd3') HRL.out HRF.out HFX.out).mono ?_; rintro e w4 ⟨d4, rfl, hv4, hd4⟩; have hd4' := hd3'.trans hd4; have cw4 := hd4'.cell; obtain ⟨f5, g5, r5, d5, c5⟩ := ar_any (op := .sub) (.inr (.inl rfl)) (FV.fin HYF.out) hv4; have HD5 := Lib.hid (hd4'.trans (d5 w4)); have cw5 := (d5 w4).cell; have HC5 := Lib.hid (c5 w4); have HOA := Lib.hid (OwnFL.alloc (HO.out.drew HD5.out) (.cells #[.float .f32 (f5 w4)] 23)); have HONE := Lib.hid (oneFl (g5 w4) (f5 w4)).rd; have HSZ := Lib.hid (show wr.heap.size ≤ ((g5 w4).alloc (.cells #[.float .f32 (f5 w4)] 23)).heap.size by rw [World.size_alloc, HD5.out.heap]; omega); clear c5 d5) | (refine step_appFLs (by rfl) _ _ (by rfl) _ zs (by first | (simp [Act.eval]; done) | (simp [Act.eval, Act.put]; done)) HOA.out _ [f5 w4] (by first | (simp [Act.eval]; done) | (simp [Act.eval, Act.put]; done)) HONE.out HLN.out (Nat.le_trans hsr HSZ.out) ?_; intro v6 w6 ho6 hsm6 hz6 _))
      all_goals
        have HB6 := ((HBR.out.trans (HD5.out.below _)).alloc (by rw [HD5.out.heap]; exact hsr) _).trans (hsm6.below (Nat.le_refl _) (Nat.le_trans hsr HSZ.out))
        have HV6 : Hid (FVs ((List.range (k + 1)).map (leftAt r x)) (zs ++ [f5 w4])) := by
          rw [Hid, left_succ]; refine FVs.snoc HV.out ?_; rw [leftAt, ← HY.out]; exact HC5.out
        go_wp2
        go_roundw
        case rel => exact ⟨k + 1, _, by omega, by go_num, ho6, HV6, HB6⟩
        case measure => simp [intOf]; omega
    · obtain rfl : k = r.bounds.length := by omega
      have HLL := Lib.hid (l02List_any _ zs wr hown.rd)
      have hBE : Below w.heap.size w wr := HBW.out.trans (hbr.mono hzW)
      have HBE := Lib.hid hBE
      have HAL := Lib.hid (FVs.all HV.out)
      have HLO : Hid (leftO r x = seqO ((List.range r.bounds.length).map (leftAt r x))) := rfl
      clear hqr hbr hown hBE
      rcases HAL.out with ⟨h1, h2⟩ | ⟨h1, h2⟩
      · rw [h1] at HLL
        have HE := Lib.hid (HLO.out.trans h2)
        clear h1 h2
        go_wp2_with fail
        refine HLL.out.mono ?_
        rintro e w9 ⟨rfl, hd9⟩
        rw [if_pos trivial]
        go_wp2
        go_ret2
        exact ⟨_, by rw [HE.out]; rfl, by rw [HE.out]; exact (HO.out.drew hd9).mono hzW (by rw [hd9.heap]; exact Nat.le_refl _) (Nat.le_refl _), HBE.out.trans (hd9.below _)⟩
      · rw [h1] at HLL
        have HE := Lib.hid (HLO.out.trans h2)
        clear h1 h2
        go_wp2_with fail
        refine HLL.out.mono ?_
        rintro e w9 ⟨rfl, hd9⟩
        rw [if_neg (fun hx => by simp at hx)]
        go_wp2
        go_ret2
        exact ⟨_, by rw [HE.out]; rfl, by rw [HE.out]; exact OwnFL.nil _ _ _ (Nat.le_refl _), HBE.out.trans (hd9.below _)⟩
set_option maxHeartbeats 2000000 in
set_option maxRecDepth 100000 in
theorem implLeftOf_any (w : World) {l h l' h' : Nat} (v : Value) (r : RowsD) (u : Value) (x : List Nat) (hv : RowsR w l h v r) (hh : h ≤ w.heap.size) (hz : SmallR r) (hx : Flts w l' h' u x) (hh' : h' ≤ w.heap.size) (ho : okRows r = true) (hl : (x.length : Int) = r.vars) (hf : allFin x = true) :
    Calls Try.prog 42 #[v, u] w fun e w' => ∃ y, e = .returned (.tuple #[y, .bool (leftO r x).isSome]) ∧ OwnFL w' w.heap.size w'.heap.size y ((leftO r x).getD []) ∧ Below w.heap.size w w' := by
  obtain ⟨V, hV, hV2, hV1, hV8, hb1, hb8, hg8, hnn, hfn, hfb⟩ := rows_nums ho
  obtain ⟨a, b, c, rfl, ha0, hb0, hc0⟩ := hv.ex
  obtain ⟨p2, c2, rfl⟩ := hb0.shape
  obtain ⟨W, hW⟩ : ∃ W, W = w.alloc (.cells #[.int .i64 r.vars, a, .slice p2 r.bounds.length c2, c] 33) := ⟨_, rfl⟩
  have hBW : Below w.heap.size w W := by rw [hW]; exact alloc_belowR _ _
  have q0 : QuadC W w.heap.size 33 (.int .i64 r.vars) a (.slice p2 r.bounds.length c2) c := by rw [hW]; exact QuadC.new _ _ _ _ _ _
  have hvW := hv.below hBW hh
  have hb := hb0.below hBW hh
  have hxW := hx.below hBW hh'
  have hzW := hBW.size
  have HVal := Lib.hid (ValidRows_any _ r W hvW (by omega) hz)
  rw [ho] at HVal
  have HXX := Lib.hid (fun wx (hb : Below W.heap.size W wx) => isX_any r _ u x wx (hvW.below hb (by omega)) (by have := hb.size; omega) (hxW.below hb (by omega)) (by have := hb.size; omega) hl (by omega))
  rw [hf] at HXX
  have HQ := Lib.hid q0
  have HB := Lib.hid hb
  have HX := Lib.hid hxW
  have HRV := Lib.hid hvW
  have HBW := Lib.hid hBW
  have HSW : Hid (W.heap.size = w.heap.size + 1) := by rw [hW]; simp [Hid]
  have HFX := Lib.hid hf
  have HLX := Lib.hid (show x.length = V by omega)
  have HN := Lib.hid (And.intro hV (And.intro hV2 (And.intro hnn (And.intro hfn hfb))))
  have q00 := q0.c0
  have q01 := q0.c1
  have q02 := q0.c2
  have q03 := q0.c3
  clear ha0 hb0 hc0 hv hx hb hxW q0 hf hl hV hV2 hnn hfn hfb hvW hz
  go_enter Try.func42, Try.ntmps42
  go_wp2_with fail
  rw [← hW]
  clear hW hBW q00 q01 q02 q03
  refine HVal.out.mono ?_
  rintro e w1 ⟨rfl, hb1w⟩
  have hq1 := HQ.out.below hb1w HQ.out.lt
  have q00 := hq1.c0
  have q01 := hq1.c1
  have q02 := hq1.c2
  have q03 := hq1.c3
  have HB1W := Lib.hid hb1w
  have hs1 := hb1w.size
  clear hq1 hb1w
  go_wp2_with fail
  clear q00 q01 q02 q03
  refine (HXX.out _ HB1W.out).mono ?_
  rintro e w2 ⟨rfl, hb2w⟩
  have hK2 : Below W.heap.size W w2 := HB1W.out.trans (hb2w.mono hs1)
  have HK2 := Lib.hid hK2
  have q02 := (HQ.out.below hK2 HQ.out.lt).c2
  have hs2 := hK2.size
  clear hK2 hb2w
  go_wp2_with fail
  clear q02
  go_loopw [6, 21] (fun ov i wr => ∃ (k : Nat) (zs : List Nat), k ≤ r.bounds.length ∧ i = .int .i64 k ∧ OwnFL wr W.heap.size wr.heap.size ov zs ∧ Hid (FVs ((List.range k).map (leftAt r x)) zs) ∧ Below W.heap.size W wr) (fun _ i _ => r.bounds.length - (intOf i).toNat)
  case atStart => exact ⟨0, [], Nat.zero_le _, rfl, OwnFL.nil _ _ _ (Nat.le_refl _) |>.mono (Nat.le_refl _) (Nat.le_refl _) (Nat.le_refl _), Lib.hid trivial, HK2.out⟩
  case round =>
    obtain ⟨k, zs, hk, rfl, hown, HV, hbr⟩ := hrel
    have hsr := hbr.size
    have HBR := Lib.hid hbr
    have HO := Lib.hid hown
    have HZL := Lib.hid (show zs.length = k by rw [HV.out.len]; simp)
    have hqr := HQ.out.below hbr HQ.out.lt
    have k0 := hqr.c0
    have k1 := hqr.c1
    have k2 := hqr.c2
    have k3 := hqr.c3
    obtain ⟨oa, oc, rfl⟩ := hown.rd.shape
    by_cases hlt : k < r.bounds.length
    · have hbd := HB.out.below hbr (by omega)
      obtain ⟨pB, cB, hBe, hcB, _, hbd6⟩ := hbd.out
      simp only [Value.slice.injEq] at hBe
      obtain ⟨rfl, _, rfl⟩ := hBe
      rcases hbd6 with hbd6 | ⟨bk, off, rfl, hbk1, hbk2, hbk3, hcell⟩
      · rw [hbd6] at hlt; simp at hlt
      have hck := hcell k hlt
      obtain ⟨y, hy⟩ : ∃ y, y = r.bounds.getD k 0 := ⟨_, rfl⟩
      rw [← hy] at hck
      have HY := Lib.hid hy
      obtain ⟨hV, hV2, hnn, hfn, hfb⟩ := HN.out
      have HYF := Lib.hid (show finF y = true by rw [hy]; exact bound_fin hfb hlt)
      have HRL := Lib.hid (show (rowF r k).length = x.length by rw [rowF_len hV2 hnn hlt, HLX.out])
      have HRF := Lib.hid (rowF_fin (r := r) k hfn)
      have HRW := Lib.hid (row_any r V k _ wr (HRV.out.below hbr (by omega)) (show h ≤ wr.heap.size by omega) hV hV1 hV8 hlt hb8 hnn)
      have HRE : Hid ((r.numbers.drop (k * V)).take V = rowF r k) := by unfold Hid rowF; rw [hV2]
      rw [HRE.out] at HRW
      have HXR := Lib.hid (HX.out.below hbr (by omega))
      have HLN := Lib.hid (show zs.length + [y].length ≤ 1099511627776 by simp; have := HZL.out; omega)
      have hh2 : h' ≤ wr.heap.size := by omega
      clear hy hcell hbd hown hqr hV hV2 hnn hfn hfb hbr
      go_wp2_with fail
      refine HRW.out.mono ?_
      rintro e w3 ⟨u3, rfl, hf3, hb3⟩
      have HB3 := Lib.hid hb3
      have hs3 := hb3.size
      have HF3 := Lib.hid hf3
      clear hf3 hb3 hck k0 k1 k2 k3
      go_wp2_with fail
      refine (dot_any _ _ (rowF r k) x w3 HF3.out (HXR.out.below HB3.out hh2) HRL.out HRF.out HFX.out).mono ?_
      rintro e w4 ⟨d4, rfl, hv4, hd4⟩
      obtain ⟨f5, g5, r5, d5, c5⟩ := ar_any (op := .sub) (.inr (.inl rfl)) (FV.fin HYF.out) hv4
      have HD5 := Lib.hid (hd4.trans (d5 w4))
      have HB5 := Lib.hid (HB3.out.trans (HD5.out.below _))
      have HC5 := Lib.hid (c5 w4)
      have HOA := Lib.hid (OwnFL.alloc (HO.out.below HB5.out (Nat.le_refl _)) (.cells #[.float .f32 (f5 w4)] 23))
      have HONE := Lib.hid (oneFl (g5 w4) (f5 w4)).rd
      have HSZ := Lib.hid (show wr.heap.size ≤ ((g5 w4).alloc (.cells #[.float .f32 (f5 w4)] 23)).heap.size by rw [World.size_alloc, HD5.out.heap]; omega)
      clear c5 d5 hd4 hv4
      go_wp2_with (at_builtin; refine wpList_appFLs (by rfl) _ _ (by rfl) _ zs (by rfl) HOA.out _ [f5 w4] (by rfl) HONE.out HLN.out (Nat.le_trans hsr HSZ.out) ?_)
      intro v6 w6 ho6 hsm6 hz6 _
      have HB6 := ((HBR.out.trans (HB5.out.mono hsr)).alloc (Nat.le_trans hsr HB5.out.size) _).trans (hsm6.below (Nat.le_refl _) (Nat.le_trans hsr HSZ.out))
      have HV6 : Hid (FVs ((List.range (k + 1)).map (leftAt r x)) (zs ++ [f5 w4])) := by
        rw [Hid, left_succ]; refine FVs.snoc HV.out ?_; rw [leftAt, ← HY.out]; exact HC5.out
      go_wp2
      go_roundw
      case rel => exact ⟨k + 1, _, by omega, by go_num, ho6, HV6, HB6⟩
      case measure => simp [intOf]; omega
    · obtain rfl : k = r.bounds.length := by omega
      have HLL := Lib.hid (areFinite_any _ zs wr hown.rd)
      have hBE : Below w.heap.size w wr := HBW.out.trans (hbr.mono hzW)
      have HBE := Lib.hid hBE
      have HAL := Lib.hid (FVs.all HV.out)
      have HLO : Hid (leftO r x = seqO ((List.range r.bounds.length).map (leftAt r x))) := rfl
      clear hqr hbr hown hBE k0 k1 k2 k3
      rcases HAL.out with ⟨h1, h2⟩ | ⟨h1, h2⟩
      · rw [h1] at HLL
        have HE := Lib.hid (HLO.out.trans h2)
        clear h1 h2
        go_wp2_with fail
        refine HLL.out.mono ?_
        rintro e w9 ⟨rfl, hd9⟩
        go_wp2
        go_ret2
        exact ⟨_, by rw [HE.out]; rfl, by rw [HE.out]; exact (HO.out.drew hd9).mono hzW (by rw [hd9.heap]; exact Nat.le_refl _) (Nat.le_refl _), HBE.out.trans (hd9.below _)⟩
      · rw [h1] at HLL
        have HE := Lib.hid (HLO.out.trans h2)
        clear h1 h2
        go_wp2_with fail
        refine HLL.out.mono ?_
        rintro e w9 ⟨rfl, hd9⟩
        go_wp2
        go_ret2
        exact ⟨_, by rw [HE.out]; rfl, by rw [HE.out]; exact OwnFL.nil _ _ _ (Nat.le_refl _), HBE.out.trans (hd9.below _)⟩
end Go.Proofs.Ytocngcpdpeflnaa
