/-
  FnPacks: the tables of gains, in the program.
-/
import Derived.Test.YtkankfdpodofjaaPackB
import Derived.Test.YtkankfdpodofjaaAppII
import Derived.Test.YtkankfdpodofjaaCopy
import Derived.Test.YtkankfdpodofjaaRaiseI
import Derived.BigRegion
import Derived.BigQuiet
namespace Go.Proofs.Ytkankfdpodofjaa
open Go.RowKit
set_option linter.unusedVariables false
set_option maxRecDepth 100000

/-- things with sizes and gains, and a room -/
structure PkH (n R : Nat) (ss gs : List Int) : Prop where
  ls : ss.length = n
  lg : gs.length = n
  n1 : 1 ≤ n
  n7 : n ≤ 7
  r1 : 12 ≤ R
  r2 : R ≤ 31
  sz : ∀ x ∈ ss, 1 ≤ x ∧ x ≤ 12
  gn : ∀ x ∈ gs, 1 ≤ x ∧ x ≤ 12
section
variable {n R : Nat} {ss gs : List Int} (h : PkH n R ss gs)
include h
theorem PkH.sAt {i : Nat} (hi : i < n) : 1 ≤ ss.getD i 0 ∧ ss.getD i 0 ≤ 12 := h.sz _ (getD_mem (by have := h.ls; omega))
theorem PkH.gAt {i : Nat} (hi : i < n) : 1 ≤ gs.getD i 0 ∧ gs.getD i 0 ≤ 12 := h.gn _ (getD_mem (by have := h.lg; omega))
theorem PkH.s0 (i : Nat) : 0 ≤ ss.getD i 0 ∧ ss.getD i 0 ≤ 12 := by
  by_cases hi : i < n
  · have := h.sAt hi; omega
  · have e : ss.getD i 0 = 0 := by simp [List.getD, List.getElem?_eq_none (show ss.length ≤ i by have := h.ls; omega)]
    omega
theorem PkH.g0 (i : Nat) : 0 ≤ gs.getD i 0 ∧ gs.getD i 0 ≤ 12 := by
  by_cases hi : i < n
  · have := h.gAt hi; omega
  · have e : gs.getD i 0 = 0 := by simp [List.getD, List.getElem?_eq_none (show gs.length ≤ i by have := h.lg; omega)]
    omega
theorem PkH.ok : okPack ss gs R = true := by
  simp only [okPack, okThings, Bool.and_eq_true, List.all_eq_true, decide_eq_true_eq, inB_iff]
  have h1 := h.ls; have h2 := h.lg; have h3 := h.n1; have h4 := h.n7; have h5 := h.r1; have h6 := h.r2
  exact ⟨⟨fun x hx => by have := h.sz x hx; omega, by omega⟩, by omega, by omega, fun x hx => by have := h.gn x hx; omega⟩
theorem PkH.things : okThings ss = true := by
  simp only [okThings, Bool.and_eq_true, List.all_eq_true, inB_iff]
  have h1 := h.ls; have h3 := h.n1; have h4 := h.n7
  exact ⟨fun x hx => by have := h.sz x hx; omega, by omega⟩
theorem PkH.tabR (i r : Nat) (hi : i ≤ n) : 0 ≤ tab ss gs i r ∧ tab ss gs i r ≤ 84 := by
  have := tab_rng (ss := ss) h.g0 i r
  have := h.n7
  omega
end
def tabs (ss gs : List Int) (R i : Nat) : List (List Int) := (List.range (i + 1)).map (tabRow ss gs R)
theorem tabs_len (ss gs : List Int) (R i : Nat) : (tabs ss gs R i).length = i + 1 := by simp [tabs]
theorem tabs_succ (ss gs : List Int) (R i : Nat) : tabs ss gs R (i + 1) = tabs ss gs R i ++ [tabRow ss gs R (i + 1)] := by rw [tabs, List.range_succ, List.map_append]; rfl
theorem tabs_at (ss gs : List Int) (R i : Nat) {k : Nat} (hk : k < (tabs ss gs R i).length) : (tabs ss gs R i)[k] = tabRow ss gs R k := by simp [tabs]
theorem tabs_sum (ss gs : List Int) (R i : Nat) : ((tabs ss gs R i).map List.length).sum = (i + 1) * (R + 1) := by
  induction i with
  | zero => simp [tabs, tabRow_len]
  | succ i ih => rw [tabs_succ, List.map_append, List.sum_append, ih]; simp [tabRow_len]; rw [Nat.add_mul (i + 1) 1]; omega
theorem tabRow_zero (ss gs : List Int) (R : Nat) : tabRow ss gs R 0 = List.replicate (R + 1) 0 := by
  apply List.ext_getElem (by simp [tabRow_len])
  intro k h1 h2
  simp [tabRow, tab]
/-- the next row, done up to r -/
def mixRow (ss gs : List Int) (R i r : Nat) : List Int := (List.range (R + 1)).map fun q => if q < r then tab ss gs (i + 1) q else tab ss gs i q
theorem mixRow_len (ss gs : List Int) (R i r : Nat) : (mixRow ss gs R i r).length = R + 1 := by simp [mixRow]
theorem mixRow_start (ss gs : List Int) (R i : Nat) : mixRow ss gs R i (ss.getD i 0).toNat = tabRow ss gs R i := by
  apply List.map_congr_left
  intro q hq
  split
  · rename_i h; rw [tab, if_neg (by omega)]
  · rfl
theorem mixRow_end (ss gs : List Int) (R i : Nat) : mixRow ss gs R i (R + 1) = tabRow ss gs R (i + 1) := by
  apply List.map_congr_left
  intro q hq
  rw [List.mem_range] at hq
  rw [if_pos hq]
theorem mixRow_at (ss gs : List Int) {R i r : Nat} (h : r ≤ R) : (mixRow ss gs R i r).getD r 0 = tab ss gs i r := by
  simp [mixRow, List.getD, show r < R + 1 by omega]
theorem mixRow_step (ss gs : List Int) {R i r : Nat} (h : r ≤ R) (hs : (ss.getD i 0).toNat ≤ r) : (mixRow ss gs R i r).set r (max (tab ss gs i r) (tab ss gs i (r - (ss.getD i 0).toNat) + gs.getD i 0)) = mixRow ss gs R i (r + 1) := by
  have ht : tab ss gs (i + 1) r = max (tab ss gs i r) (tab ss gs i (r - (ss.getD i 0).toNat) + gs.getD i 0) := by rw [tab, if_pos hs]
  rw [← ht]
  apply List.ext_getElem (by rw [List.length_set, mixRow_len, mixRow_len])
  intro k h1 h2
  rw [List.getElem_set]
  simp only [mixRow, List.getElem_map, List.getElem_range]
  by_cases e : r = k
  · subst e; rw [if_pos rfl, if_pos (Nat.lt_succ_self _)]
  · rw [if_neg e]
    by_cases e2 : k < r
    · rw [if_pos e2, if_pos (by omega)]
    · rw [if_neg e2, if_neg (by omega)]
theorem oneRowII (w : World) (u : Value) (zs : List Int) {lo : Nat} (hu : OwnI w lo w.heap.size u zs) (hz : zs.length ≤ 1048576) (hlo : lo ≤ w.heap.size) : OwnII (w.alloc (.cells #[u] 25)) lo (w.heap.size + 1) (.slice (some ⟨w.heap.size, 0, none⟩) 1 1) [zs] := by
  have hone : u.oneCell' = true := by
    rcases hu.rowOf with ⟨rfl, _⟩ | ⟨g, cap, rfl, _⟩ <;> rfl
  refine ⟨⟨[u], rfl, (⟨World.ownsRow_lit w #[u] 1 hlo (by simp [maxLen]) (by simp), fun k e => by simp [Value.ownBlock] at e; omega, by simp⟩ : Own (w.alloc (.cells #[u] 25)) lo (w.heap.size + 1) 25 1 (.slice (some ⟨w.heap.size, 0, none⟩) 1 1) 1 [u]), fun i h => ?_, fun i j hij hj => by simp at hj; omega, fun i h p hp e => ?_⟩, by simp; omega⟩
  · obtain rfl : i = 0 := by simp at h; omega
    exact (hu.alloc _).mono (Nat.le_refl _) (by omega) (by simp)
  · obtain rfl : i = 0 := by simp at h; omega
    have := hu.own.blk p hp
    simp [Value.ownBlock] at e
    omega
theorem Same.drewT {lo hi : Nat} {a w w' : World} (h : Same lo hi a w) (d : Drew w w') : Same lo hi a w' := by
  obtain ⟨n, rfl⟩ := d
  exact h.drewN n
set_option maxHeartbeats 4000000 in
set_option maxRecDepth 100000 in
theorem gainTables_any (w : World) {l h l' h' n R : Nat} (v : Value) (ss : List Int) (v' : Value) (gs : List Int) (hv : Ints w l h v ss) (hh : h ≤ w.heap.size) (hv' : Ints w l' h' v' gs) (hh' : h' ≤ w.heap.size) (H : PkH n R ss gs) :
    Calls Try.prog 55 #[v, v', .int .i64 R] w fun e w' => ∃ u, e = .returned u ∧ OwnII w' w.heap.size w'.heap.size u (tabs ss gs R n) ∧ Below w.heap.size w w' := by
  have h1 := H.n1
  have h7 := H.n7
  have hr1 := H.r1
  have hr2 := H.r2
  have HP := Lib.hid H
  obtain ⟨va, vc, rfl, hc1, hc2, hd⟩ := hv.out
  obtain ⟨ga, gc, rfl, gc1, gc2, gd⟩ := hv'.out
  rw [H.ls] at hc1 hd ⊢
  rw [H.lg] at gc1 gd ⊢
  rcases hd with hd | ⟨b, off, rfl, hb1, hb2, hb3, hcell⟩
  · exfalso; have := H.ls; rw [hd] at this; simp at this; omega
  rcases gd with gd | ⟨gb, goff, rfl, gb1, gb2, gb3, gcell⟩
  · exfalso; have := H.lg; rw [gd] at this; simp at this; omega
  have SC : Hid (∀ (wx : World) (j : Nat), Below w.heap.size w wx → j < n → wx.cell? ⟨b, off + j, none⟩ = some (.int .i64 (ss.getD j 0))) := fun wx j hbx hj => by
    rw [hbx.cell (p := ⟨b, off + j, none⟩) (show b < w.heap.size by omega)]; exact hcell j hj
  have GC : Hid (∀ (wx : World) (j : Nat), Below w.heap.size w wx → j < n → wx.cell? ⟨gb, goff + j, none⟩ = some (.int .i64 (gs.getD j 0))) := fun wx j hbx hj => by
    rw [hbx.cell (p := ⟨gb, goff + j, none⟩) (show gb < w.heap.size by omega)]; exact gcell j hj
  have HM := raise_made (R + 1) (by omega)
  have hR1 : ((R + 1 : Nat) : Int) = (R : Int) + 1 := by omega
  rw [hR1] at HM
  obtain ⟨W1, hW1⟩ : ∃ X, X = w.alloc (.cells (madeCells #[Value.int .i64 0] (R + 1)) 2) := ⟨_, rfl⟩
  have hrow : RowI W1 w.heap.size w.heap.size (R + 1) (R + 1) (tabRow ss gs R 0) := by rw [hW1, tabRow_zero]; exact raise_row w (R + 1) (by omega)
  have hs1 : W1.heap.size = w.heap.size + 1 := by rw [hW1]; simp
  have hb01 : Below w.heap.size w W1 := by rw [hW1]; exact below_newW _ _
  have hrI : OwnI W1 w.heap.size W1.heap.size (.slice (some ⟨w.heap.size, 0, none⟩) (R + 1) (R + 1)) (tabRow ss gs R 0) := hrow.own (fun x hx => by rw [tabRow_zero] at hx; rw [List.eq_of_mem_replicate hx]; unfold I64; omega) (by omega) (by omega) (Nat.le_refl _)
  obtain ⟨W2, hW2⟩ : ∃ X, X = W1.alloc (.cells #[.slice (some ⟨w.heap.size, 0, none⟩) (R + 1) (R + 1)] 25) := ⟨_, rfl⟩
  have hII : OwnII W2 w.heap.size (W1.heap.size + 1) (.slice (some ⟨W1.heap.size, 0, none⟩) 1 1) [tabRow ss gs R 0] := by rw [hW2]; exact oneRowII W1 _ _ hrI (by rw [tabRow_len]; omega) (by omega)
  have hs2 : W2.heap.size = W1.heap.size + 1 := by rw [hW2]; simp
  have hb02 : Below w.heap.size w W2 := hb01.trans (by rw [hW2]; exact (below_newW W1 _).mono (by omega))
  have H0 : Hid (OwnII W2 w.heap.size W2.heap.size (.slice (some ⟨W1.heap.size, 0, none⟩) 1 1) (tabs ss gs R 0)) := by rw [Hid, hs2]; exact hII
  rw [hs1] at H0
  have HB0 := Lib.hid hb02
  have HW1 := Lib.hid hW1
  have HW2 := Lib.hid hW2
  clear hcell gcell hv hv' H hrow hrI hII hb01 hb02 hs2 hW1 hW2 hR1
  go_enter Try.func55, Try.ntmps55
  go_upto_region 2 with (fail)
  rw [← HW1.out]
  rw [← HW2.out]
  clear HW1 HW2 HM
  go_wp2_with fail
  go_loopw [7, 18] (fun ov iv wr => ∃ i : Nat, i ≤ n ∧ iv = .int .i64 i ∧ Hid (OwnII wr w.heap.size wr.heap.size ov (tabs ss gs R i)) ∧ Hid (Below w.heap.size w wr)) (fun _ iv _ => n - (intOf iv).toNat)
  case atStart => exact ⟨0, Nat.zero_le _, rfl, H0, HB0⟩
  case round =>
    clear H0 HB0
    obtain ⟨i, hi, rfl, HO, HB⟩ := hrel
    obtain ⟨w2, rfl⟩ : ∃ X, X = wr := ⟨_, rfl⟩
    have hsz := HB.out.size
    have htl := tabs_len ss gs R i
    by_cases hin : i < n
    · obtain ⟨oa, oc, V, rfl, oc1, oc2, hV, hcase⟩ := HO.out.rd.out
      rw [htl] at oc1
      rcases hcase with hcase | ⟨ob, oo, rfl, ob1, ob2, ob3, ocell⟩
      · exfalso; rw [hcase] at htl; simp at htl
      have hVi := hV i (by omega)
      rw [tabs_at] at hVi
      obtain ⟨ia, ic, hve, ic1, ic2, hid⟩ := hVi.out
      rw [tabRow_len] at hve ic1 hid
      rcases hid with hid | ⟨ib, io, rfl, ib1, ib2, ib3, icell⟩
      · exfalso; have := tabRow_len ss gs R i; rw [hid] at this; simp at this
      have hoc := ocell i (by omega)
      rw [hve] at hoc hVi
      rw [htl]
      have cs := SC.out w2 i HB.out hin
      have hsr := HP.out.sAt hin
      have hgr := HP.out.gAt hin
      have HCP := Lib.hid (copyInts_any _ (tabRow ss gs R i) w2 hVi (Nat.le_refl _) (by rw [tabRow_len]; omega))
      have HMS := Lib.hid (mixRow_start ss gs R i)
      have HME := Lib.hid (mixRow_end ss gs R i)
      have HMX := Lib.hid (fun r (h1 : r ≤ R) (h2 : (ss.getD i 0).toNat ≤ r) => mixRow_step ss gs h1 h2)
      have HTR := Lib.hid (fun r => HP.out.tabR i r hi)
      have HIC : Hid (∀ r, r ≤ R → w2.cell? ⟨ib, io + r, none⟩ = some (.int .i64 (tab ss gs i r))) := fun r hr => by have := icell r (by omega); rw [tabRow_at _ _ hr] at this; exact this
      have HOC := Lib.hid hoc
      obtain ⟨s, hs⟩ : ∃ s : Nat, ss.getD i 0 = (s : Int) := ⟨(ss.getD i 0).toNat, by omega⟩
      obtain ⟨x, hx⟩ : ∃ x, x = gs.getD i 0 := ⟨_, rfl⟩
      rw [hs] at cs hsr HMS HMX
      rw [← hx] at hgr HMX
      rw [Int.toNat_natCast] at HMS HMX
      have cg : Hid (∀ wx, Below w.heap.size w wx → wx.cell? ⟨gb, goff + i, none⟩ = some (.int .i64 x)) := fun wx hb => by rw [hx]; exact GC.out wx i hb hin
      have zi : (i : Int) < ((i + 1 : Nat) : Int) := by omega
      have htl2 := Lib.hid htl
      clear hV ocell icell hve hVi hs hx htl oc1
      go_wp2_with fail
      refine HCP.out.mono ?_
      rintro e w3 ⟨u, rfl, ho3, hb3⟩
      rcases ho3.rowOf with ⟨_, h0⟩ | ⟨g, gcap, rfl, g1, g2, g3, hrow⟩
      · exfalso; have := tabRow_len ss gs R i; rw [h0] at this; simp at this
      rw [tabRow_len] at hrow g2 ⊢
      rw [← HMS.out] at hrow
      have hgg := hrow.ge
      have g1' : w2.heap.size ≤ g := hgg
      have HR3 := Lib.hid hrow
      have HB3 := Lib.hid (HB.out.trans (hb3.mono hsz))
      have HO3 := Lib.hid (HO.out.below hb3 (Nat.le_refl _))
      have hs3 := hb3.size
      have HIC3 : Hid (∀ wx, Same g (g + 1) w3 wx → ∀ r, r ≤ R → wx.cell? ⟨ib, io + r, none⟩ = some (.int .i64 (tab ss gs i r))) := fun wx hx r hr => by
        rw [cell_of_heap (hx.block ib (by omega) (by omega)), hb3.cell (p := ⟨ib, io + r, none⟩) (show ib < w2.heap.size by omega)]; exact HIC.out r hr
      have HOC3 : Hid (∀ wx, Same g (g + 1) w3 wx → wx.cell? ⟨ob, oo + i, none⟩ = some (.slice (some ⟨ib, io, none⟩) (R + 1) ic)) := fun wx hx => by
        rw [cell_of_heap (hx.block ob (by omega) (by omega)), hb3.cell (p := ⟨ob, oo + i, none⟩) (show ob < w2.heap.size by omega)]; exact HOC.out
      have HCG : Hid (∀ wx, Same g (g + 1) w3 wx → wx.cell? ⟨gb, goff + i, none⟩ = some (.int .i64 x)) := fun wx hx => cg.out wx (HB3.out.trans (hx.below (by omega) HB3.out.size))
      clear ho3 hb3 hrow HO cs hoc HMS
      go_wp2_with fail
      go_loopw [11] (fun rv wr => ∃ r : Nat, s ≤ r ∧ r ≤ R + 1 ∧ rv = .int .i64 r ∧ Hid (RowI wr w2.heap.size g (R + 1) gcap (mixRow ss gs R i r)) ∧ Hid (Same g (g + 1) w3 wr)) (fun rv _ => R + 1 - (intOf rv).toNat)
      case atStart => exact ⟨s, Nat.le_refl _, by omega, rfl, HR3.out, Same.refl _ _ _⟩
      case round =>
        clear HR3
        obtain ⟨r, hsr', hrR, rfl, HR, HS⟩ := hrel
        by_cases hle : r ≤ R
        · have zr : (r : Int) ≤ (R : Int) := by omega
          have hmx := HMX.out r hle hsr'
          have cr := HR.out.cell (show r < R + 1 by omega)
          rw [mixRow_at _ _ hle] at cr
          have fr := HR.out.frozen r
          have co := HOC3.out wr HS.out
          have ci := HIC3.out wr HS.out (r - s) (by omega)
          have cg' := HCG.out wr HS.out
          have t1 := HTR.out r
          have t2 := HTR.out (r - s)
          have HRR : Hid (∀ u, RowI (wr.setCell ⟨g, r, none⟩ (.int .i64 u)) w2.heap.size g (R + 1) gcap ((mixRow ss gs R i r).set r u)) := fun u => HR.out.stored r u
          have HSS : Hid (∀ u, Same g (g + 1) w3 (wr.setCell ⟨g, r, none⟩ (.int .i64 u))) := fun u => HS.out.setCell (show g ≤ g by omega) (show g < g + 1 by omega) _
          obtain ⟨p, hp⟩ : ∃ p, p = r - s := ⟨_, rfl⟩
          have hps : (r : Int) - (s : Int) = (p : Int) := by omega
          have zp : p ≤ R := by omega
          rw [← hp] at ci t2 hmx
          obtain ⟨y, hy⟩ : ∃ y, y = tab ss gs i r := ⟨_, rfl⟩
          obtain ⟨z, hz⟩ : ∃ z, z = tab ss gs i p := ⟨_, rfl⟩
          rw [← hy] at cr t1 hmx
          rw [← hz] at ci t2 hmx
          have HMX2 := Lib.hid hmx
          clear hp hy hz hmx
          go_wp2_with fail
          go_region
          have HR9 : RowI ((wr.setCell ⟨g, r, none⟩ (.int .i64 (max y (z + x)))).drew) w2.heap.size g (R + 1) gcap ((mixRow ss gs R i r).set r (max y (z + x))) := (HRR.out (max y (z + x))).drewN 1
          rw [HMX2.out] at HR9
          have HS9 : Same g (g + 1) w3 ((wr.setCell ⟨g, r, none⟩ (.int .i64 (max y (z + x)))).drew) := (HSS.out (max y (z + x))).drewN 1
          generalize hw9 : ((wr.setCell ⟨g, r, none⟩ (.int .i64 (max y (z + x)))).drew) = w9 at HR9 HS9 ⊢
          clear hw9
          have HR9' := Lib.hid HR9
          have HS9' := Lib.hid HS9
          clear HR9 HS9 HMX2
          go_wp2
          go_roundw
          case rel => exact ⟨r + 1, by omega, by omega, by go_num, HR9', HS9'⟩
          case measure => (simp [intOf]; try omega)
        · obtain rfl : r = R + 1 := by omega
          have HR9 := HR.out
          rw [HME.out] at HR9
          have hwr := HS.out.size
          have hgl := HR9.lt
          have zr : ((R + 1 : Nat) : Int) = (R : Int) + 1 := by omega
          have hOr := HO3.out.same HS.out (.inl g1')
          rw [htl2.out] at hOr
          have HOr := Lib.hid hOr
          clear hOr
          have HIr := Lib.hid (HR9.own (hi := wr.heap.size) (fun y hy => by
            simp only [tabRow, List.mem_map, List.mem_range] at hy
            obtain ⟨q, _, rfl⟩ := hy
            have := HP.out.tabR (i + 1) q hin
            unfold I64; omega) (by omega) hgl (Nat.le_refl _))
          have HSM : Hid (((tabs ss gs R i ++ [tabRow ss gs R (i + 1)]).map List.length).sum ≤ 1099511627776) := by
            rw [← tabs_succ, Hid, tabs_sum]
            have : (i + 1 + 1) * (R + 1) ≤ 100 * 100 := Nat.mul_le_mul (by omega) (by omega)
            omega
          have HLN : Hid ((tabs ss gs R i).length + 1 ≤ 1048576) := by rw [Hid, tabs_len]; omega
          have HBr := Lib.hid (HB3.out.trans (HS.out.below (by omega) HB3.out.size))
          clear HR9 HR HOC3 HIC3 HCG HME HMX
          go_wp2_with (at_builtin; refine wpList_appII rfl _ _ rfl _ (tabs ss gs R i) rfl _ (tabRow ss gs R (i + 1)) _ HOr.out HIr.out (Nat.le_refl _) (by omega) rfl HLN.out HSM.out (by omega) ?_)
          intro v5 w5 ho5 hs5 hl5
          rw [← tabs_succ] at ho5
          have HO5 := Lib.hid ho5
          have HB5 := Lib.hid (HBr.out.trans (hs5.below (Nat.le_refl _) HBr.out.size))
          clear ho5 hs5 HOr HIr HSM HLN
          go_wp2
          go_roundw
          case rel => exact ⟨i + 1, by omega, by go_num, HO5, HB5⟩
          case measure => (simp [intOf]; try omega)
    · obtain rfl : i = n := by omega
      go_wp2
      go_ret
      exact ⟨_, rfl, HO.out, HB.out⟩
end Go.Proofs.Ytkankfdpodofjaa
