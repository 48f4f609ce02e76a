/-
  RoomsOf: contract in the program.
-/
import Derived.Test.YtkankfdpodofjaaRoomP
import Derived.Test.YtkankfdpodofjaaOneN
import Derived.Test.YtkankfdpodofjaaRaiseI
import Derived.Deep.RegionHeld3
namespace Go.Proofs.Ytkankfdpodofjaa
open Go.RowKit
set_option linter.unusedVariables false
set_option maxRecDepth 100000

set_option maxHeartbeats 1600000 in
set_option maxRecDepth 100000 in
theorem roomCmp_any {l h p : Nat} (v : Value) (ss : List SpanD) (w : World) (hp : w.cell? ⟨p, 0, none⟩ = some v) (hv : Spans w l h v ss) (a b : Int) (ha : 0 ≤ a) (ha2 : a < ss.length) (hb : 0 ≤ b) (hb2 : b < ss.length) :
    Calls Try.prog 74 #[.int .i64 a, .int .i64 b, .pointer (some ⟨p, 0, none⟩)] w fun e w' => e = .returned (.int .i64 (cmpI ((froms ss).getD a.toNat 0) ((froms ss).getD b.toNat 0))) ∧ Drew w w' := by
  obtain ⟨A, rfl⟩ : ∃ A : Nat, a = (A : Int) := ⟨a.toNat, by omega⟩
  obtain ⟨B, rfl⟩ : ∃ B : Nat, b = (B : Int) := ⟨b.toNat, by omega⟩
  have hA : A < ss.length := by omega
  have hB : B < ss.length := by omega
  obtain ⟨va, vc, rfl, hc1, hc2, hd⟩ := hv.out
  rcases hd with hd | ⟨blk, off, rfl, hb1, hbb2, hb3, hcell⟩
  · exfalso; rw [hd] at hA; simp at hA
  have cA := (hcell A hA).1
  have cB := (hcell B hB).1
  rw [Int.toNat_natCast, Int.toNat_natCast, froms_at ss hA, froms_at ss hB]
  obtain ⟨x, hx⟩ : ∃ x, x = ss[A].x0 := ⟨_, rfl⟩
  obtain ⟨y, hy⟩ : ∃ y, y = ss[B].x0 := ⟨_, rfl⟩
  rw [← hx] at cA ⊢
  rw [← hy] at cB ⊢
  clear hcell hv hx hy
  go_enter Try.func74, Try.ntmps74
  go_wp2_with fail
  go_quiet ((go_at_call 65; exact quiet_same (compare_any _ _ _)))
  go_wp2
  go_ret
  exact ⟨rfl, Drew.one _ _⟩
theorem Same.newer {lo hi g : Nat} {a w w' : World} (h : Same lo hi w w') (hlo : a.heap.size ≤ lo) (ha : Same g (g + 1) a w) : Same g (g + 1) a w' :=
  ⟨h.os.trans ha.os, h.tape.trans ha.tape, h.output.trans ha.output, Nat.le_trans ha.size h.size, fun k hk hn => (h.block k (by have := ha.size; omega) (by omega)).trans (ha.block k hk hn)⟩
theorem Same.setNewR {lo hi : Nat} {a w : World} (h : Same lo hi a w) {p : Addr} (hp : a.heap.size ≤ p.block) (u : Value) : Same lo hi a (w.setCell p u) :=
  ⟨h.os, h.tape, h.output, by have := h.size; simp [World.setCell]; exact this, fun k hk hn => (Below.heap_setCell _ _ _ _ (by omega)).trans (h.block k hk hn)⟩
theorem Same.drewD {lo hi : Nat} {a w w' : World} (h : Same lo hi a w) (d : Drew w w') : Same lo hi a w' := by
  obtain ⟨n, rfl⟩ := d
  exact h.drewN n
theorem putE_in {E : List Int} {k : Nat} (t : Int) (h : k < E.length) : putE E k t = E.set k t := by rw [putE, if_neg (by omega)]
theorem putE_end (E : List Int) (t : Int) : putE E E.length t = (E ++ [0]).set E.length t := by rw [putE, if_pos rfl]; simp
theorem rk_step {f : Int} {E : List Int} {k : Nat} (hk : k ≤ rkF f E) (hl : k < E.length) (hf : f < E.getD k 0) : k + 1 ≤ rkF f E := by
  by_cases h : k = rkF f E
  · have := rkF_at f E (by omega)
    rw [← h] at this
    exact absurd hf this
  · omega
theorem rk_end {f : Int} {E : List Int} {k : Nat} (hk : k ≤ rkF f E) (h : k = E.length ∨ ¬ f < E.getD k 0) : k = rkF f E := by
  have := rkF_le f E
  rcases h with h | h
  · omega
  · by_cases h2 : k < rkF f E
    · exact absurd (rkF_lt f E k h2) h
    · omega
set_option maxHeartbeats 4000000 in
set_option maxRecDepth 100000 in
theorem implRoomsOf_any (w : World) {l h : Nat} (v : Value) (ss : List SpanD) (hv : Spans w l h v ss) (hh : h ≤ w.heap.size) (hz : ss.length ≤ 1048576) :
    Calls Try.prog 27 #[v] w fun e w' => ∃ u, e = .returned (.tuple #[u, .int .i64 (roomsOf ss).2.1, .bool (roomsOf ss).2.2]) ∧ OwnI w' w.heap.size w'.heap.size u (roomsOf ss).1 ∧ Below w.heap.size w w' := by
  obtain ⟨va, vc, rfl, hc1, hc2, _⟩ := hv.out
  obtain ⟨W0, hW⟩ : ∃ W0, W0 = w.alloc (.cells #[.slice va ss.length vc] 46) := ⟨_, rfl⟩
  have hb0 : Below w.heap.size w W0 := by rw [hW]; exact (Below.refl _ _).alloc (Nat.le_refl _) _
  have hs0 : w.heap.size < W0.heap.size := by rw [hW]; simp
  have hp0 : W0.cell? ⟨w.heap.size, 0, none⟩ = some (.slice va ss.length vc) := by rw [hW]; exact one_new _ _ _
  have HV := Lib.hid (hv.below hb0 hh)
  have HAS := Lib.hid (implAreSpans_any W0 _ ss HV.out (Nat.le_trans hh hb0.size) hz)
  have HB0 := Lib.hid hb0
  have HP0 := Lib.hid hp0
  have HW := Lib.hid hW
  obtain ⟨n, hn⟩ : ∃ n, n = ss.length := ⟨_, rfl⟩
  have HN := Lib.hid hn
  rw [← hn] at HV HAS HP0 HW hc1 ⊢
  obtain ⟨q, hq⟩ : ∃ q, q = w.heap.size := ⟨_, rfl⟩
  have HQ := Lib.hid hq
  cases har : areSpans ss
  · have HE := Lib.hid (show roomsOf ss = ([], 0, false) by rw [roomsOf, if_neg (by rw [har]; decide)])
    rw [har] at HAS
    clear hv hb0 hW hp0 har hn hq
    go_enter Try.func27, Try.ntmps27
    go_wp2_with fail
    rw [← HW.out]
    have hp := HP0.out
    go_wp2_with fail
    refine HAS.out.mono ?_
    rintro e w1 ⟨rfl, hd⟩
    have HD := Lib.hid hd
    clear hd hp
    go_wp2
    go_ret3
    exact ⟨_, by rw [HE.out]; rfl, by rw [HE.out]; exact OwnI.nil _ _ _ (Nat.le_refl _), HB0.out.trans (HD.out.mono (by have := HB0.out.size; omega))⟩
  · obtain ⟨a1, a2, a3⟩ := areSpans_out har
    rw [har] at HAS
    rw [← hn] at a1 a2
    have hOF := ordS_facts ss
    have hyp := spans_hyp har
    have hE : roomsOf ss = (roOut (froms ss) (tos ss) (ordS ss) 0 n n, (((roE (froms ss) (tos ss) (ordS ss) n).length : Nat) : Int), true) := by rw [roomsOf, if_pos har, hn]
    rw [← hn] at hOF hyp
    obtain ⟨o1, o2, _, _, _⟩ := hOF
    have HE := Lib.hid hE
    have hFr : ∀ j, j < n → 0 ≤ (froms ss).getD j 0 ∧ (froms ss).getD j 0 ≤ 100000 := fun j hj => by
      rw [froms_at ss (by omega)]
      have := okSpan_bounds (a3 _ (List.getElem_mem (show j < ss.length by omega)))
      omega
    have hTr : ∀ j, j < n → 0 ≤ (tos ss).getD j 0 ∧ (tos ss).getD j 0 ≤ 100000 := fun j hj => by
      rw [tos_at ss (by omega)]
      have := okSpan_bounds (a3 _ (List.getElem_mem (show j < ss.length by omega)))
      omega
    obtain ⟨F, hF⟩ : ∃ F, F = froms ss := ⟨_, rfl⟩
    obtain ⟨T, hT⟩ : ∃ T, T = tos ss := ⟨_, rfl⟩
    obtain ⟨O, hO⟩ : ∃ O, O = ordS ss := ⟨_, rfl⟩
    rw [← hF] at hFr
    rw [← hT] at hTr
    rw [← hF, ← hT, ← hO] at HE
    rw [← hO] at o1 o2
    have HER := Lib.hid (fun (t : Nat) (ht : t ≤ n) => roE_rng (F := F) hTr (fun t ht => (o2 t ht).1) t ht)
    have HFR := Lib.hid hFr
    have HTR := Lib.hid hTr
    have HO1 := Lib.hid o1
    have HO2 := Lib.hid o2
    obtain ⟨va', vc', ve, _, _, vd⟩ := HV.out.out
    injection ve with ve1 ve2 ve3
    rcases vd with vd | ⟨b, off, ve4, r1, r2, r3, scell⟩
    · exfalso; rw [vd] at hn; simp at hn; omega
    rw [← ve1] at ve4
    subst ve4
    have hc0 : ∀ j, j < n → W0.cell? ⟨b, off + j * 3, none⟩ = some (.int .i64 (F.getD j 0)) := fun j hj => by rw [hF, froms_at ss (by omega)]; exact (scell j (by omega)).1
    have hc1' : ∀ j, j < n → W0.cell? ⟨b, off + j * 3 + 1, none⟩ = some (.int .i64 (T.getD j 0)) := fun j hj => by rw [hT, tos_at ss (by omega)]; exact (scell j (by omega)).2.1
    have HC0 := Lib.hid hc0
    have HC1 := Lib.hid hc1'
    have hbw : b < w.heap.size := by omega
    have hHF := Lib.hid hF
    have hHO : Hid (O = ordTo (keyLt F) n) := by rw [Hid, hO, ordS, hF, hn]
    rw [← hq] at HP0
    have hqw : q ≤ w.heap.size := Nat.le_of_eq HQ.out
    have hqw2 : w.heap.size ≤ q := Nat.le_of_eq HQ.out.symm
    clear hn hv hb0 hW hp0 har hq hyp hE hFr hTr o1 o2 hF hT hO scell hc0 hc1' a3 ve1 ve2 ve3
    go_enter Try.func27, Try.ntmps27
    go_wp2_with fail
    rw [← HQ.out]
    rw [← HW.out]
    have hp := HP0.out
    go_wp2_with fail
    refine HAS.out.mono ?_
    rintro e w1 ⟨rfl, hd⟩
    have HB1 := Lib.hid (HB0.out.trans (hd.mono (by have := HB0.out.size; omega)))
    have HD1 := Lib.hid hd
    have hp1 : w1.cell? ⟨q, 0, none⟩ = some (.slice (some ⟨b, off, none⟩) n vc) := by rw [hd.cell (p := ⟨q, 0, none⟩) (show q < W0.heap.size by omega)]; exact HP0.out
    have HM := raise_made n (by omega)
    obtain ⟨W1, hW1⟩ : ∃ X, X = w1.alloc (.cells (madeCells #[Value.int .i64 0] n) 2) := ⟨_, rfl⟩
    obtain ⟨g, hg⟩ : ∃ x, x = w1.heap.size := ⟨_, rfl⟩
    have hR1 : RowI W1 g g n n (List.replicate n 0) := by rw [hW1, hg]; exact raise_row w1 n (by omega)
    have HR1 := Lib.hid hR1
    have hbW : Below w1.heap.size w1 W1 := by rw [hW1]; exact (Below.refl _ _).alloc (Nat.le_refl _) _
    have HBW := Lib.hid hbW
    have hq1 : q < g := by rw [hg]; have := HD1.out.size; omega
    have hgW : g < W1.heap.size := HR1.out.lt
    have hp2 : W1.cell? ⟨q, 0, none⟩ = some (.slice (some ⟨b, off, none⟩) n vc) := by rw [hbW.cell (p := ⟨q, 0, none⟩) (by rw [← hg]; exact hq1)]; exact hp1
    have HP2 := Lib.hid hp2
    have HVW : Hid (Spans W1 l h (.slice (some ⟨b, off, none⟩) n vc) ss) := (HV.out.below HD1.out (by have := HB0.out.size; omega)).below hbW (by have := HD1.out.size; have := HB0.out.size; omega)
    have HGW := Lib.hid hg
    clear hd hp hR1 hbW hg
    have hp := hp1
    go_upto_region 4 with (fail)
    rw [← hW1, ← HGW.out]
    clear hW1 HM hp1 hp
    have hp := HP2.out
    have hkey : ∀ x y : Int, decide (cmpI (F.getD x.toNat 0) (F.getD y.toNat 0) < 0) = decide (F.getD x.toNat 0 < F.getD y.toNat 0) := fun x y => cmpI_lt _ _
    have HOB := Lib.hid (orderBy64_any 74 (fun _ _ => by kernel_rfl) #[.pointer (some ⟨q, 0, none⟩)] (fun x y => cmpI (F.getD x.toNat 0) (F.getD y.toNat 0)) (fun x => F.getD x.toNat 0) hkey W1 (show 0 < n by omega) a2 (fun wx hb x y x1 x2 y1 y2 => by
      have hps : wx.cell? ⟨q, 0, none⟩ = some (.slice (some ⟨b, off, none⟩) n vc) := by rw [hb.cell (p := ⟨q, 0, none⟩) (show q < W1.heap.size by omega)]; exact HP2.out
      have := roomCmp_any (.slice (some ⟨b, off, none⟩) n vc) ss wx hps (HVW.out.below hb (by have := HBW.out.size; have := HD1.out.size; have := HB0.out.size; omega)) x y x1 (by rw [← HN.out]; exact x2) y1 (by rw [← HN.out]; exact y2)
      rw [← hHF.out] at this
      exact this))
    rw [show ltOf (fun x y => cmpI (F.getD x.toNat 0) (F.getD y.toNat 0)) = keyLt F from by funext x y; exact hkey x y, ← hHO.out] at HOB
    clear hkey
    go_wp2_with fail
    refine HOB.out.mono ?_
    rintro e w2 ⟨ov, rfl, ho2, hb2⟩
    have hz2 := hb2.size
    have hrd := ho2.rd
    obtain ⟨oa, oc, oe, c1, c2, od⟩ := hrd.out
    rw [HO1.out] at oe
    subst oe
    rcases od with od | ⟨ob, oo, rfl, y1, y2, y3, ocell⟩
    · exfalso; have := HO1.out; rw [od] at this; simp at this; omega
    have HOC := Lib.hid ocell
    have HR2 := Lib.hid (HR1.out.below hb2 hgW)
    have HB2 := Lib.hid hb2
    have hp3 : w2.cell? ⟨q, 0, none⟩ = some (.slice (some ⟨b, off, none⟩) n vc) := by rw [hb2.cell (p := ⟨q, 0, none⟩) (show q < W1.heap.size by omega)]; exact HP2.out
    have HP3 := Lib.hid hp3
    have hsW0 : W0.heap.size ≤ w1.heap.size := HD1.out.size
    have hsW1 : w1.heap.size ≤ W1.heap.size := HBW.out.size
    have hC0 : ∀ j, j < n → w2.cell? ⟨b, off + j * 3, none⟩ = some (.int .i64 (F.getD j 0)) := fun j hj => by
      rw [hb2.cell (p := ⟨b, off + j * 3, none⟩) (show b < W1.heap.size by omega), HBW.out.cell (p := ⟨b, off + j * 3, none⟩) (show b < w1.heap.size by omega), HD1.out.cell (p := ⟨b, off + j * 3, none⟩) (show b < W0.heap.size by omega)]
      exact HC0.out j hj
    have hC1 : ∀ j, j < n → w2.cell? ⟨b, off + j * 3 + 1, none⟩ = some (.int .i64 (T.getD j 0)) := fun j hj => by
      rw [hb2.cell (p := ⟨b, off + j * 3 + 1, none⟩) (show b < W1.heap.size by omega), HBW.out.cell (p := ⟨b, off + j * 3 + 1, none⟩) (show b < w1.heap.size by omega), HD1.out.cell (p := ⟨b, off + j * 3 + 1, none⟩) (show b < W0.heap.size by omega)]
      exact HC1.out j hj
    have HD0 := Lib.hid hC0
    have HDD := Lib.hid hC1
    have HBALL : Hid (Below w.heap.size w w2) := by
      have hg' := HGW.out
      exact HB1.out.trans ((HBW.out.trans (hb2.mono hsW1)).mono (by have := HB1.out.size; omega))
    have hwg : w.heap.size ≤ g := by rw [HGW.out]; exact HB1.out.size
    clear ho2 hb2 hrd c1 hp2 hp hp3 hC0 hC1 ocell HOB HC0 HC1 HVW HP2 HR1
    have hp := HP3.out
    go_wp2_with fail
    go_loopw [6, 21] (fun ev tv wr => ∃ t : Nat, t ≤ n ∧ tv = .int .i64 t ∧ Hid (OwnI wr w2.heap.size wr.heap.size ev (roE F T O t)) ∧ Hid (RowI wr g g n n (roOut F T O 0 n t)) ∧ Hid (Same g (g + 1) w2 wr)) (fun _ tv _ => n - (intOf tv).toNat)
    case atStart => exact ⟨0, Nat.zero_le _, rfl, OwnI.nil _ _ _ (Nat.le_refl _), HR2.out, Same.refl _ _ _⟩
    case round =>
      clear HR2 hp
      obtain ⟨ev, hev⟩ : ∃ v, v = u6 := ⟨_, rfl⟩
      rw [← hev] at hrel
      rw [← hev]
      clear hev
      obtain ⟨t, ht, rfl, HEO, HRO, HS⟩ := hrel
      have hsr := HS.out.size
      have hKc : ∀ {bb oo : Nat} {vv : Value}, bb < w2.heap.size → bb ≠ g → w2.cell? ⟨bb, oo, none⟩ = some vv → wr.cell? ⟨bb, oo, none⟩ = some vv := fun {bb oo vv} h1 h2 h3 => by
        rw [cell_of_heap (HS.out.block bb h1 (by omega))]; exact h3
      have hp := hKc (show q < w2.heap.size by omega) (by omega) HP3.out
      by_cases htn : t < n
      · have hio := HO2.out t htn
        obtain ⟨i, hi⟩ : ∃ i, i = ixO O t := ⟨_, rfl⟩
        rw [← hi] at hio
        obtain ⟨hin, hoi⟩ := hio
        obtain ⟨E, hE⟩ : ∃ E, E = roE F T O t := ⟨_, rfl⟩
        obtain ⟨R, hR⟩ : ∃ R, R = roOut F T O 0 n t := ⟨_, rfl⟩
        obtain ⟨f, hf⟩ : ∃ f, f = F.getD i 0 := ⟨_, rfl⟩
        obtain ⟨e1, he1⟩ : ∃ x, x = T.getD i 0 := ⟨_, rfl⟩
        have HNE : Hid (roE F T O (t + 1) = putE E (rkF f E) e1) := by rw [Hid, roE, ← hi, ← hE, ← hf, ← he1]
        have HNR : Hid (roOut F T O 0 n (t + 1) = R.set i ((rkF f E : Nat) : Int)) := by rw [Hid, roOut, ← hi, ← hE, ← hR, ← hf]
        have HEL : Hid (E.length ≤ t) := by rw [Hid, hE]; exact roE_len F T O t
        have HEB : Hid (∀ e ∈ E, 0 ≤ e ∧ e ≤ 100000) := by rw [Hid, hE]; exact HER.out t ht
        have he1r : 0 ≤ e1 ∧ e1 ≤ 100000 := by rw [he1]; exact HTR.out i hin
        have hoc : wr.cell? ⟨ob, oo + t, none⟩ = some (.int .i64 (i : Int)) := hKc y2 (by omega) (by have := HOC.out t (by rw [HO1.out]; exact htn); rw [hoi] at this; exact this)
        have hcf : wr.cell? ⟨b, off + i * 3, none⟩ = some (.int .i64 f) := hKc (by omega) (by omega) (by rw [hf]; exact HD0.out i hin)
        have hct : wr.cell? ⟨b, off + i * 3 + 1, none⟩ = some (.int .i64 e1) := hKc (by omega) (by omega) (by rw [he1]; exact HDD.out i hin)
        rw [← hE] at HEO
        rw [← hR] at HRO
        have HKF := Lib.hid hcf
        have HKT := Lib.hid hct
        have HKP := Lib.hid hp
        have zi : (i : Int) < (n : Int) := by omega
        have zt : (t : Int) < (n : Int) := by omega
        obtain ⟨w4, rfl⟩ : ∃ X, X = wr := ⟨_, rfl⟩
        obtain ⟨va, vce, hev, de⟩ : ∃ va vce, ev = .slice va E.length vce ∧ (E = [] ∨ ∃ eg, va = some ⟨eg, 0, none⟩ ∧ eg < w4.heap.size ∧ E.length ≤ vce ∧ vce ≤ 9223372036854775807 ∧ RowI w4 w2.heap.size eg E.length vce E) := by
          rcases HEO.out.rowOf with ⟨z1, z2⟩ | ⟨eg, ec, z1, z2, z3, z4, z5⟩
          · exact ⟨none, 0, by rw [z1, z2]; rfl, .inl z2⟩
          · exact ⟨_, ec, z1, .inr ⟨eg, rfl, z2, z3, z4, z5⟩⟩
        subst hev
        have HDE := Lib.hid de
        have hLe : E.length ≤ n := by have := HEL.out; omega
        have hkF := rkF_le f E
        obtain ⟨kF, hkF2⟩ : ∃ x, x = rkF f E := ⟨_, rfl⟩
        have HKE := Lib.hid (show ∀ k : Nat, k ≤ kF → k < E.length → f < E.getD k 0 → k + 1 ≤ kF from fun k hk hkl h => by rw [hkF2]; exact rk_step (by omega) hkl h)
        have HKD := Lib.hid (show ∀ k : Nat, k ≤ kF → (k = E.length ∨ E.getD k 0 ≤ f) → k = kF from fun k hk h => by rw [hkF2]; exact rk_end (by omega) (h.imp id (fun h => by omega)))
        rw [← hkF2] at hkF HNE HNR
        clear hi hE hR hf he1 hoi de hKc hcf hct hkF2
        go_wp2_with fail
        go_loopw [9] (fun kv wx => ∃ k : Nat, k ≤ kF ∧ kv = .int .i64 k ∧ Drew w4 wx) (fun kv _ => E.length - (intOf kv).toNat)
        case atStart => exact ⟨0, Nat.zero_le _, rfl, Drew.refl _⟩
        case round =>
          clear hp hoc
          obtain ⟨k, hk, rfl, hD⟩ := hrel
          by_cases hkl : k < E.length
          · rcases HDE.out with de | ⟨eb, rfl, z1, z2, z3, hrow⟩
            · exfalso; rw [de] at hkl; simp at hkl
            have hER := hrow.drew hD
            have hek := hER.cell hkl
            have HRW := Lib.hid hER
            have z4 := hrow.ge
            have hp : wr.cell? ⟨q, 0, none⟩ = some (.slice (some ⟨b, off, none⟩) n vc) := by rw [hD.cell ⟨q, 0, none⟩]; exact HKP.out
            have hcf : wr.cell? ⟨b, off + i * 3, none⟩ = some (.int .i64 f) := by rw [hD.cell ⟨b, off + i * 3, none⟩]; exact HKF.out
            have HD2 := Lib.hid hD
            have zk : (k : Int) < (E.length : Int) := by omega
            have HRS : Hid (f < E.getD k 0 → k + 1 ≤ kF) := HKE.out k hk hkl
            have HRE : Hid (¬ f < E.getD k 0 → k = kF) := fun h => HKD.out k hk (.inr (by omega))
            obtain ⟨ek, hek2⟩ : ∃ x, x = E.getD k 0 := ⟨_, rfl⟩
            rw [← hek2] at hek HRS HRE
            clear hek2 hrow hER hD
            by_cases hfe : f < ek
            · have hfd : decide (f < ek) = true := decide_eq_true hfe
              have hk2 := HRS.out hfe
              clear HRS HRE
              go_wp2_with fail
              go_quiet (fail)
              go_wp2
              go_roundw
              case rel => exact ⟨k + 1, hk2, by go_num, HD2.out.step _⟩
              case measure => (simp [intOf]; try omega)
            · have hfd : decide (f < ek) = false := decide_eq_false hfe
              have hk3 : Hid (k = kF) := HRE.out hfe
              clear HRS HRE
              go_wp2_with fail
              go_quiet (fail)
              obtain ⟨w5, hw5⟩ : ∃ X, X = wr.drewN nq := ⟨_, rfl⟩
              rw [← hw5]
              have HS5 : Hid (Same g (g + 1) w2 w5) := by rw [hw5]; exact (HS.out.drewD HD2.out).drewN _
              have HRW5 : Hid (RowI w5 w2.heap.size eb E.length vce E) := by rw [hw5]; exact HRW.out.drewN _
              have HRO5 : Hid (RowI w5 g g n n R) := by rw [hw5]; exact (HRO.out.drew HD2.out).drewN _
              have hp5 : w5.cell? ⟨q, 0, none⟩ = some (.slice (some ⟨b, off, none⟩) n vc) := by rw [hw5]; exact hp
              have hct5 : w5.cell? ⟨b, off + i * 3 + 1, none⟩ = some (.int .i64 e1) := by rw [hw5]; exact (HD2.out.cell ⟨b, off + i * 3 + 1, none⟩).trans HKT.out
              have hce := HRW5.out.cell hkl
              have hfe := HRW5.out.frozen k
              have zne : (k : Int) ≠ (E.length : Int) := by omega
              have zk' : (k : Int) < (E.length : Int) := by omega
              have hp := hp5
              clear hw5 hek hcf hp5 hfd
              go_upto_region 14 with (fail)
              obtain ⟨w6, hw6⟩ : ∃ X, X = w5.setCell ⟨eb, k, none⟩ (.int .i64 e1) := ⟨_, rfl⟩
              rw [← hw6]
              have hER6 : RowI w6 w2.heap.size eb E.length vce (E.set k e1) := by rw [hw6]; exact HRW5.out.stored k e1
              have hS6 : Same g (g + 1) w2 w6 := by rw [hw6]; exact HS5.out.setNewR (show w2.heap.size ≤ eb from z4) _
              have hR6 : RowI w6 g g n n R := by rw [hw6]; exact HRO5.out.keep (Below.heap_setCell _ _ _ _ (show g ≠ eb by omega))
              have hO6 : Hid (OwnI w6 w2.heap.size w6.heap.size (.slice (some ⟨eb, 0, none⟩) E.length vce) (E.set k e1)) := hER6.own (fun y hy => by
                rcases List.mem_or_eq_of_mem_set hy with hy | rfl
                · have := HEB.out y hy; unfold I64; omega
                · unfold I64; omega) (by omega) hER6.lt (Nat.le_refl _)
              have HS6 := Lib.hid hS6
              have HR6 := Lib.hid hR6
              have hco := hR6.cell hin
              have hfo := hR6.frozen i
              clear hw6 hER6 hS6 hR6 hct5 hce hfe hp
              have HE6 : Hid (putE E kF e1 = E.set k e1) := by rw [Hid, ← hk3.out]; exact putE_in _ hkl
              have HK6 : Hid (R.set i (kF : Int) = R.set i (k : Int)) := by rw [Hid, ← hk3.out]
              have hRR : Hid (∀ u, RowI (w6.setCell ⟨g, i, none⟩ (.int .i64 u)) g g n n (R.set i u)) := fun u => HR6.out.stored i u
              have hSS : Hid (∀ u, Same g (g + 1) w2 (w6.setCell ⟨g, i, none⟩ (.int .i64 u))) := fun u => HS6.out.setCell (show g ≤ g by omega) (show g < g + 1 by omega) _
              have hOO : Hid (∀ u, OwnI (w6.setCell ⟨g, i, none⟩ (.int .i64 u)) w2.heap.size (w6.setCell ⟨g, i, none⟩ (.int .i64 u)).heap.size (.slice (some ⟨eb, 0, none⟩) E.length vce) (E.set k e1)) := fun u => (hO6.out.same ((Same.refl g (g + 1) w6).setCell (show g ≤ g by omega) (show g < g + 1 by omega) _) (.inr (by omega))).mono (Nat.le_refl _) (by simp [World.setCell]) (Nat.le_refl _)
              clear HEO HRO
              go_upto_region 15 with (fail)
              obtain ⟨w7, hw7⟩ : ∃ X, X = w6.setCell ⟨g, i, none⟩ (.int .i64 (k : Int)) := ⟨_, rfl⟩
              have hO7 := hOO.out (k : Int)
              have hR7 := hRR.out (k : Int)
              have hS7 := hSS.out (k : Int)
              rw [← hw7] at hO7 hR7 hS7 ⊢
              have HO7 := Lib.hid hO7
              have HR7 := Lib.hid hR7
              have HS7 := Lib.hid hS7
              clear hw7 hO7 hR7 hS7 hOO hRR hSS hco hfo
              go_wp2
              go_roundw
              case rel => exact ⟨t + 1, by omega, by go_num, by rw [HNE.out, HE6.out]; exact HO7, by rw [HNR.out, HK6.out]; exact HR7, HS7⟩
              case measure => (simp [intOf]; try omega)
          · have hk2 : k = E.length := by omega
            have hk3 : Hid (k = kF) := HKD.out k hk (.inl hk2)
            subst hk2
            have HD2 := Lib.hid hD
            clear hD
            go_wp2_with fail
            go_quiet (fail)
            obtain ⟨w5, hw5⟩ : ∃ X, X = wr.drewN nq := ⟨_, rfl⟩
            rw [← hw5]
            have HS5 : Hid (Same g (g + 1) w2 w5) := by rw [hw5]; exact (HS.out.drewD HD2.out).drewN _
            have HRO5 : Hid (RowI w5 g g n n R) := by rw [hw5]; exact (HRO.out.drew HD2.out).drewN _
            have hs45 : w5.heap.size = w4.heap.size := by rw [hw5]; obtain ⟨nn, e⟩ := HD2.out; rw [e]; rfl
            have HEO5 : Hid (OwnI w5 w2.heap.size w5.heap.size (.slice va E.length vce) E) := by rw [Hid, hs45, hw5]; exact (HEO.out.drew HD2.out).drewN _
            have hp5 : w5.cell? ⟨q, 0, none⟩ = some (.slice (some ⟨b, off, none⟩) n vc) := by rw [hw5]; exact (HD2.out.cell ⟨q, 0, none⟩).trans HKP.out
            have hct5 : w5.cell? ⟨b, off + i * 3 + 1, none⟩ = some (.int .i64 e1) := by rw [hw5]; exact (HD2.out.cell ⟨b, off + i * 3 + 1, none⟩).trans HKT.out
            have hlo : w2.heap.size ≤ w5.heap.size := by omega
            have HP5 := Lib.hid hp5
            have HT5 := Lib.hid hct5
            clear hw5 hp5 hct5 hs45 HEO HRO HDE
            go_wp2_with (at_builtin; refine wpList_app1 rfl _ _ rfl _ E rfl 0 _ HEO5.out rfl (by unfold I64; omega) (by omega) hlo ?_)
            intro ev2 w6 hoe hse hsz _
            rcases hoe.rowOf with ⟨_, z2⟩ | ⟨eb, ec, rfl, z2, z3, z4, hrow⟩
            · exfalso; simp at z2
            have hel : (E ++ [0]).length = E.length + 1 := by simp
            rw [hel] at hrow z3 ⊢
            have zeg := hrow.ge
            have HRW6 := Lib.hid hrow
            have HS6 : Hid (Same g (g + 1) w2 w6) := hse.newer (Nat.le_refl _) HS5.out
            have HRO6 : Hid (RowI w6 g g n n R) := HRO5.out.keep (hse.block g (by omega) (by omega))
            have hp6 : w6.cell? ⟨q, 0, none⟩ = some (.slice (some ⟨b, off, none⟩) n vc) := by rw [cell_of_heap (hse.block q (by omega) (by omega))]; exact HP5.out
            have hct6 : w6.cell? ⟨b, off + i * 3 + 1, none⟩ = some (.int .i64 e1) := by rw [cell_of_heap (hse.block b (by omega) (by omega))]; exact HT5.out
            have hce := hrow.cell (show E.length < E.length + 1 by omega)
            have hfe := hrow.frozen E.length
            have hp := hp6
            have zk' : (E.length : Int) < ((E.length + 1 : Nat) : Int) := by omega
            have hlo6 : w2.heap.size ≤ w6.heap.size := HS6.out.size
            clear hoe hse hrow hp6 hel
            go_upto_region 14 with (fail)
            obtain ⟨w7, hw7⟩ : ∃ X, X = w6.setCell ⟨eb, E.length, none⟩ (.int .i64 e1) := ⟨_, rfl⟩
            rw [← hw7]
            have hER7 : RowI w7 w2.heap.size eb (E.length + 1) ec ((E ++ [0]).set E.length e1) := by rw [hw7]; exact HRW6.out.stored E.length e1
            have hS7 : Same g (g + 1) w2 w7 := by rw [hw7]; exact HS6.out.setNewR (show w2.heap.size ≤ eb from zeg) _
            have hR7 : RowI w7 g g n n R := by rw [hw7]; exact HRO6.out.keep (Below.heap_setCell _ _ _ _ (show g ≠ eb by omega))
            rw [← putE_end E e1] at hER7
            have hO7 : Hid (OwnI w7 w2.heap.size w7.heap.size (.slice (some ⟨eb, 0, none⟩) (E.length + 1) ec) (putE E E.length e1)) := hER7.own (fun y hy => by
              rw [putE, if_pos rfl] at hy
              rcases List.mem_append.1 hy with hy | hy
              · have := HEB.out y hy; unfold I64; omega
              · rw [List.mem_singleton] at hy; subst hy; unfold I64; omega) (by omega) hER7.lt (Nat.le_refl _)
            have HS7 := Lib.hid hS7
            have HR7 := Lib.hid hR7
            have hs7 := hS7.size
            have hco := hR7.cell hin
            have hfo := hR7.frozen i
            have HE7 : Hid (putE E kF e1 = putE E E.length e1) := by rw [Hid, ← hk3.out]
            have HK7 : Hid (R.set i (kF : Int) = R.set i (E.length : Int)) := by rw [Hid, ← hk3.out]
            have hRR : Hid (∀ u, RowI (w7.setCell ⟨g, i, none⟩ (.int .i64 u)) g g n n (R.set i u)) := fun u => HR7.out.stored i u
            have hSS : Hid (∀ u, Same g (g + 1) w2 (w7.setCell ⟨g, i, none⟩ (.int .i64 u))) := fun u => HS7.out.setCell (show g ≤ g by omega) (show g < g + 1 by omega) _
            have hOO : Hid (∀ u, OwnI (w7.setCell ⟨g, i, none⟩ (.int .i64 u)) w2.heap.size (w7.setCell ⟨g, i, none⟩ (.int .i64 u)).heap.size (.slice (some ⟨eb, 0, none⟩) (E.length + 1) ec) (putE E E.length e1)) := fun u => (hO7.out.same ((Same.refl g (g + 1) w7).setCell (show g ≤ g by omega) (show g < g + 1 by omega) _) (.inr (by omega))).mono (Nat.le_refl _) (by simp [World.setCell]) (Nat.le_refl _)
            clear hw7 hER7 hS7 hR7 hct6 hce hfe hp
            go_upto_region 15 with (fail)
            obtain ⟨w8, hw8⟩ : ∃ X, X = w7.setCell ⟨g, i, none⟩ (.int .i64 (E.length : Int)) := ⟨_, rfl⟩
            have hO8 := hOO.out (E.length : Int)
            have hR8 := hRR.out (E.length : Int)
            have hS8 := hSS.out (E.length : Int)
            rw [← hw8] at hO8 hR8 hS8 ⊢
            have HO8 := Lib.hid hO8
            have HR8 := Lib.hid hR8
            have HS8 := Lib.hid hS8
            clear hw8 hO8 hR8 hS8 hOO hRR hSS hco hfo
            go_wp2
            go_roundw
            case rel => exact ⟨t + 1, by omega, by go_num, by rw [HNE.out, HE7.out]; exact HO8, by rw [HNR.out, HK7.out]; exact HR8, HS8⟩
            case measure => (simp [intOf]; try omega)
      · obtain rfl : t = n := by omega
        obtain ⟨va, vce, hev, c1e, c2e, de⟩ := HEO.out.rd.out
        subst hev
        have HEL : Hid ((roE F T O t).length ≤ t) := roE_len F T O t
        obtain ⟨E, hE⟩ : ∃ E, E = roE F T O t := ⟨_, rfl⟩
        rw [← hE] at HEL HEO HE
        rw [← hE]
        have hel := HEL.out
        have HRR : Hid (OwnI wr w.heap.size wr.heap.size (.slice (some ⟨g, 0, none⟩) t t) (roOut F T O 0 t t)) := (HRO.out.own (hi := wr.heap.size) (fun y hy => by have := roOut_rng (F := F) (T := T) (O := O) (n := t) (z := 0) (by omega) (by omega) t y hy; unfold I64; omega) (by omega) HRO.out.lt (Nat.le_refl _)).mono hwg (Nat.le_refl _) (Nat.le_refl _)
        have HBR : Hid (Below w.heap.size w wr) := HBALL.out.trans (HS.out.below hwg HBALL.out.size)
        clear hE de hp hKc
        go_wp2_with fail
        refine (size_any _ (by omega) _).mono ?_
        rintro e wz ⟨rfl, rfl⟩
        go_wp2
        go_ret3
        exact ⟨_, by rw [HE.out]; rfl, by rw [HE.out]; exact HRR.out, HBR.out⟩
end Go.Proofs.Ytkankfdpodofjaa
