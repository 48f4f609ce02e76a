/-
  FnPacks: the first bins with room, in the program.
-/
import Derived.Test.YtkankfdpodofjaaPackU
import Derived.Deep.RegionHeld3
namespace Go.Proofs.Ytkankfdpodofjaa
open Go.RowKit
set_option linter.unusedVariables false
set_option maxRecDepth 100000

def sizeCmp (ss : List Int) (a b : Int) : Int := cmpI (ss.getD b.toNat 0) (ss.getD a.toNat 0)
def sizeOrd (ss : List Int) (n : Nat) : List Int := ordTo (ltOf (sizeCmp ss)) n
theorem sizeOrd_mem (ss : List Int) (n : Nat) (y : Int) : y ∈ sizeOrd ss n ↔ 0 ≤ y ∧ y < (n : Int) :=
  (ordTo_lex (fun x => - ss.getD x.toNat 0) (ltOf (sizeCmp ss)) (fun x y => by
    have h : ltOf (sizeCmp ss) x y = decide (ss.getD y.toNat 0 < ss.getD x.toNat 0) := by unfold ltOf sizeCmp; exact cmpI_lt _ _
    rw [h, Bool.eq_iff_iff, decide_eq_true_eq, decide_eq_true_eq]
    omega) n).2 y
theorem PkH.ff {n R : Nat} {ss gs : List Int} (h : PkH n R ss gs) : FfHyp ss (sizeOrd ss n) R n ∧ (∀ j, j < n → ∃ s, s < n ∧ ixB (sizeOrd ss n) s = j) ∧ (∀ t, t < n → (sizeOrd ss n).getD t 0 = ((ixB (sizeOrd ss n) t : Nat) : Int)) := by
  have hl : (sizeOrd ss n).length = n := ordTo_len _ n
  have p1 : ∀ x ∈ sizeOrd ss n, 0 ≤ x ∧ x < (n : Int) := fun x hx => (sizeOrd_mem ss n x).1 hx
  have p2 : ∀ x : Nat, x < n → (x : Int) ∈ sizeOrd ss n := fun x hx => (sizeOrd_mem ss n _).2 (by omega)
  have hi : ∀ t, t < n → 0 ≤ (sizeOrd ss n).getD t 0 ∧ (sizeOrd ss n).getD t 0 < (n : Int) := fun t ht => p1 _ (getD_mem (by rw [hl]; exact ht))
  have he : ∀ t, t < n → (sizeOrd ss n).getD t 0 = ((ixB (sizeOrd ss n) t : Nat) : Int) := fun t ht => by have := hi t ht; unfold ixB; omega
  refine ⟨⟨fun t ht => ?_, fun s t hs ht e => ?_, fun i hi => ?_⟩, fun j hj => ?_, he⟩
  · have := hi t ht; unfold ixB; omega
  · refine ordTo_nd (ltOf (sizeCmp ss)) n s t (by rw [show (ordTo (ltOf (sizeCmp ss)) n).length = n from hl]; exact hs) (by rw [show (ordTo (ltOf (sizeCmp ss)) n).length = n from hl]; exact ht) ?_
    have h1 := he s hs
    have h2 := he t ht
    rw [e] at h1
    exact h1.trans h2.symm
  · have := h.sAt hi; have := h.r1; omega
  · obtain ⟨t, t1, t2⟩ := List.mem_iff_getElem.1 (p2 j hj)
    refine ⟨t, by rw [← hl]; exact t1, ?_⟩
    have e : (sizeOrd ss n).getD t 0 = (j : Int) := by rw [List.getD, List.getElem?_eq_getElem t1, t2]; rfl
    unfold ixB
    rw [e, Int.toNat_natCast]
theorem putB_in {E : List Int} {k : Nat} (R s : Int) (h : k < E.length) : putB R E k s = E.set k (E.getD k 0 - s) := by rw [putB, if_neg (by omega)]
theorem putB_end (E : List Int) (R s : Int) : putB R E E.length s = (E ++ [R]).set E.length ((E ++ [R]).getD E.length 0 - s) := by rw [putB, if_pos rfl]; simp
theorem end_at (E : List Int) (R : Int) : (E ++ [R]).getD E.length 0 = R := by simp
theorem Same.newB {lo hi g : Nat} {a w w' : World} (h : Same lo hi w w') (hlo : a.heap.size ≤ lo) (ha : Same g (g + 1) a w) : Same g (g + 1) a w' :=
  ⟨h.os.trans ha.os, h.tape.trans ha.tape, h.output.trans ha.output, Nat.le_trans ha.size h.size, fun k hk hn => (h.block k (by have := ha.size; omega) (by omega)).trans (ha.block k hk hn)⟩
theorem Same.setNewB {lo hi : Nat} {a w : World} (h : Same lo hi a w) {p : Addr} (hp : a.heap.size ≤ p.block) (u : Value) : Same lo hi a (w.setCell p u) :=
  ⟨h.os, h.tape, h.output, by have := h.size; simp [World.setCell]; exact this, fun k hk hn => (Below.heap_setCell _ _ _ _ (by omega)).trans (h.block k hk hn)⟩
set_option maxHeartbeats 1600000 in
set_option maxRecDepth 100000 in
theorem binCmp_any {l h p n : Nat} (v : Value) (ss : List Int) (w : World) (hp : w.cell? ⟨p, 0, none⟩ = some v) (hv : Ints w l h v ss) (hh : h ≤ w.heap.size) (hl : ss.length = n) (h1 : 1 ≤ n) (a b : Int) (ha : 0 ≤ a) (ha2 : a < n) (hb : 0 ≤ b) (hb2 : b < n) :
    Calls Try.prog 64 #[.int .i64 a, .int .i64 b, .pointer (some ⟨p, 0, none⟩)] w fun e w' => e = .returned (.int .i64 (sizeCmp ss a b)) ∧ Drew w w' := by
  obtain ⟨A, rfl⟩ : ∃ A : Nat, a = (A : Int) := ⟨a.toNat, by omega⟩
  obtain ⟨B, rfl⟩ : ∃ B : Nat, b = (B : Int) := ⟨b.toNat, by omega⟩
  have hA : A < n := by omega
  have hB : B < n := by omega
  obtain ⟨blk, off, cap, rfl, hc1, hc2, hb1, SC⟩ := hv.seen hh hl h1
  have cA := SC.out w A (Below.refl _ _) hA
  have cB := SC.out w B (Below.refl _ _) hB
  rw [show sizeCmp ss (A : Int) (B : Int) = cmpI (ss.getD B 0) (ss.getD A 0) from rfl]
  obtain ⟨x, hx⟩ : ∃ x, x = ss.getD A 0 := ⟨_, rfl⟩
  obtain ⟨y, hy⟩ : ∃ y, y = ss.getD B 0 := ⟨_, rfl⟩
  rw [← hx] at cA ⊢
  rw [← hy] at cB ⊢
  clear SC hv hx hy
  go_enter Try.func64, Try.ntmps64
  go_wp2_with fail
  go_quiet ((go_at_call 65; exact quiet_same (compare_any _ _ _)))
  go_wp2
  go_ret
  exact ⟨rfl, Drew.one _ _⟩
set_option maxHeartbeats 4000000 in
set_option maxRecDepth 100000 in
theorem implFirstBins_any (w : World) {l h n R : Nat} (v : Value) (ss gs : List Int) (hv : Ints w l h v ss) (hh : h ≤ w.heap.size) (H : PkH n R ss gs) :
    Calls Try.prog 22 #[v, .int .i64 R] w fun e w' => ∃ (u : Value) (out : List Int) (used : Nat), e = .returned (.tuple #[u, .int .i64 (used : Int), .bool true]) ∧ BinS ss R n used out ∧ OwnI w' w.heap.size w'.heap.size u out ∧ Below w.heap.size w w' := by
  have h1 := H.n1
  have h7 := H.n7
  have hr1 := H.r1
  have hr2 := H.r2
  have HP := Lib.hid H
  have hl := H.ls
  obtain ⟨b, off, cap, rfl, hc1, hc2, hb, SC⟩ := hv.seen hh hl h1
  obtain ⟨W0, hW⟩ : ∃ W0, W0 = w.alloc (.cells #[.slice (some ⟨b, off, none⟩) n cap] 25) := ⟨_, rfl⟩
  have hb0 : Below w.heap.size w W0 := by rw [hW]; exact (Below.refl _ _).alloc (Nat.le_refl _) _
  have hs0 : w.heap.size + 1 = W0.heap.size := by rw [hW]; simp
  have hp0 : W0.cell? ⟨w.heap.size, 0, none⟩ = some (.slice (some ⟨b, off, none⟩) n cap) := by rw [hW]; exact one_new _ _ _
  have HV := Lib.hid (hv.below hb0 hh)
  have HA : Hid (Calls Try.prog 59 #[.slice (some ⟨b, off, none⟩) n cap] W0 fun e w' => e = .returned (.bool true) ∧ W0 = w') := by
    have := areSizes_any _ ss W0 HV.out (by omega)
    rw [H.things] at this
    exact this
  have HI : Hid (Calls Try.prog 60 #[.int .i64 R] W0 fun e w' => e = .returned (.bool true) ∧ W0 = w') := by
    have := isRoom_any (R : Int) W0
    rw [show inB 0 1000 (R : Int) = true from by rw [inB_iff]; omega] at this
    exact this
  have hmx : maxL ss < (R : Int) + 1 := (maxL_lt ss (by intro e; rw [e] at hl; simp at hl; omega) _).2 fun z hz => by have := H.sz z hz; omega
  have hmx2 : maxL ss ≤ (R : Int) := by omega
  have HMX := Lib.hid (slicesMax_any _ _ _ ss W0 HV.out (by omega))
  obtain ⟨mx, hmxe⟩ : ∃ x, x = maxL ss := ⟨_, rfl⟩
  rw [← hmxe] at hmx2 HMX
  have hmx3 : ¬ ((R : Int) < mx) := by omega
  have HB0 := Lib.hid hb0
  have HP0 := Lib.hid hp0
  have HW := Lib.hid hW
  obtain ⟨q, hq⟩ : ∃ q, q = w.heap.size := ⟨_, rfl⟩
  have HQ := Lib.hid hq
  rw [← hq] at HP0
  obtain ⟨hff, hall, hix⟩ := H.ff
  have HFF := Lib.hid hff
  have HALL := Lib.hid hall
  have HIX := Lib.hid hix
  have hol : (sizeOrd ss n).length = n := ordTo_len _ n
  have HHO : Hid (sizeOrd ss n = ordTo (ltOf (sizeCmp ss)) n) := rfl
  obtain ⟨O, hO⟩ : ∃ O, O = sizeOrd ss n := ⟨_, rfl⟩
  rw [← hO] at HFF HALL HIX HHO hol
  have HER : Hid (∀ t, t ≤ n → ∀ y ∈ ffB ss O R t, 0 ≤ y ∧ y < (R : Int)) := fun t ht y hy => by
    obtain ⟨k, k1, rfl⟩ := List.mem_iff_getElem.1 hy
    have := (ffInv HFF.out t ht).i2 k k1
    simpa [List.getD, List.getElem?_eq_getElem k1] using this
  have HO1 := Lib.hid hol
  have hqw : q ≤ w.heap.size := by omega
  have hqw2 : w.heap.size ≤ q := by omega
  have hL : Hid (ss.length = n) := hl
  have hqW0 : q < W0.heap.size := by omega
  have HS0 := Lib.hid hs0
  clear hv hb0 hW hp0 hmx hmxe hq hff hall hix hO hol hl H hs0
  go_enter Try.func22, Try.ntmps22
  go_wp2_with fail
  rw [← HQ.out]
  rw [← HW.out]
  have hp := HP0.out
  go_wp2_with fail
  refine HA.out.mono ?_
  rintro e w1 ⟨rfl, rfl⟩
  go_wp2_with fail
  refine HI.out.mono ?_
  rintro e w1 ⟨rfl, rfl⟩
  go_wp2_with fail
  refine HMX.out.mono ?_
  rintro e w1 ⟨rfl, rfl⟩
  have HM := raise_made n (by omega)
  obtain ⟨W1, hW1⟩ : ∃ X, X = W0.alloc (.cells (madeCells #[Value.int .i64 0] n) 2) := ⟨_, rfl⟩
  obtain ⟨g, hg⟩ : ∃ x, x = W0.heap.size := ⟨_, rfl⟩
  have hR1 : RowI W1 g g n n (List.replicate n 0) := by rw [hW1, hg]; exact raise_row W0 n (by omega)
  have HR1 := Lib.hid hR1
  have hbW : Below W0.heap.size W0 W1 := by rw [hW1]; exact (Below.refl _ _).alloc (Nat.le_refl _) _
  have HBW := Lib.hid hbW
  have hq1 : q < g := by omega
  have hgW : g < W1.heap.size := HR1.out.lt
  have hp2 : W1.cell? ⟨q, 0, none⟩ = some (.slice (some ⟨b, off, none⟩) n cap) := by rw [hbW.cell (p := ⟨q, 0, none⟩) (by rw [← hg]; exact hq1)]; exact HP0.out
  have HP2 := Lib.hid hp2
  have HVW : Hid (Ints W1 l h (.slice (some ⟨b, off, none⟩) n cap) ss) := HV.out.below hbW (by have := HS0.out; omega)
  have HGW := Lib.hid hg
  have hB1 : Hid (Below w.heap.size w W1) := HB0.out.trans (hbW.mono (by have := HS0.out; omega))
  have hB1' := hB1.out.size
  clear hR1 hbW hg
  go_upto_region 4 with (fail)
  rw [← hW1, ← HGW.out]
  clear hW1 HM hp
  have hp := HP2.out
  have HOB := Lib.hid (orderBy_any 64 (fun _ _ => by kernel_rfl) #[.pointer (some ⟨q, 0, none⟩)] (sizeCmp ss) W1 (show 0 < n by omega) (by omega) (fun wx hb' x y x1 x2 y1 y2 => by
    have hps : wx.cell? ⟨q, 0, none⟩ = some (.slice (some ⟨b, off, none⟩) n cap) := by rw [hb'.cell (p := ⟨q, 0, none⟩) (show q < W1.heap.size by omega)]; exact HP2.out
    exact binCmp_any (.slice (some ⟨b, off, none⟩) n cap) ss wx hps (HVW.out.below hb' (by omega)) (by have := hb'.size; omega) hL.out h1 x y x1 x2 y1 y2))
  rw [← HHO.out] at HOB
  go_wp2_with fail
  refine HOB.out.mono ?_
  rintro e w2 ⟨ov, rfl, ho2, hb2⟩
  have hz2 := hb2.size
  have hrd := ho2.rd
  obtain ⟨oa, oc, oe, c1, c2, od⟩ := hrd.out
  rw [HO1.out] at oe
  subst oe
  rcases od with od | ⟨ob, oo, rfl, y1, y2, y3, ocell⟩
  · exfalso; have := HO1.out; rw [od] at this; simp at this; omega
  have HOC := Lib.hid ocell
  have HR2 := Lib.hid (HR1.out.below hb2 hgW)
  have HB2 := Lib.hid hb2
  have hp3 : w2.cell? ⟨q, 0, none⟩ = some (.slice (some ⟨b, off, none⟩) n cap) := by rw [hb2.cell (p := ⟨q, 0, none⟩) (show q < W1.heap.size by omega)]; exact HP2.out
  have HP3 := Lib.hid hp3
  have HBALL : Hid (Below w.heap.size w w2) := hB1.out.trans (hb2.mono hB1')
  have hC0 : Hid (∀ j, j < n → w2.cell? ⟨b, off + j, none⟩ = some (.int .i64 (ss.getD j 0))) := fun j hj => SC.out w2 j HBALL.out hj
  have hwg : w.heap.size ≤ g := by omega
  clear ho2 hb2 hrd c1 hp2 hp hp3 ocell HOB HVW HP2 HR1
  have hp := HP3.out
  go_wp2_with fail
  go_loopw [8, 34] (fun ev tv wr => ∃ t : Nat, t ≤ n ∧ tv = .int .i64 t ∧ Hid (OwnI wr w2.heap.size wr.heap.size ev (ffB ss O R t)) ∧ Hid (RowI wr g g n n (ffOut ss O R 0 n t)) ∧ Hid (Same g (g + 1) w2 wr)) (fun _ tv _ => n - (intOf tv).toNat)
  case atStart => exact ⟨0, Nat.zero_le _, rfl, OwnI.nil _ _ _ (Nat.le_refl _), HR2.out, Same.refl _ _ _⟩
  case round =>
    clear HR2 hp
    obtain ⟨ev, hev⟩ : ∃ v, v = u8 := ⟨_, rfl⟩
    rw [← hev] at hrel
    rw [← hev]
    clear hev
    obtain ⟨t, ht, rfl, HEO, HRO, HS⟩ := hrel
    have hsr := HS.out.size
    have hKc : ∀ {bb oo : Nat} {vv : Value}, bb < w2.heap.size → bb ≠ g → w2.cell? ⟨bb, oo, none⟩ = some vv → wr.cell? ⟨bb, oo, none⟩ = some vv := fun {bb oo vv} h1 h2 h3 => by
      rw [cell_of_heap (HS.out.block bb h1 (by omega))]; exact h3
    have hp := hKc (show q < w2.heap.size by omega) (by omega) HP3.out
    by_cases htn : t < n
    · have hin := HFF.out.lt t htn
      have hoi := HIX.out t htn
      obtain ⟨i, hi⟩ : ∃ i, i = ixB O t := ⟨_, rfl⟩
      rw [← hi] at hin hoi
      obtain ⟨E, hE⟩ : ∃ E, E = ffB ss O R t := ⟨_, rfl⟩
      obtain ⟨U, hU⟩ : ∃ U, U = ffOut ss O R 0 n t := ⟨_, rfl⟩
      obtain ⟨s, hs⟩ : ∃ s, s = ss.getD i 0 := ⟨_, rfl⟩
      have HNE : Hid (ffB ss O R (t + 1) = putB R E (rkB s E) s) := by rw [Hid, ffB, ← hi, ← hE, ← hs]
      have HNR : Hid (ffOut ss O R 0 n (t + 1) = U.set i ((rkB s E : Nat) : Int)) := by rw [Hid, ffOut, ← hi, ← hE, ← hU, ← hs]
      have HEL : Hid (E.length ≤ t) := by rw [Hid, hE]; exact ffB_len ss O R t
      have HEB : Hid (∀ e ∈ E, 0 ≤ e ∧ e < (R : Int)) := by rw [Hid, hE]; exact HER.out t ht
      have HEN : Hid (∀ e ∈ putB R E (rkB s E) s, 0 ≤ e ∧ e < (R : Int)) := by rw [Hid, ← HNE.out]; exact HER.out (t + 1) htn
      have hsr' : 1 ≤ s ∧ s ≤ 12 := by rw [hs]; exact HP.out.sAt hin
      have hoc : wr.cell? ⟨ob, oo + t, none⟩ = some (.int .i64 (i : Int)) := hKc y2 (by omega) (by have := HOC.out t (by rw [HO1.out]; exact htn); rw [hoi] at this; exact this)
      have hct : wr.cell? ⟨b, off + i, none⟩ = some (.int .i64 s) := hKc (by omega) (by omega) (by rw [hs]; exact hC0.out i hin)
      rw [← hE] at HEO
      rw [← hU] at HRO
      have HKT := Lib.hid hct
      have HKP := Lib.hid hp
      have zi : (i : Int) < (n : Int) := by omega
      have zt : (t : Int) < (n : Int) := by omega
      obtain ⟨w4, rfl⟩ : ∃ X, X = wr := ⟨_, rfl⟩
      obtain ⟨va, vce, hev, de⟩ : ∃ va vce, ev = .slice va E.length vce ∧ (E = [] ∨ ∃ eg, va = some ⟨eg, 0, none⟩ ∧ eg < w4.heap.size ∧ E.length ≤ vce ∧ vce ≤ 9223372036854775807 ∧ RowI w4 w2.heap.size eg E.length vce E) := by
        rcases HEO.out.rowOf with ⟨z1, z2⟩ | ⟨eg, ec, z1, z2, z3, z4, z5⟩
        · exact ⟨none, 0, by rw [z1, z2]; rfl, .inl z2⟩
        · exact ⟨_, ec, z1, .inr ⟨eg, rfl, z2, z3, z4, z5⟩⟩
      subst hev
      have HDE := Lib.hid de
      have hLe : E.length ≤ n := by have := HEL.out; omega
      have hkF := rkB_le s E
      obtain ⟨kF, hkF2⟩ : ∃ x, x = rkB s E := ⟨_, rfl⟩
      have HKE := Lib.hid (show ∀ k : Nat, k ≤ kF → k < E.length → E.getD k 0 < s → k + 1 ≤ kF from fun k hk hkl h => by rw [hkF2]; exact rkB_step (by omega) hkl h)
      have HKD := Lib.hid (show ∀ k : Nat, k ≤ kF → (k = E.length ∨ s ≤ E.getD k 0) → k = kF from fun k hk h => by rw [hkF2]; exact rkB_end (by omega) h)
      rw [← hkF2] at hkF HNE HNR HEN
      clear hi hE hU hs hoi de hKc hct hkF2
      go_wp2_with fail
      go_loopw [11] (fun kv wx => ∃ k : Nat, k ≤ kF ∧ kv = .int .i64 k ∧ Drew w4 wx) (fun kv _ => E.length - (intOf kv).toNat)
      case atStart => exact ⟨0, Nat.zero_le _, rfl, Drew.refl _⟩
      case round =>
        clear hp hoc
        obtain ⟨k, hk, rfl, hD⟩ := hrel
        by_cases hkl : k < E.length
        · rcases HDE.out with de | ⟨eb, rfl, z1, z2, z3, hrow⟩
          · exfalso; rw [de] at hkl; simp at hkl
          have hER := hrow.drew hD
          have hek := hER.cell hkl
          have HRW := Lib.hid hER
          have z4 := hrow.ge
          have hp : wr.cell? ⟨q, 0, none⟩ = some (.slice (some ⟨b, off, none⟩) n cap) := by rw [hD.cell ⟨q, 0, none⟩]; exact HKP.out
          have hct : wr.cell? ⟨b, off + i, none⟩ = some (.int .i64 s) := by rw [hD.cell ⟨b, off + i, none⟩]; exact HKT.out
          have HD2 := Lib.hid hD
          have zk : (k : Int) < (E.length : Int) := by omega
          have HRS : Hid (E.getD k 0 < s → k + 1 ≤ kF) := HKE.out k hk hkl
          have HRE : Hid (s ≤ E.getD k 0 → k = kF) := fun h => HKD.out k hk (.inr h)
          have hekr := HEB.out _ (getD_mem hkl)
          obtain ⟨ek, hek2⟩ : ∃ x, x = E.getD k 0 := ⟨_, rfl⟩
          have HEK := Lib.hid hek2
          rw [← hek2] at hek HRS HRE hekr
          clear hek2 hrow hER hD
          by_cases hfe : ek < s
          · have hfd : decide (ek < s) = true := decide_eq_true hfe
            have hk2 := HRS.out hfe
            clear HRS HRE
            go_wp2_with fail
            go_quiet (fail)
            go_wp2
            go_roundw
            case rel => exact ⟨k + 1, hk2, by go_num, HD2.out.step _⟩
            case measure => (simp [intOf]; try omega)
          · have hfd : decide (ek < s) = false := decide_eq_false hfe
            have hk3 : Hid (k = kF) := HRE.out (by omega)
            clear HRS HRE
            go_wp2_with fail
            go_quiet (fail)
            obtain ⟨w5, hw5⟩ : ∃ X, X = wr.drewN nq := ⟨_, rfl⟩
            rw [← hw5]
            have HS6 : Hid (Same g (g + 1) w2 w5) := by rw [hw5]; exact (HS.out.drewT HD2.out).drewN _
            have HRW6 : Hid (RowI w5 w2.heap.size eb E.length vce E) := by rw [hw5]; exact HRW.out.drewN _
            have HRO6 : Hid (RowI w5 g g n n U) := by rw [hw5]; exact (HRO.out.drew HD2.out).drewN _
            have hp6 : w5.cell? ⟨q, 0, none⟩ = some (.slice (some ⟨b, off, none⟩) n cap) := by rw [hw5]; exact hp
            have hct6 : w5.cell? ⟨b, off + i, none⟩ = some (.int .i64 s) := by rw [hw5]; exact hct
            have hce : w5.cell? ⟨eb, k, none⟩ = some (.int .i64 ek) := by have := HRW6.out.cell hkl; rw [← HEK.out] at this; exact this
            have zne : (k : Int) ≠ (E.length : Int) := by omega
            have HPE : Hid (E.set k (ek - s) = putB R E kF s) := by rw [Hid, ← hk3.out, putB_in _ _ hkl, ← HEK.out]
            have zeg : w2.heap.size ≤ eb := z4
            clear hw5 hek hct hfd hp
            have HK6 : Hid (U.set i (kF : Int) = U.set i (k : Int)) := by rw [Hid, ← hk3.out]
            have hp := hp6
            have hct := hct6
            have hfe := HRW6.out.frozen k
            have zk' : (k : Int) < ((E.length : Nat) : Int) := by omega
            have HRs : Hid (RowI (w5.setCell ⟨eb, k, none⟩ (.int .i64 (ek - s))) w2.heap.size eb (E.length) vce (putB R E kF s)) := by rw [← HPE.out]; exact HRW6.out.stored k (ek - s)
            have HSs : Hid (Same g (g + 1) w2 (w5.setCell ⟨eb, k, none⟩ (.int .i64 (ek - s)))) := HS6.out.setNewB zeg _
            have HUs : Hid (RowI (w5.setCell ⟨eb, k, none⟩ (.int .i64 (ek - s))) g g n n U) := HRO6.out.keep (Below.heap_setCell _ _ _ _ (show g ≠ eb by omega))
            clear hp6 hct6
            go_upto_region 13 with (fail)
            go_region
            have hR7 : RowI ((w5.setCell ⟨eb, k, none⟩ (.int .i64 (ek - s))).drew) w2.heap.size eb (E.length) vce (putB R E kF s) := HRs.out.drewN 1
            have hS7 : Same g (g + 1) w2 ((w5.setCell ⟨eb, k, none⟩ (.int .i64 (ek - s))).drew) := HSs.out.drewN 1
            have hU7 : RowI ((w5.setCell ⟨eb, k, none⟩ (.int .i64 (ek - s))).drew) g g n n U := HUs.out.drewN 1
            generalize hw7 : ((w5.setCell ⟨eb, k, none⟩ (.int .i64 (ek - s))).drew) = w7 at hR7 hS7 hU7 ⊢
            clear hw7 HRs HSs HUs
            have HO7 := Lib.hid (hR7.own (hi := w7.heap.size) (fun y hy => by have := HEN.out y hy; unfold I64; omega) (by omega) hR7.lt (Nat.le_refl _))
            have HS7 := Lib.hid hS7
            have HU7 := Lib.hid hU7
            have hs7 := hS7.size
            have hco := hU7.cell hin
            have hfo := hU7.frozen i
            have hRR : Hid (∀ u, RowI (w7.setCell ⟨g, i, none⟩ (.int .i64 u)) g g n n (U.set i u)) := fun u => HU7.out.stored i u
            have hSS : Hid (∀ u, Same g (g + 1) w2 (w7.setCell ⟨g, i, none⟩ (.int .i64 u))) := fun u => HS7.out.setCell (show g ≤ g by omega) (show g < g + 1 by omega) _
            have hOO : Hid (∀ u, OwnI (w7.setCell ⟨g, i, none⟩ (.int .i64 u)) w2.heap.size (w7.setCell ⟨g, i, none⟩ (.int .i64 u)).heap.size (.slice (some ⟨eb, 0, none⟩) (E.length) vce) (putB R E kF s)) := fun u => (HO7.out.same ((Same.refl g (g + 1) w7).setCell (show g ≤ g by omega) (show g < g + 1 by omega) _) (.inr (by omega))).mono (Nat.le_refl _) (by simp [World.setCell]) (Nat.le_refl _)
            clear hR7 hS7 hU7 hp hct hce hfe HEO HRO
            go_upto_region 15 with (fail)
            obtain ⟨w8, hw8⟩ : ∃ X, X = w7.setCell ⟨g, i, none⟩ (.int .i64 (k : Int)) := ⟨_, rfl⟩
            have hO8 := hOO.out (k : Int)
            have hR8 := hRR.out (k : Int)
            have hS8 := hSS.out (k : Int)
            rw [← hw8] at hO8 hR8 hS8 ⊢
            have HO8 := Lib.hid hO8
            have HR8 := Lib.hid hR8
            have HS8 := Lib.hid hS8
            clear hw8 hO8 hR8 hS8 hOO hRR hSS hco hfo
            go_wp2
            go_roundw
            case rel => exact ⟨t + 1, by omega, by go_num, by rw [HNE.out]; exact HO8, by rw [HNR.out, HK6.out]; exact HR8, HS8⟩
            case measure => (simp [intOf]; try omega)
        · have hk2 : k = E.length := by omega
          have hk3 : Hid (k = kF) := HKD.out k hk (.inl hk2)
          subst hk2
          have HD2 := Lib.hid hD
          clear hD
          go_wp2_with fail
          go_quiet (fail)
          obtain ⟨w5, hw5⟩ : ∃ X, X = wr.drewN nq := ⟨_, rfl⟩
          rw [← hw5]
          have HS5 : Hid (Same g (g + 1) w2 w5) := by rw [hw5]; exact (HS.out.drewT HD2.out).drewN _
          have HRO5 : Hid (RowI w5 g g n n U) := by rw [hw5]; exact (HRO.out.drew HD2.out).drewN _
          have hs45 : w5.heap.size = w4.heap.size := by rw [hw5]; obtain ⟨nn, e⟩ := HD2.out; rw [e]; rfl
          have HEO5 : Hid (OwnI w5 w2.heap.size w5.heap.size (.slice va E.length vce) E) := by rw [Hid, hs45, hw5]; exact (HEO.out.drew HD2.out).drewN _
          have hp5 : w5.cell? ⟨q, 0, none⟩ = some (.slice (some ⟨b, off, none⟩) n cap) := by rw [hw5]; exact (HD2.out.cell ⟨q, 0, none⟩).trans HKP.out
          have hct5 : w5.cell? ⟨b, off + i, none⟩ = some (.int .i64 s) := by rw [hw5]; exact (HD2.out.cell ⟨b, off + i, none⟩).trans HKT.out
          have hlo : w2.heap.size ≤ w5.heap.size := by omega
          have HP5 := Lib.hid hp5
          have HT5 := Lib.hid hct5
          clear hw5 hp5 hct5 hs45 HDE
          go_wp2_with (at_builtin; refine wpList_app1 rfl _ _ rfl _ E rfl (R : Int) _ HEO5.out rfl (by unfold I64; omega) (by omega) hlo ?_)
          intro ev2 w6 hoe hse hsz _
          rcases hoe.rowOf with ⟨_, z2⟩ | ⟨eb, ec, rfl, z2, z3, z4, hrow⟩
          · exfalso; simp at z2
          have hel : (E ++ [(R : Int)]).length = E.length + 1 := by simp
          rw [hel] at hrow z3 ⊢
          have zeg := hrow.ge
          have HRW6 := Lib.hid hrow
          have HS6 : Hid (Same g (g + 1) w2 w6) := hse.newB (Nat.le_refl _) HS5.out
          have HRO6 : Hid (RowI w6 g g n n U) := HRO5.out.keep (hse.block g (by omega) (by omega))
          have hp6 : w6.cell? ⟨q, 0, none⟩ = some (.slice (some ⟨b, off, none⟩) n cap) := by rw [cell_of_heap (hse.block q (by omega) (by omega))]; exact HP5.out
          have hct6 : w6.cell? ⟨b, off + i, none⟩ = some (.int .i64 s) := by rw [cell_of_heap (hse.block b (by omega) (by omega))]; exact HT5.out
          have hce : w6.cell? ⟨eb, E.length, none⟩ = some (.int .i64 (R : Int)) := by have := hrow.cell (show E.length < E.length + 1 by omega); rw [end_at] at this; exact this
          have hlo6 : w2.heap.size ≤ w6.heap.size := HS6.out.size
          have HPE : Hid ((E ++ [(R : Int)]).set E.length ((R : Int) - s) = putB R E kF s) := by rw [Hid, ← hk3.out, putB_end, end_at]
          clear hoe hse hrow hel
          have HK6 : Hid (U.set i (kF : Int) = U.set i (E.length : Int)) := by rw [Hid, ← hk3.out]
          have hp := hp6
          have hct := hct6
          have hfe := HRW6.out.frozen E.length
          have zk' : (E.length : Int) < ((E.length + 1 : Nat) : Int) := by omega
          have HRs : Hid (RowI (w6.setCell ⟨eb, E.length, none⟩ (.int .i64 ((R : Int) - s))) w2.heap.size eb (E.length + 1) ec (putB R E kF s)) := by rw [← HPE.out]; exact HRW6.out.stored E.length ((R : Int) - s)
          have HSs : Hid (Same g (g + 1) w2 (w6.setCell ⟨eb, E.length, none⟩ (.int .i64 ((R : Int) - s)))) := HS6.out.setNewB zeg _
          have HUs : Hid (RowI (w6.setCell ⟨eb, E.length, none⟩ (.int .i64 ((R : Int) - s))) g g n n U) := HRO6.out.keep (Below.heap_setCell _ _ _ _ (show g ≠ eb by omega))
          clear hp6 hct6
          go_upto_region 13 with (fail)
          go_region
          have hR7 : RowI ((w6.setCell ⟨eb, E.length, none⟩ (.int .i64 ((R : Int) - s))).drew) w2.heap.size eb (E.length + 1) ec (putB R E kF s) := HRs.out.drewN 1
          have hS7 : Same g (g + 1) w2 ((w6.setCell ⟨eb, E.length, none⟩ (.int .i64 ((R : Int) - s))).drew) := HSs.out.drewN 1
          have hU7 : RowI ((w6.setCell ⟨eb, E.length, none⟩ (.int .i64 ((R : Int) - s))).drew) g g n n U := HUs.out.drewN 1
          generalize hw7 : ((w6.setCell ⟨eb, E.length, none⟩ (.int .i64 ((R : Int) - s))).drew) = w7 at hR7 hS7 hU7 ⊢
          clear hw7 HRs HSs HUs
          have HO7 := Lib.hid (hR7.own (hi := w7.heap.size) (fun y hy => by have := HEN.out y hy; unfold I64; omega) (by omega) hR7.lt (Nat.le_refl _))
          have HS7 := Lib.hid hS7
          have HU7 := Lib.hid hU7
          have hs7 := hS7.size
          have hco := hU7.cell hin
          have hfo := hU7.frozen i
          have hRR : Hid (∀ u, RowI (w7.setCell ⟨g, i, none⟩ (.int .i64 u)) g g n n (U.set i u)) := fun u => HU7.out.stored i u
          have hSS : Hid (∀ u, Same g (g + 1) w2 (w7.setCell ⟨g, i, none⟩ (.int .i64 u))) := fun u => HS7.out.setCell (show g ≤ g by omega) (show g < g + 1 by omega) _
          have hOO : Hid (∀ u, OwnI (w7.setCell ⟨g, i, none⟩ (.int .i64 u)) w2.heap.size (w7.setCell ⟨g, i, none⟩ (.int .i64 u)).heap.size (.slice (some ⟨eb, 0, none⟩) (E.length + 1) ec) (putB R E kF s)) := fun u => (HO7.out.same ((Same.refl g (g + 1) w7).setCell (show g ≤ g by omega) (show g < g + 1 by omega) _) (.inr (by omega))).mono (Nat.le_refl _) (by simp [World.setCell]) (Nat.le_refl _)
          clear hR7 hS7 hU7 hp hct hce hfe HEO HRO
          go_upto_region 15 with (fail)
          obtain ⟨w8, hw8⟩ : ∃ X, X = w7.setCell ⟨g, i, none⟩ (.int .i64 (E.length : Int)) := ⟨_, rfl⟩
          have hO8 := hOO.out (E.length : Int)
          have hR8 := hRR.out (E.length : Int)
          have hS8 := hSS.out (E.length : Int)
          rw [← hw8] at hO8 hR8 hS8 ⊢
          have HO8 := Lib.hid hO8
          have HR8 := Lib.hid hR8
          have HS8 := Lib.hid hS8
          clear hw8 hO8 hR8 hS8 hOO hRR hSS hco hfo
          go_wp2
          go_roundw
          case rel => exact ⟨t + 1, by omega, by go_num, by rw [HNE.out]; exact HO8, by rw [HNR.out, HK6.out]; exact HR8, HS8⟩
          case measure => (simp [intOf]; try omega)
    · obtain rfl : t = n := by omega
      have hff := HFF.out
      have hall := HALL.out
      have HBN := Lib.hid (ff_ok hff hall (by omega))
      have HEL : Hid ((ffB ss O R t).length ≤ t) := ffB_len ss O R t
      have HRR : Hid (OwnI wr w.heap.size wr.heap.size (.slice (some ⟨g, 0, none⟩) t t) (ffOut ss O R 0 t t)) := (HRO.out.own (hi := wr.heap.size) (fun y hy => by have := ffOut_rng ss O R 0 t (by omega) (by omega) t y hy; unfold I64; omega) (by omega) HRO.out.lt (Nat.le_refl _)).mono hwg (Nat.le_refl _) (Nat.le_refl _)
      have HBR : Hid (Below w.heap.size w wr) := HBALL.out.trans (HS.out.below hwg HBALL.out.size)
      obtain ⟨va, vce, hev, c1e, c2e, de⟩ := HEO.out.rd.out
      subst hev
      obtain ⟨m, hm⟩ : ∃ m, m = (ffB ss O R t).length := ⟨_, rfl⟩
      rw [← hm] at HBN HEL ⊢
      have hel := HEL.out
      clear de hp hKc hff hall hm
      go_wp2_with fail
      refine (size_any _ (by omega) _).mono ?_
      rintro e wz ⟨rfl, rfl⟩
      go_wp2
      go_ret3
      exact ⟨_, _, _, rfl, HBN.out, HRR.out, HBR.out⟩
end Go.Proofs.Ytkankfdpodofjaa
