/-
  The order that the reference draws (R8Order), and the law's test of tours (r8Tour): contracts.
-/
import Derived.Test.YtkankfdpodofjaaSwapP
import Derived.Test.YtkankfdpodofjaaWays
import Derived.Test.YtkankfdpodofjaaApp2
namespace Go.Proofs.Ytkankfdpodofjaa
open Go.RowKit
set_option linter.unusedVariables false
set_option maxRecDepth 100000

theorem Same.mono_oldO {lo hi q : Nat} {a w w' : World} (h : Same lo hi w w') (hq : q < lo) (hl : a.heap.size ≤ w.heap.size) (hlo : lo = a.heap.size) (ha : Same q (q + 1) a w) : Same q (q + 1) a w' :=
  ⟨h.os.trans ha.os, h.tape.trans ha.tape, h.output.trans ha.output, Nat.le_trans ha.size h.size, fun k hk hn => (h.block k (by omega) (by omega)).trans (ha.block k hk hn)⟩
theorem boolMade (n : Nat) (hn : n ≤ 1048576) : ∀ wx : World, (Instr.makeSlice 33 (.int .i64 n) (.int .i64 n)).run Try.prog wx = .ok (.slice (some ⟨wx.heap.size, 0, none⟩) n n) (wx.alloc (.cells (madeCells #[Value.bool false] n) 4)) := by
  intro wx
  obtain ⟨i0, hi, hz0, hz1, hz2⟩ := info_parts info_bool
  have := run_make (P := Try.prog) wx 33 4 i0 (.bool false) Try.underlying33 hi hz0 .i64 .i64 n n (by omega) (by omega) (by rw [hz2]; omega) (by omega)
  rw [hz1, Int.toNat_natCast, Nat.mul_one] at this
  exact this
theorem boolRow (w : World) (n : Nat) (hn : n ≤ 1048576) : RowB (w.alloc (.cells (madeCells #[Value.bool false] n) 4)) w.heap.size w.heap.size n n (List.replicate n false) :=
  RowB.made (World.ownsRow_lit w _ n (Nat.le_refl _) (by unfold maxLen; omega) (by simp [size_madeCells]))
/-- which cities have been seen -/
def seenK (A : List Int) (n k : Nat) : List Bool := (List.range n).map fun x => decide (((x : Nat) : Int) ∈ A.take k)
theorem seenK_at (A : List Int) (n k : Nat) {x : Nat} (hx : x < n) : (seenK A n k).getD x false = decide ((x : Int) ∈ A.take k) := by simp [seenK, List.getD, hx]
theorem seenK_zero (A : List Int) (n : Nat) : List.replicate n false = seenK A n 0 := by
  refine List.ext_getElem (by simp [seenK]) fun i h1 h2 => ?_
  simp [seenK]
theorem seenK_succ {A : List Int} {n k a : Nat} (hk : k < A.length) (ha : A.getD k 0 = (a : Int)) : (seenK A n k).set a true = seenK A n (k + 1) := by
  have e : A.take (k + 1) = A.take k ++ [(a : Int)] := by rw [← ha, getD_lt hk]; exact (List.take_append_getElem hk).symm
  refine List.ext_getElem (by simp [seenK]) fun i h1 h2 => ?_
  rw [List.getElem_set]
  simp only [seenK, e, List.getElem_map, List.getElem_range, List.mem_append, List.mem_singleton]
  by_cases h : a = i
  · subst h; simp
  · rw [if_neg h, Bool.eq_iff_iff, decide_eq_true_eq, decide_eq_true_eq]
    constructor
    · exact fun h => .inl h
    · rintro (h' | h')
      · exact h'
      · omega
theorem seenK_new {A : List Int} {n k a : Nat} (hA : TourN A n) (hk : k < n) (ha : A.getD k 0 = (a : Int)) : a < n ∧ (seenK A n k).getD a false = false := by
  have hl := hA.len
  have hr := hA.rng _ (getD_memI (show k < A.length by omega))
  rw [ha] at hr
  have han : a < n := by omega
  refine ⟨han, ?_⟩
  rw [seenK_at A n k han, decide_eq_false_iff_not]
  intro hm
  obtain ⟨j, hj, he⟩ := List.mem_iff_getElem.1 hm
  have hjk : j < k := by simp at hj; omega
  have : A.getD j 0 = A.getD k 0 := by
    rw [ha, ← he, getD_lt (show j < A.length by omega), List.getElem_take]
  have := nodup_inj hA.nd (by omega) (by omega) this
  omega
set_option maxHeartbeats 2000000 in
set_option maxRecDepth 100000 in
theorem r8Tour_yes {l h : Nat} (v : Value) (A : List Int) (n : Nat) (w : World) (hv : Ints w l h v A) (hh : h ≤ w.heap.size) (hA : TourN A n) (hn1 : 1 ≤ n) (hn : n ≤ 10) :
    Calls Try.prog 39 #[v, .int .i64 n] w fun e w' => e = .returned (.bool true) ∧ Below w.heap.size w w' := by
  obtain ⟨ua, uc, rfl, gc1, gc2, gd⟩ := hv.out
  have hl := hA.len
  rcases gd with gd | ⟨b, off, rfl, hb1, hb2, hb3, hcell⟩
  · exfalso; rw [gd] at hl; simp at hl; omega
  have HCELL := Lib.hid hcell
  have HA := Lib.hid hA
  have HM := boolMade n (by omega)
  obtain ⟨W, hW⟩ : ∃ X, X = w.alloc (.cells (madeCells #[Value.bool false] n) 4) := ⟨_, rfl⟩
  obtain ⟨g, hg⟩ : ∃ b, b = w.heap.size := ⟨_, rfl⟩
  have HR0 : Hid (RowB W w.heap.size g n n (seenK A n 0)) := by rw [hW, hg, ← seenK_zero]; exact boolRow w n (by omega)
  have HB0 : Hid (Below w.heap.size w W) := by rw [hW]; exact (Below.refl _ _).alloc (Nat.le_refl _) _
  have hgw : w.heap.size ≤ g := by omega
  have hbw : b < w.heap.size := by omega
  have HL := Lib.hid hl
  rw [hl]
  clear hv hcell hA hl
  go_enter Try.func39, Try.ntmps39
  go_wp2_with fail
  rw [← hW, ← hg]
  clear hW hg HM
  go_loopw [6] (fun kv wr => ∃ k : Nat, k ≤ n ∧ kv = .int .i64 k ∧ Hid (RowB wr w.heap.size g n n (seenK A n k)) ∧ Hid (Below w.heap.size w wr)) (fun kv _ => n - (intOf kv).toNat)
  case atStart => exact ⟨0, Nat.zero_le _, rfl, HR0, HB0⟩
  case round =>
    obtain ⟨k, hk, rfl, HR, HB⟩ := hrel
    by_cases hkn : k < n
    · have hkA : k < A.length := by rw [HL.out]; exact hkn
      have hr := HA.out.rng _ (getD_memI hkA)
      obtain ⟨a, ha⟩ := Int.eq_ofNat_of_zero_le hr.1
      obtain ⟨han, hs⟩ := seenK_new HA.out hkn ha
      have c1 := (HB.out.cell (p := ⟨b, off + k, none⟩) hbw).trans (HCELL.out k hkA)
      rw [ha] at c1
      have c2 := HR.out.cell han
      rw [hs] at c2
      have c3 := HR.out.frozen a
      have HS : Hid (RowB (wr.setCell ⟨g, a, none⟩ (.bool true)) w.heap.size g n n (seenK A n (k + 1))) := by rw [← seenK_succ hkA ha]; exact HR.out.stored a true
      have a1 : ¬ (a : Int) < 0 := by omega
      have a2 : ¬ (n : Int) ≤ (a : Int) := by omega
      have a3 : (a : Int) < (n : Int) := by omega
      have k1 : (k : Int) < (n : Int) := by omega
      clear ha hs hr
      go_wp2
      go_roundw
      case rel => exact ⟨k + 1, by omega, by go_num, HS, HB.out.setCell hgw _⟩
      case measure => simp [intOf]; omega
    · obtain rfl : k = n := by omega
      go_wp2
      go_ret
      exact ⟨rfl, HB.out⟩
theorem TourN.more {A : List Int} {i : Nat} (h : TourN A i) : TourN (A ++ [(i : Int)]) (i + 1) := by
  refine ⟨by simp [h.len], fun x hx => ?_, ?_⟩
  · rcases List.mem_append.1 hx with hx | hx
    · have := h.rng x hx; omega
    · rw [List.mem_singleton] at hx; omega
  · rw [List.nodup_append]
    refine ⟨h.nd, by simp, fun x hx y hy => ?_⟩
    rw [List.mem_singleton] at hy
    have := h.rng x hx
    omega
theorem setG (zs : List Int) (p q : Nat) (x : Int) (hq : p < zs.length) : (zs.set p x).getD q 0 = if q = p then x else zs.getD q 0 := setD zs p q x hq
theorem TourN.two {B : List Int} {n : Nat} (h : TourN B n) {k i : Nat} (hk : k < n) (hi : i < n) : TourN ((B.set k (B.getD i 0)).set i (B.getD k 0)) n := by
  have hl := h.len
  have hg : ∀ q, ((B.set k (B.getD i 0)).set i (B.getD k 0)).getD q 0 = B.getD (if q = i then k else if q = k then i else q) 0 := fun q => by
    rw [setG _ _ _ _ (by rw [List.length_set]; omega), setG _ _ _ _ (by omega)]
    by_cases e1 : q = i
    · rw [if_pos e1, if_pos e1]
    · rw [if_neg e1, if_neg e1]
      by_cases e2 : q = k
      · rw [if_pos e2, if_pos e2]
      · rw [if_neg e2, if_neg e2]
  have hs : ∀ q, q < n → (if q = i then k else if q = k then i else q) < n := fun q hq => by
    split
    · exact hk
    · split <;> omega
  refine ⟨by simp [hl], fun x hx => ?_, nodup_of_inj fun p q hpq hq => ?_⟩
  · rcases List.mem_or_eq_of_mem_set hx with hx | rfl
    · rcases List.mem_or_eq_of_mem_set hx with hx | rfl
      · exact h.rng x hx
      · exact h.rng _ (getD_memI (by omega))
    · exact h.rng _ (getD_memI (by omega))
  · have hq' : q < n := by simpa [hl] using hq
    rw [hg, hg]
    intro e
    have := nodup_inj h.nd (by rw [hl]; exact hs p (by omega)) (by rw [hl]; exact hs q hq') e
    revert this
    split <;> split <;> (try split) <;> (try split) <;> omega
set_option maxHeartbeats 2000000 in
set_option maxRecDepth 100000 in
theorem R8Order_any {l h n : Nat} (v : Value) (bs : List Int) (w : World) (hv : Byts w l h v bs) (hh : h ≤ w.heap.size) (h2 : n ≤ 10) :
    Calls Try.prog 33 #[v, .int .i64 n] w fun e w' => ∃ u zs, e = .returned u ∧ OwnI w' w.heap.size w'.heap.size u zs ∧ TourN zs n ∧ Below w.heap.size w w' := by
  have HF := Lib.hid (l00From_any v bs w hv hh)
  clear hv
  go_enter Try.func33, Try.ntmps33
  go_wp2_with fail
  refine HF.out.mono ?_
  rintro e w1 ⟨rfl, hs, hb⟩
  obtain ⟨q, hq⟩ : ∃ q, q = w.heap.size := ⟨_, rfl⟩
  rw [← hq] at hs
  rw [← hq]
  have hql := hs.lt
  have HB := Lib.hid hb
  have hz := hb.size
  have he0 := emptySlice w1
  obtain ⟨W, hW⟩ : ∃ X, X = w1.alloc (.cells #[] 2) := ⟨_, rfl⟩
  rw [← hW] at he0
  have HE0 : Hid (OwnI W w1.heap.size W.heap.size (.slice (some ⟨w1.heap.size, 0, none⟩) 0 0) []) := he0.mono (Nat.le_refl _) he0.own.hsz (Nat.le_refl _)
  have HS0 : Hid (Same q (q + 1) w1 W) := by rw [hW]; exact (Same.refl _ _ _).alloc _
  have HQ0 : Hid (SrcC W q 0) := by rw [hW]; exact hs.alloc _
  have hqw : w.heap.size ≤ q := by omega
  clear hs hb he0 hq
  go_wp2_with fail
  rw [← hW]
  clear hW
  go_loopw [6, 7] (fun ov iv wr => ∃ (i : Nat) (B : List Int), i ≤ n ∧ iv = .int .i64 i ∧ Hid (OwnI wr w1.heap.size wr.heap.size ov B) ∧ Hid (TourN B i) ∧ Hid (SrcC wr q i) ∧ Hid (Same q (q + 1) w1 wr)) (fun _ iv _ => n - (intOf iv).toNat)
  case atStart => exact ⟨0, [], Nat.zero_le _, rfl, HE0, ⟨rfl, by simp, by simp⟩, HQ0, HS0⟩
  case round =>
    obtain ⟨ov, hov⟩ : ∃ v, v = u6 := ⟨_, rfl⟩
    rw [← hov] at hrel
    rw [← hov]
    clear hov
    obtain ⟨i, B, hi, rfl, HO, HT, HQ, HS⟩ := hrel
    have hsr := HS.out.size
    by_cases hin : i < n
    · have hpk := Lib.hid (srcPick_any ((i : Int) + 1) wr HQ.out (by omega) (by omega) (by omega))
      have w1' : IntKind.i64.wrap ((i : Int) + 1) = (i : Int) + 1 := IntWalk.i64_in _ (by omega)
      have hbl := HT.out.len
      go_wp2_with fail
      refine hpk.out.mono ?_
      rintro e w2 ⟨x, rfl, ⟨hx0, hx1⟩, hs2, hm2⟩
      obtain ⟨k, rfl⟩ := Int.eq_ofNat_of_zero_le hx0
      have hki : k < i + 1 := by omega
      have hz2 := hm2.size
      have HO2 := Lib.hid ((HO.out.same hm2 (.inr (by omega))).mono (Nat.le_refl _) hz2 (Nat.le_refl _))
      have HS2 := Lib.hid (HS.out.trans hm2)
      have HQ2 := Lib.hid hs2
      have hsr2 : w1.heap.size ≤ w2.heap.size := by omega
      clear hs2 hm2 hpk
      go_wp2_with (at_builtin; refine wpList_app1 rfl _ _ rfl _ B rfl (i : Int) _ HO2.out rfl (by constructor <;> omega) (by omega) hsr2 ?_)
      intro v3 w3 ho3 hsm3 hz3 hbk3
      have HT3 := Lib.hid HT.out.more
      have HS3 : Hid (Same q (q + 1) w1 w3) := hsm3.mono_oldO hql hsr2 rfl HS2.out
      have HQ3 := Lib.hid (HQ2.out.same hsm3 hql)
      rcases ho3.rowOf with ⟨_, h0⟩ | ⟨g, cap, rfl, hg1, hg2, hg3, hrow⟩
      · exfalso
        have := congrArg List.length h0
        simp at this
      have hlen3 : (B ++ [(i : Int)]).length = i + 1 := by simp [hbl]
      rw [hlen3] at hrow hg2 ⊢
      obtain ⟨C, hC⟩ : ∃ C, C = B ++ [(i : Int)] := ⟨_, rfl⟩
      rw [← hC] at hrow HT3
      have HR := Lib.hid hrow
      have hgl := hrow.ge
      have c1 := hrow.cell (k := k) hki
      have c2 := hrow.cell (k := i) (by omega)
      have f1 := hrow.frozen k
      have HT4 := Lib.hid (HT3.out.two (k := k) (i := i) hki (by omega))
      obtain ⟨y, hy⟩ : ∃ y, y = C.getD k 0 := ⟨_, rfl⟩
      obtain ⟨z, hz⟩ : ∃ z, z = C.getD i 0 := ⟨_, rfl⟩
      rw [← hy] at c1
      rw [← hz] at c2
      rw [← hy, ← hz] at HT4
      have hqg : q < g := by omega
      have k1 : (k : Int) < (i : Int) + 1 := by omega
      have k2 : (k : Int) < ((i + 1 : Nat) : Int) := by omega
      have k3 : (i : Int) < (i : Int) + 1 := by omega
      clear ho3 hsm3 hz3 hbk3 hrow hC hy hz hlen3 hbl
      go_upto_region 10 with (fail)
      obtain ⟨W4, hW4⟩ : ∃ X, X = w3.setCell ⟨g, k, none⟩ (.int .i64 z) := ⟨_, rfl⟩
      rw [← hW4]
      have hR4 : RowI W4 w1.heap.size g (i + 1) cap (C.set k z) := by rw [hW4]; exact HR.out.stored _ _
      have HR4 := Lib.hid hR4
      have HS4 : Hid (Same q (q + 1) w1 W4) := by rw [hW4]; exact HS3.out.setNew hgl _
      have HQ4 : Hid (SrcC W4 q (i + 1)) := by rw [hW4]; exact HQ3.out.setNew hqg _ _
      have c3 := hR4.cell (k := i) (by omega)
      have f3 := hR4.frozen i
      clear hW4 hR4 c1 c2 f1
      go_wp2
      go_roundw
      case rel =>
        refine ⟨i + 1, (C.set k z).set i y, by omega, by go_num, ?_, HT4, HQ4.out.setNew hqg _ _, HS4.out.setNew hgl _⟩
        have hr := HR4.out.stored i y
        exact hr.own (fun u hu => by have := HT4.out.rng u hu; constructor <;> omega) (by omega) hr.lt (Nat.le_refl _)
      case measure => simp [intOf]; omega
    · obtain rfl : i = n := by omega
      go_wp2
      go_ret
      exact ⟨ov, B, rfl, HO.out.mono hz (Nat.le_refl _) (Nat.le_refl _), HT.out, HB.out.trans (HS.out.below hqw hz)⟩
end Go.Proofs.Ytkankfdpodofjaa
