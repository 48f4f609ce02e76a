/-
  A list shrunk towards zero: spec.ShrinkList and impl.ShrinkList.
-/
import Derived.Test.YtocngcpdpeflnaaFinI
import Derived.OwnWalk
namespace Go.Proofs.Ytocngcpdpeflnaa
open Go.RowKit
set_option linter.unusedVariables false
set_option maxRecDepth 100000
open Ieee (Datum Format single double)

theorem shrink_arith {b x : Nat} (hb : finF b = true) (hx : finF x = true) : ∃ r s, single.sub x b = some r ∧ single.add x b = some s ∧
    (∀ wx, (binOp .sub 23 (.float .f32 x) (.float .f32 b)).run Try.prog wx = .ok (.float .f32 r) wx) ∧ (∀ wx, (binOp .add 23 (.float .f32 x) (.float .f32 b)).run Try.prog wx = .ok (.float .f32 s) wx) := by
  obtain ⟨⟨r, hr⟩, s, hs⟩ := arith_fin hx hb
  exact ⟨r, s, hr, hs, fun wx => run_float_arith (P := Try.prog) wx .sub 23 .f32 x b r hr, fun wx => run_float_arith (P := Try.prog) wx .add 23 .f32 x b s hs⟩
theorem negF_eq (b : Nat) : Op.negFloat .f32 b = negF b := rfl
set_option maxHeartbeats 1600000 in
set_option maxRecDepth 100000 in
theorem l06Shrink_any {l h : Nat} (v : Value) (xs : List Nat) (b : Nat) (w : World) (hv : Flts w l h v xs) (hh : h ≤ w.heap.size) (hz : xs.length ≤ 1048576) (hf : allFin xs = true) (hb : finF b = true) (hb0 : (FloatKind.f32.format.order b 0 == some .lt) = false) :
    Calls Try.prog 23 #[v, .float .f32 b] w fun e w' => ∃ u, e = .returned u ∧ OwnFL w' w.heap.size w'.heap.size u (shrinkL b xs) ∧ Below w.heap.size w w' := by
  obtain ⟨a, cap, rfl, hc1, hc2, hd⟩ := hv.out
  have HF := Lib.hid (fun k hk => allFin_get xs k hk hf)
  have h0 := emptySliceFL w
  clear hv
  go_enter Try.func23, Try.ntmps23
  go_wp2_with fail
  go_loopw [5, 6] (fun ov i wr => ∃ k : Nat, k ≤ xs.length ∧ i = .int .i64 k ∧ OwnFL wr w.heap.size wr.heap.size ov (shrinkL b (xs.take k)) ∧ Below w.heap.size w wr) (fun _ i _ => xs.length - (intOf i).toNat)
  case atStart => exact ⟨0, Nat.zero_le _, rfl, by simpa [shrinkL] using h0, (Below.refl _ _).alloc (Nat.le_refl _) _⟩
  case round =>
    obtain ⟨k, hk, rfl, ho, hbl⟩ := hrel
    have hs := hbl.size
    have HO := Lib.hid ho
    have hol : (shrinkL b (xs.take k)).length ≤ k := by simp [shrinkL]; omega
    clear ho
    by_cases hlt : k < xs.length
    · have HS := Lib.hid (shrinkL_snoc b xs k hlt)
      have hx := HF.out k hlt
      rcases hd with rfl | ⟨bk, off, rfl, hb1, hb2, hb3, hcell⟩
      · simp at hlt
      have hck := hcell k hlt
      rw [← hbl.cell (p := ⟨bk, off + k, none⟩) (show bk < w.heap.size by omega)] at hck
      clear hcell
      obtain ⟨r, s, hr, hs2, hsub, hadd⟩ := shrink_arith hb hx
      have HR := Lib.hid hr
      have HS2 := Lib.hid hs2
      clear hr hs2
      obtain ⟨nb, hnb⟩ : ∃ nb, nb = Op.negFloat .f32 b := ⟨_, rfl⟩
      have hnb' : Op.unary .neg (.float .f32 b) = pure (.float .f32 nb) := by rw [hnb]; rfl
      have HNB : Hid (nb = negF b) := hnb
      clear hnb
      obtain ⟨y, hy⟩ : ∃ y, y = shrinkF b xs[k] := ⟨_, rfl⟩
      rw [← hy] at HS
      have HY := Lib.hid hy
      clear hy
      have h3 : ((FloatKind.f32.format.order xs[k] b == some .gt) = true ∧ (FloatKind.f32.format.order xs[k] nb == some .lt) = false ∧ y = r) ∨ ((FloatKind.f32.format.order xs[k] b == some .gt) = false ∧ (FloatKind.f32.format.order xs[k] nb == some .lt) = true ∧ y = s) ∨ ((FloatKind.f32.format.order xs[k] b == some .gt) = false ∧ (FloatKind.f32.format.order xs[k] nb == some .lt) = false ∧ y = 0) := by
        rw [HY.out, shrinkF, HR.out, HS2.out, HNB.out]
        cases hg : (FloatKind.f32.format.order xs[k] b == some .gt)
        · cases hn : (FloatKind.f32.format.order xs[k] (negF b) == some .lt)
          · exact .inr (.inr ⟨rfl, rfl, rfl⟩)
          · exact .inr (.inl ⟨rfl, rfl, rfl⟩)
        · exact .inl ⟨rfl, shrink_one hb hx hb0 hg, rfl⟩
      clear HY HR HS2
      rcases h3 with ⟨hg, hn, rfl⟩ | ⟨hg, hn, rfl⟩ | ⟨hg, hn, rfl⟩
      all_goals
        go_wp2_with (at_builtin; refine wpList_app1FL rfl _ _ rfl _ (shrinkL b (xs.take k)) rfl _ _ HO.out rfl (by omega) hs ?_)
        intro v2 w3 ho2 hsm hz3 _
        have HO2 : Hid (OwnFL w3 w.heap.size w3.heap.size v2 (shrinkL b (xs.take (k + 1)))) := HS.out ▸ ho2
        clear ho2
        go_wp2
        go_roundw
        case rel => exact ⟨k + 1, by omega, by go_num, HO2.out, hbl.trans (hsm.below (Nat.le_refl _) hs)⟩
        case measure => simp [intOf]; omega
    · obtain rfl : k = xs.length := by omega
      rw [List.take_length] at HO
      go_wp2
      go_ret
      exact ⟨_, rfl, HO.out, hbl⟩
set_option maxHeartbeats 1600000 in
set_option maxRecDepth 100000 in
theorem shrunk_any {l h : Nat} (v : Value) (xs : List Nat) (b : Nat) (w : World) (hv : Flts w l h v xs) (hh : h ≤ w.heap.size) (hz : xs.length ≤ 1048576) (hf : allFin xs = true) (hb : finF b = true) (hb0 : (FloatKind.f32.format.order b 0 == some .lt) = false) :
    Calls Try.prog 26 #[v, .float .f32 b] w fun e w' => ∃ u, e = .returned u ∧ OwnFL w' w.heap.size w'.heap.size u (shrinkL b xs) ∧ Below w.heap.size w w' := by
  obtain ⟨a, cap, rfl, hc1, hc2, hd⟩ := hv.out
  have HF := Lib.hid (fun k hk => allFin_get xs k hk hf)
  clear hv
  go_enter Try.func26, Try.ntmps26
  go_wp2_with fail
  go_loopw [5, 10] (fun ov i wr => ∃ k : Nat, k ≤ xs.length ∧ i = .int .i64 k ∧ OwnFL wr w.heap.size wr.heap.size ov (shrinkL b (xs.take k)) ∧ Below w.heap.size w wr) (fun _ i _ => xs.length - (intOf i).toNat)
  case atStart => exact ⟨0, Nat.zero_le _, rfl, by simpa [shrinkL] using OwnFL.nil w w.heap.size w.heap.size (Nat.le_refl _), Below.refl _ _⟩
  case round =>
    obtain ⟨k, hk, rfl, ho, hbl⟩ := hrel
    have hs := hbl.size
    have HO := Lib.hid ho
    have hol : (shrinkL b (xs.take k)).length ≤ k := by simp [shrinkL]; omega
    clear ho
    by_cases hlt : k < xs.length
    · have HS := Lib.hid (shrinkL_snoc b xs k hlt)
      have hx := HF.out k hlt
      rcases hd with rfl | ⟨bk, off, rfl, hb1, hb2, hb3, hcell⟩
      · simp at hlt
      have hck := hcell k hlt
      rw [← hbl.cell (p := ⟨bk, off + k, none⟩) (show bk < w.heap.size by omega)] at hck
      clear hcell
      obtain ⟨r, s, hr, hs2, hsub, hadd⟩ := shrink_arith hb hx
      have HR := Lib.hid hr
      have HS2 := Lib.hid hs2
      clear hr hs2
      obtain ⟨nb, hnb⟩ : ∃ nb, nb = Op.negFloat .f32 b := ⟨_, rfl⟩
      have hnb' : Op.unary .neg (.float .f32 b) = pure (.float .f32 nb) := by rw [hnb]; rfl
      have HNB : Hid (nb = negF b) := hnb
      clear hnb
      obtain ⟨y, hy⟩ : ∃ y, y = shrinkF b xs[k] := ⟨_, rfl⟩
      rw [← hy] at HS
      have HY := Lib.hid hy
      clear hy
      have h3 : ((FloatKind.f32.format.order xs[k] b == some .gt) = true ∧ (FloatKind.f32.format.order xs[k] nb == some .lt) = false ∧ y = r) ∨ ((FloatKind.f32.format.order xs[k] b == some .gt) = false ∧ (FloatKind.f32.format.order xs[k] nb == some .lt) = true ∧ y = s) ∨ ((FloatKind.f32.format.order xs[k] b == some .gt) = false ∧ (FloatKind.f32.format.order xs[k] nb == some .lt) = false ∧ y = 0) := by
        rw [HY.out, shrinkF, HR.out, HS2.out, HNB.out]
        cases hg : (FloatKind.f32.format.order xs[k] b == some .gt)
        · cases hn : (FloatKind.f32.format.order xs[k] (negF b) == some .lt)
          · exact .inr (.inr ⟨rfl, rfl, rfl⟩)
          · exact .inr (.inl ⟨rfl, rfl, rfl⟩)
        · exact .inl ⟨rfl, shrink_one hb hx hb0 hg, rfl⟩
      clear HY HR HS2
      rcases h3 with ⟨hg, hn, rfl⟩ | ⟨hg, hn, rfl⟩ | ⟨hg, hn, rfl⟩
      all_goals
        go_wp2_with (at_builtin; refine wpList_app1FL rfl _ _ rfl _ (shrinkL b (xs.take k)) rfl _ _ HO.out rfl (by omega) hs ?_)
        intro v2 w3 ho2 hsm hz3 _
        have HO2 : Hid (OwnFL w3 w.heap.size w3.heap.size v2 (shrinkL b (xs.take (k + 1)))) := HS.out ▸ ho2
        clear ho2
        go_wp2
        go_roundw
        case rel => exact ⟨k + 1, by omega, by go_num, HO2.out, hbl.trans (hsm.below (Nat.le_refl _) hs)⟩
        case measure => simp [intOf]; omega
    · obtain rfl : k = xs.length := by omega
      rw [List.take_length] at HO
      go_wp2
      go_ret
      exact ⟨_, rfl, HO.out, hbl⟩
/-- the bits of a float of 32 bits -/
def F32 (b : Nat) : Prop := (Lit.float .f32 b).wf = true
set_option maxHeartbeats 800000 in
set_option maxRecDepth 100000 in
theorem specShrinkList_any (w : World) {l h : Nat} (v : Value) (xs : List Nat) (b : Nat) (hv : Flts w l h v xs) (hh : h ≤ w.heap.size) (hz : xs.length ≤ 1048576) (_kb : F32 b) :
    Calls Try.prog 6 #[v, .float .f32 b] w fun e w' => ∃ r, e = .returned (.tuple #[r, .bool (shrinkList xs b).2]) ∧ OwnFL w' w.heap.size w'.heap.size r (shrinkList xs b).1 ∧ Below w.heap.size w w' := by
  have HV := Lib.hid hv
  have HS := Lib.hid (fun wx (hx : Flts wx l h v xs) => l06Floats_any v xs wx hx)
  cases hx : okFl xs
  · have HE := Lib.hid (show shrinkList xs b = ([], false) by rw [shrinkList, hx]; rfl)
    have HX := Lib.hid hx
    clear hv hx
    rw [HE.out]
    go_enter Try.func6, Try.ntmps6
    go_wp2_with (go_at_call 21; refine (HS.out _ HV.out).mono ?_; rintro e w1 ⟨rfl, m, rfl⟩; rw [HX.out])
    go_ret2
    exact ⟨_, rfl, OwnFL.nil _ _ _ (Nat.le_refl _), (Drew.one w m).below _⟩
  · have HX := Lib.hid hx
    cases hb : okBy b
    · have HE := Lib.hid (show shrinkList xs b = ([], false) by rw [shrinkList, hx, hb]; rfl)
      clear hv hx
      rw [HE.out]
      go_enter Try.func6, Try.ntmps6
      go_wp2_with (first | (go_at_call 21; refine (HS.out _ HV.out).mono ?_; rintro e w1 ⟨rfl, m, rfl⟩; rw [HX.out]) | (go_at_call 22; refine (l02Least_any _ _).mono ?_; rintro e w2 ⟨rfl, m2, rfl⟩; rw [hb]))
      go_ret2
      exact ⟨_, rfl, OwnFL.nil _ _ _ (Nat.le_refl _), (Drew.one w _).below _⟩
    · have HE := Lib.hid (show shrinkList xs b = (shrinkL b xs, true) by rw [shrinkList, hx, hb]; rfl)
      have hf : allFin xs = true := by have h1 := hx; rw [okFl, Bool.and_eq_true] at h1; exact h1.2
      have hb1 : finF b = true := by have h1 := hb; rw [okBy, Bool.and_eq_true] at h1; exact h1.1
      have hb2 : (FloatKind.f32.format.order b 0 == some .lt) = false := by have h1 := hb; rw [okBy, Bool.and_eq_true] at h1; simpa using h1.2
      have HL := Lib.hid (fun n => l06Shrink_any v xs b (w.drewN n) (hv.drewN n) hh hz hf hb1 hb2)
      clear hv hx hf hb1 hb2
      rw [HE.out]
      go_enter Try.func6, Try.ntmps6
      go_wp2_with (first | (go_at_call 21; refine (HS.out _ HV.out).mono ?_; rintro e w1 ⟨rfl, m, rfl⟩; rw [HX.out]) | (go_at_call 22; refine (l02Least_any _ _).mono ?_; rintro e w2 ⟨rfl, m2, rfl⟩; rw [hb]) | (go_at_call 23; refine (HL.out _).mono ?_; rintro e w3 ⟨u, rfl, ho, hbl⟩))
      go_ret2
      exact ⟨_, rfl, ho, ((Drew.one w _).below _).trans hbl⟩
set_option maxHeartbeats 800000 in
set_option maxRecDepth 100000 in
theorem implShrinkList_any (w : World) {l h : Nat} (v : Value) (xs : List Nat) (b : Nat) (hv : Flts w l h v xs) (hh : h ≤ w.heap.size) (hz : xs.length ≤ 1048576) (_kb : F32 b) :
    Calls Try.prog 8 #[v, .float .f32 b] w fun e w' => ∃ r, e = .returned (.tuple #[r, .bool (shrinkList xs b).2]) ∧ OwnFL w' w.heap.size w'.heap.size r (shrinkList xs b).1 ∧ Below w.heap.size w w' := by
  have HV := Lib.hid hv
  have HS := Lib.hid (fun wx (hx : Flts wx l h v xs) => isShort_any v xs wx hx hz)
  cases hx : okFl xs
  · have HE := Lib.hid (show shrinkList xs b = ([], false) by rw [shrinkList, hx]; rfl)
    have HX := Lib.hid hx
    clear hv hx
    rw [HE.out]
    go_enter Try.func8, Try.ntmps8
    go_wp2_with (go_at_call 24; refine (HS.out _ HV.out).mono ?_; rintro e w1 ⟨rfl, m, rfl⟩; rw [HX.out])
    go_ret2
    exact ⟨_, rfl, OwnFL.nil _ _ _ (Nat.le_refl _), (Drew.one w m).below _⟩
  · have HX := Lib.hid hx
    cases hb : finF b
    · have HE := Lib.hid (show shrinkList xs b = ([], false) by rw [shrinkList, hx, okBy, hb]; rfl)
      clear hv hx
      rw [HE.out]
      go_enter Try.func8, Try.ntmps8
      go_wp2_with (first | (go_at_call 24; refine (HS.out _ HV.out).mono ?_; rintro e w1 ⟨rfl, m, rfl⟩; rw [HX.out]) | (go_at_call 25; refine (IsFinite_any _ _).mono ?_; rintro e w2 ⟨rfl, m2, rfl⟩; rw [hb]))
      go_ret2
      exact ⟨_, rfl, OwnFL.nil _ _ _ (Nat.le_refl _), (Drew.one w _).below _⟩
    · cases hl : (FloatKind.f32.format.order b 0 == some .lt)
      · have HE := Lib.hid (show shrinkList xs b = (shrinkL b xs, true) by rw [shrinkList, hx, okBy, hb, hl]; rfl)
        have hf : allFin xs = true := by have h1 := hx; rw [okFl, Bool.and_eq_true] at h1; exact h1.2
        have HL := Lib.hid (fun n => shrunk_any v xs b (w.drewN n) (hv.drewN n) hh hz hf hb hl)
        clear hv hx hf
        rw [HE.out]
        go_enter Try.func8, Try.ntmps8
        go_wp2_with (first | (go_at_call 24; refine (HS.out _ HV.out).mono ?_; rintro e w1 ⟨rfl, m, rfl⟩; rw [HX.out]) | (go_at_call 25; refine (IsFinite_any _ _).mono ?_; rintro e w2 ⟨rfl, m2, rfl⟩; rw [hb]) | (go_at_call 26; refine (HL.out _).mono ?_; rintro e w3 ⟨u, rfl, ho, hbl⟩))
        go_ret2
        exact ⟨_, rfl, ho, ((Drew.one w _).below _).trans hbl⟩
      · have HE := Lib.hid (show shrinkList xs b = ([], false) by rw [shrinkList, hx, okBy, hb, hl]; rfl)
        clear hv hx
        rw [HE.out]
        go_enter Try.func8, Try.ntmps8
        go_wp2_with (first | (go_at_call 24; refine (HS.out _ HV.out).mono ?_; rintro e w1 ⟨rfl, m, rfl⟩; rw [HX.out]) | (go_at_call 25; refine (IsFinite_any _ _).mono ?_; rintro e w2 ⟨rfl, m2, rfl⟩; rw [hb]))
        go_ret2
        exact ⟨_, rfl, OwnFL.nil _ _ _ (Nat.le_refl _), (Drew.one w _).below _⟩
end Go.Proofs.Ytocngcpdpeflnaa
