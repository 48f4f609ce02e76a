/-
  Sums of products, the tests of a plan, lists that are given: contracts of the small functions that ShrinkSteps calls.
-/
import Derived.Test.YtocngcpdpeflnaaStepP
import Derived.Test.YtocngcpdpeflnaaRowP
import Derived.Deep.RegionLaw
namespace Go.Proofs.Ytocngcpdpeflnaa
open Go.RowKit
set_option linter.unusedVariables false
set_option maxRecDepth 100000

theorem dot_step {A B : List Nat} {k : Nat} (ac : Option Nat) (hA : k < A.length) (hB : k < B.length) : dotGo ac (A.drop k) (B.drop k) = dotGo (arO .add ac (arO .mul (some A[k]) (some B[k]))) (A.drop (k + 1)) (B.drop (k + 1)) := by
  rw [drop_cons A k hA, drop_cons B k hB, dotGo]
theorem dot_end {A B : List Nat} {k : Nat} (ac : Option Nat) (hA : A.length ≤ k) : dotGo ac (A.drop k) (B.drop k) = ac := by
  rw [drop_len A k hA]; cases B.drop k <;> rfl
set_option maxHeartbeats 800000 in
set_option maxRecDepth 100000 in
theorem l02Dot_any {l h l' h' : Nat} (v u : Value) (A B : List Nat) (w : World) (hv : Flts w l h v A) (hu : Flts w l' h' u B) (hl : A.length = B.length) (fa : allFin A = true) (fb : allFin B = true) :
    Calls Try.prog 46 #[v, u] w fun e w' => ∃ x, e = .returned (.float .f32 x) ∧ FV (dotO A B) x ∧ Drew w w' := by
  obtain ⟨a, cap, rfl, hc1, hc2, hd⟩ := hv.out
  obtain ⟨a', cap', rfl, hc1', hc2', hd'⟩ := hu.out
  have HL := Lib.hid hl
  have HFA := Lib.hid (fun k hk => allFin_get A k hk fa)
  have HFB := Lib.hid (fun k hk => allFin_get B k hk fb)
  have hlb : A.length ≤ B.length := by omega
  clear hv hu hl
  go_enter Try.func46, Try.ntmps46
  go_wp2_with fail
  go_loopw [5, 6] (fun s i wr => ∃ (k acc : Nat) (ac : Option Nat), k ≤ A.length ∧ i = .int .i64 k ∧ s = .float .f32 acc ∧ Hid (FV ac acc) ∧ Hid (dotGo ac (A.drop k) (B.drop k) = dotO A B) ∧ Drew w wr) (fun _ i _ => A.length - (intOf i).toNat)
  case atStart => exact ⟨0, 0, some 0, Nat.zero_le _, rfl, rfl, Lib.hid (FV.fin (by decide)), Lib.hid rfl, Drew.refl _⟩
  case round =>
    obtain ⟨k, acc, ac, hk, rfl, rfl, HV, HD, hD⟩ := hrel
    have hcw := hD.cell
    by_cases hlt : k < A.length
    · have hlt' : k < B.length := by omega
      rcases hd with rfl | ⟨b, off, rfl, hb1, hb2, hb3, hcell⟩
      · simp at hlt
      rcases hd' with rfl | ⟨b', off', rfl, hb1', hb2', hb3', hcell'⟩
      · simp at hlt'
      have hck := hcell k hlt
      have hck' := hcell' k hlt'
      obtain ⟨x, hx⟩ : ∃ x, x = A[k] := ⟨_, rfl⟩
      obtain ⟨y, hy⟩ : ∃ y, y = B[k] := ⟨_, rfl⟩
      rw [show A.getD k 0 = x by rw [hx]; simp [List.getD, hlt]] at hck
      rw [show B.getD k 0 = y by rw [hy]; simp [List.getD, hlt']] at hck'
      have HS := Lib.hid (dot_step ac hlt hlt')
      rw [← hx, ← hy] at HS
      obtain ⟨f1, g1, r1, d1, c1⟩ := ar_any (op := .mul) (.inr (.inr rfl)) (FV.fin (show finF x = true by rw [hx]; exact HFA.out k hlt)) (FV.fin (show finF y = true by rw [hy]; exact HFB.out k hlt'))
      obtain ⟨f2, g2, r2, d2, c2⟩ := ar_any (op := .add) (.inl rfl) HV.out (c1 wr.drew)
      have HC2 := Lib.hid (c2 (g1 wr.drew))
      have HDR := Lib.hid (((hD.step 1).trans (d1 wr.drew)).trans (d2 _))
      clear hcell hcell' hx hy c1 c2
      go_wp2_with fail
      go_region_law (fail)
      all_goals
        go_wp2
        go_roundw
        case rel => exact ⟨k + 1, _, _, by omega, by go_num, rfl, HC2, Lib.hid (by rw [← HD.out, HS.out]), HDR.out⟩
        case measure => simp [intOf]; omega
    · have HE := Lib.hid (dot_end (A := A) (B := B) (k := k) ac (by omega))
      go_wp2
      go_ret
      exact ⟨acc, rfl, by rw [← HD.out, HE.out]; exact HV.out, hD⟩
set_option maxHeartbeats 800000 in
set_option maxRecDepth 100000 in
theorem dot_any {l h l' h' : Nat} (v u : Value) (A B : List Nat) (w : World) (hv : Flts w l h v A) (hu : Flts w l' h' u B) (hl : A.length = B.length) (fa : allFin A = true) (fb : allFin B = true) :
    Calls Try.prog 49 #[v, u] w fun e w' => ∃ x, e = .returned (.float .f32 x) ∧ FV (dotO A B) x ∧ Drew w w' := by
  obtain ⟨a, cap, rfl, hc1, hc2, hd⟩ := hv.out
  obtain ⟨a', cap', rfl, hc1', hc2', hd'⟩ := hu.out
  have HL := Lib.hid hl
  have HFA := Lib.hid (fun k hk => allFin_get A k hk fa)
  have HFB := Lib.hid (fun k hk => allFin_get B k hk fb)
  have hlb : A.length ≤ B.length := by omega
  clear hv hu hl
  go_enter Try.func49, Try.ntmps49
  go_wp2_with fail
  go_loopw [5, 9] (fun s i wr => ∃ (k acc : Nat) (ac : Option Nat), k ≤ A.length ∧ i = .int .i64 k ∧ s = .float .f32 acc ∧ Hid (FV ac acc) ∧ Hid (dotGo ac (A.drop k) (B.drop k) = dotO A B) ∧ Drew w wr) (fun _ i _ => A.length - (intOf i).toNat)
  case atStart => exact ⟨0, 0, some 0, Nat.zero_le _, rfl, rfl, Lib.hid (FV.fin (by decide)), Lib.hid rfl, Drew.refl _⟩
  case round =>
    obtain ⟨k, acc, ac, hk, rfl, rfl, HV, HD, hD⟩ := hrel
    have hcw := hD.cell
    by_cases hlt : k < A.length
    · have hlt' : k < B.length := by omega
      rcases hd with rfl | ⟨b, off, rfl, hb1, hb2, hb3, hcell⟩
      · simp at hlt
      rcases hd' with rfl | ⟨b', off', rfl, hb1', hb2', hb3', hcell'⟩
      · simp at hlt'
      have hck := hcell k hlt
      have hck' := hcell' k hlt'
      obtain ⟨x, hx⟩ : ∃ x, x = A[k] := ⟨_, rfl⟩
      obtain ⟨y, hy⟩ : ∃ y, y = B[k] := ⟨_, rfl⟩
      rw [show A.getD k 0 = x by rw [hx]; simp [List.getD, hlt]] at hck
      rw [show B.getD k 0 = y by rw [hy]; simp [List.getD, hlt']] at hck'
      have HS := Lib.hid (dot_step ac hlt hlt')
      rw [← hx, ← hy] at HS
      obtain ⟨f1, g1, r1, d1, c1⟩ := ar_any (op := .mul) (.inr (.inr rfl)) (FV.fin (show finF x = true by rw [hx]; exact HFA.out k hlt)) (FV.fin (show finF y = true by rw [hy]; exact HFB.out k hlt'))
      obtain ⟨f2, g2, r2, d2, c2⟩ := ar_any (op := .add) (.inl rfl) HV.out (c1 wr.drew)
      have HC2 := Lib.hid (c2 (g1 wr.drew))
      have HDR := Lib.hid (((hD.step 1).trans (d1 wr.drew)).trans (d2 _))
      clear hcell hcell' hx hy c1 c2
      go_wp2_with fail
      go_region_law (fail)
      all_goals
        go_wp2
        go_roundw
        case rel => exact ⟨k + 1, _, _, by omega, by go_num, rfl, HC2, Lib.hid (by rw [← HD.out, HS.out]), HDR.out⟩
        case measure => simp [intOf]; omega
    · have HE := Lib.hid (dot_end (A := A) (B := B) (k := k) ac (by omega))
      go_wp2
      go_ret
      exact ⟨acc, rfl, by rw [← HD.out, HE.out]; exact HV.out, hD⟩
set_option maxHeartbeats 800000 in
set_option maxRecDepth 100000 in
theorem l02Fit_any {l h l' h' q : Nat} (r : RowsD) (a b c v : Value) (x : List Nat) (w : World) (hq : QuadC w q 33 (.int .i64 r.vars) a b c) (ha : Flts w l h a r.numbers) (hb : Flts w l h b r.bounds) (hc : Flts w l h c r.gains) (hx : Flts w l' h' v x)
    (ho : okRows r = true) (hl : (x.length : Int) = r.vars) :
    Calls Try.prog 45 #[.pointer (some ⟨q, 0, none⟩), v] w fun e w' => e = .returned (.bool (allFin x)) ∧ Drew w w' := by
  have HI := Lib.hid (l02Is_any r a b c w hq ha hb hc)
  rw [ho] at HI
  obtain ⟨p, cap, rfl, hc1, hc2, _⟩ := hx.out
  have HF := Lib.hid (fun wx (hd : Drew w wx) => l02Finite_any _ x wx (hx.drew hd))
  have HQ := Lib.hid hq
  have heq : ((x.length : Int) == r.vars) = true := by rw [hl]; simp
  clear ha hb hc hx hq hl
  go_enter Try.func45, Try.ntmps45
  go_wp2_with fail
  refine HI.out.mono ?_
  rintro e w2 ⟨rfl, hd2⟩
  have k0 := (HQ.out.drew hd2).c0
  go_wp2_with fail
  refine (HF.out _ hd2).mono ?_
  rintro e w3 ⟨rfl, hd3⟩
  go_wp2
  go_ret
  exact ⟨rfl, hd2.trans hd3⟩
set_option maxHeartbeats 800000 in
set_option maxRecDepth 100000 in
theorem isX_any {l h l' h' : Nat} (r : RowsD) (v u : Value) (x : List Nat) (w : World) (hv : RowsR w l h v r) (hh : h ≤ w.heap.size) (hx : Flts w l' h' u x) (hh' : h' ≤ w.heap.size) (hl : (x.length : Int) = r.vars) (hl8 : x.length ≤ 8) :
    Calls Try.prog 48 #[v, u] w fun e w' => e = .returned (.bool (allFin x)) ∧ Below w.heap.size w w' := by
  obtain ⟨a, b, c, rfl, _, _, _⟩ := hv.ex
  obtain ⟨W, hW⟩ : ∃ W, W = w.alloc (.cells #[.int .i64 r.vars, a, b, c] 33) := ⟨_, rfl⟩
  have hBW : Below w.heap.size w W := by rw [hW]; exact alloc_belowR _ _
  have q0 : QuadC W w.heap.size 33 (.int .i64 r.vars) a b c := by rw [hW]; exact QuadC.new _ _ _ _ _ _
  have hx' := hx.below hBW hh'
  obtain ⟨p, cap, rfl, hc1, hc2, _⟩ := hx'.out
  have HF := Lib.hid (fun n => areFinite_any _ x (W.drewN n) (hx'.drewN n))
  have k0 := q0.c0
  have HB := Lib.hid hBW
  rw [← hl] at k0
  clear hx hx' hv q0 hBW hl
  go_enter Try.func48, Try.ntmps48
  go_wp2_with fail
  rw [← hW]
  clear hW
  go_quiet (first | (go_at_call 44; exact quiet_same (size_any _ (by omega) _)) | (go_at_call 43; exact quiet_drew (HF.out _)))
  go_wp2
  go_ret
  exact ⟨rfl, HB.out.trans ((Drew.one W _).below _)⟩
set_option maxHeartbeats 800000 in
set_option maxRecDepth 100000 in
theorem l02List_any {l h : Nat} (v : Value) (x : List Nat) (w : World) (hx : Flts w l h v x) :
    Calls Try.prog 47 #[v] w fun e w' => e = .returned (.tuple #[if allFin x then v else .slice none 0 0, .bool (allFin x)]) ∧ Drew w w' := by
  have HF := Lib.hid (l02Finite_any _ x w hx)
  obtain ⟨p, cap, rfl, hc1, hc2, _⟩ := hx.out
  cases hf : allFin x
  all_goals
    rw [hf] at HF
    clear hx
    go_enter Try.func47, Try.ntmps47
    go_wp2_with fail
    refine HF.out.mono ?_
    rintro e w2 ⟨rfl, hd2⟩
    go_wp2
    go_ret2
    exact ⟨rfl, hd2⟩
set_option maxHeartbeats 400000 in
set_option maxRecDepth 100000 in
theorem l02Above_any (b : Nat) (w : World) :
    Calls Try.prog 37 #[.float .f32 b] w fun e w' => e = .returned (.bool (aboveF b)) ∧ Drew w w' := by
  cases hf : finF b
  · have HR := Lib.hid (show aboveF b = false by rw [aboveF, hf]; rfl)
    go_enter Try.func37, Try.ntmps37
    go_wp2_with (go_at_call 38; refine (l01Finite_any _ _).mono ?_; rintro e w' ⟨rfl, m, rfl⟩; rw [hf])
    go_ret
    exact ⟨ret_bool HR.out.symm, Drew.one w m⟩
  · have hg : (FloatKind.f32.format.order b 0 == some .gt) = aboveF b := by rw [aboveF, hf]; rfl
    go_enter Try.func37, Try.ntmps37
    go_wp2_with (go_at_call 38; refine (l01Finite_any _ _).mono ?_; rintro e w' ⟨rfl, m, rfl⟩; rw [hf])
    go_ret
    exact ⟨rfl, Drew.one w _⟩
end Go.Proofs.Ytocngcpdpeflnaa
