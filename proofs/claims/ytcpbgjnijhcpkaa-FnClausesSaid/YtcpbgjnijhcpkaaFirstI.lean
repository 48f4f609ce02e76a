/-
  Contract of FirstModel in the program.
-/
import Derived.Test.YtcpbgjnijhcpkaaFirst
import Derived.Lib.SliceRun
import Derived.WalkSpells
namespace Go.Proofs.Ytcpbgjnijhcpkaa
open Go.RowKit
set_option linter.unusedVariables false
set_option maxRecDepth 100000

theorem valuesN_slice {w : World} {lo hi L n : Nat} {v : Value} (h : OwnB w lo hi v (valuesN L n)) (hL : 1 ≤ L) : ∃ g cap, v = .slice (some ⟨g, 0, none⟩) L cap := by
  rcases h.rowOf with ⟨_, h0⟩ | ⟨g, cap, e, _⟩
  · have := valuesN_len L n; rw [h0] at this; simp at this; omega
  · exact ⟨g, cap, by rw [e, valuesN_len]⟩
set_option maxHeartbeats 800000 in
set_option maxRecDepth 100000 in
theorem firstClosure_any {l h lo : Nat} (p q L n : Nat) (u v : Value) (cs : List (List Int)) (w : World) (hp : OneC w p 24 u) (hq : OneC w q 40 (.slice none 0 0)) (hu : Intss w l h u cs) (hl : LitsAll L cs) (hn : cs.length ≤ 1048576) (hL : L ≤ 10) (hL1 : 1 ≤ L)
    (hv : OwnB w lo w.heap.size v (valuesN L n)) (hpq : p ≠ q) :
    Calls Try.prog 109 #[v, .pointer (some ⟨p, 0, none⟩), .pointer (some ⟨q, 0, none⟩)] w fun e w' =>
      (formTrue (valuesN L n) cs = false ∧ e = .returned (.bool true) ∧ Drew w w') ∨ (formTrue (valuesN L n) cs = true ∧ e = .returned (.bool false) ∧ ∃ w2, Drew w w2 ∧ w' = w2.setCell ⟨q, 0, none⟩ v) := by
  have qT : ∀ (w : World) (a : Option Addr) (n c n' c' : Nat), (binOp .eql 40 (.slice a n c) (.slice none n' c')).run Try.prog w = .ok (.bool a.isNone) w := fun w a n c n' c' => Lib.run_eql_slice_nil w _ _ a n c n' c' Try.underlying40
  obtain ⟨a, cap, V, rfl, hc1, hc2, hV, hd⟩ := hu.out
  obtain ⟨g, gc, rfl⟩ := valuesN_slice hv hL1
  have HU := Lib.hid hu
  have HVB := Lib.hid hv.rd
  have hlen := valuesN_len L n
  have HL : Hid (LitsAll (valuesN L n).length cs) := by rw [hlen]; exact hl
  have Hlen := Lib.hid hlen
  have k0 := hp.cell
  have k1 := hq.cell
  have f1 := hq.free
  have hFT : Hid (formTrue (valuesN L n) cs = ((heldN (valuesN L n) cs : Int) == (cs.length : Int))) := (beq_cast _ _).symm
  clear hu hv hl hlen hV hd
  cases hft : ((heldN (valuesN L n) cs : Int) == (cs.length : Int))
  all_goals
    go_enter Try.func109, Try.ntmps109
    go_wp2_with fail
    go_quiet ((go_at_call 77; exact quiet_same (held_any _ _ _ _ _ (HU.out.drew (Drew.one _ _)) (HVB.out.drewN _) HL.out (by rw [Hlen.out]; omega) hn)))
    try simp only [hft]
    go_wp2
    go_ret
  · exact .inl ⟨by rw [hFT.out, hft], rfl, Drew.one _ _⟩
  · exact .inr ⟨by rw [hFT.out, hft], rfl, _, Drew.one _ _, rfl⟩
structure FstInv (w0 : World) (p q L N : Nat) (u : Value) (cs : List (List Int)) (n : Nat) (wr : World) : Prop where
  hp : OneC wr p 24 u
  hq : OneC wr q 40 (.slice none 0 0)
  left : firstFrom L cs n (N - n) = firstFrom L cs 0 N
  bel : Below w0.heap.size w0 wr
structure FstPost (w0 : World) (q L N : Nat) (cs : List (List Int)) (wr : World) : Prop where
  bel : Below w0.heap.size w0 wr
  res : (firstFrom L cs 0 N = none ∧ OneC wr q 40 (.slice none 0 0)) ∨ ∃ n v, firstFrom L cs 0 N = some n ∧ OneC wr q 40 v ∧ OwnB wr w0.heap.size wr.heap.size v (valuesN L n)
set_option maxHeartbeats 1600000 in
set_option maxRecDepth 100000 in
theorem firstModelOf_any (w : World) {l h : Nat} (L : Nat) (u : Value) (cs : List (List Int)) (hu : Intss w l h u cs) (hh : h ≤ w.heap.size) (hl : LitsAll L cs) (hn : cs.length ≤ 1048576) (hL : L ≤ 10) (hL1 : 1 ≤ L) :
    Calls Try.prog 55 #[.int .i64 L, u] w fun e w' => ∃ r, e = .returned r ∧ Below w.heap.size w w' ∧
      ((firstFrom L cs 0 (2 ^ L) = none ∧ r = .slice none 0 0) ∨ ∃ n, firstFrom L cs 0 (2 ^ L) = some n ∧ OwnB w' w.heap.size w'.heap.size r (valuesN L n)) := by
  obtain ⟨a, cap, V, e, _⟩ := hu.out
  subst e
  obtain ⟨W1, hW1⟩ : ∃ W, W = w.alloc (.cells #[.slice a cs.length cap] 24) := ⟨_, rfl⟩
  have hs1 : W1.heap.size = w.heap.size + 1 := by rw [hW1]; simp
  have hb1 : Below w.heap.size w W1 := by rw [hW1]; exact alloc_below _ _
  have bx1 : OneC W1 w.heap.size 24 (.slice a cs.length cap) := by rw [hW1]; exact OneC.new _ _ _
  obtain ⟨W2, hW2⟩ : ∃ W, W = W1.alloc (.cells #[.slice none 0 0] 40) := ⟨_, rfl⟩
  have hs2 : W2.heap.size = w.heap.size + 2 := by rw [hW2]; simp [hs1]
  have hb2 : Below W1.heap.size W1 W2 := by rw [hW2]; exact alloc_below _ _
  have bx2 : OneC W2 w.heap.size 24 (.slice a cs.length cap) := bx1.below hb2 bx1.lt
  have oc2 : OneC W2 (w.heap.size + 1) 40 (.slice none 0 0) := by rw [hW2, ← hs1]; exact OneC.new _ _ _
  have hbb : Below w.heap.size w W2 := hb1.trans (hb2.mono (by omega))
  have HU := Lib.hid hu
  have HL := Lib.hid hl
  clear hu hl bx1
  go_enter Try.func55, Try.ntmps55
  go_wp2_with fail
  rw [← hW1, ← hW2]
  clear hW1 hW2
  refine (eachValues_any L hL 109 (fun _ _ => by kernel_rfl) _ W2 (FstInv w w.heap.size (w.heap.size + 1) L (2 ^ L) (.slice a cs.length cap) cs) (FstPost w (w.heap.size + 1) L (2 ^ L) cs) ⟨bx2, oc2, rfl, hbb⟩ ?_ ?_ ?_).mono ?_
  · rintro n wr wr' hs ⟨i1, i2, i3, i4⟩ hb
    exact ⟨i1.below hb i1.lt, i2.below hb i2.lt, i3, i4.trans (hb.mono i4.size)⟩
  · rintro n wr v lo hlt hlo ⟨i1, i2, i3, i4⟩ hv
    have hsz := i4.size
    refine (firstClosure_any w.heap.size (w.heap.size + 1) L n _ v cs wr i1 i2 (HU.out.below i4 hh) HL.out hn hL hL1 hv (by omega)).mono ?_
    rintro e w' (⟨hf, rfl, hD⟩ | ⟨hf, rfl, w2, hD, rfl⟩)
    · refine ⟨by rw [hD.heap]; exact Nat.le_refl _, .inl ⟨rfl, i1.drew hD, i2.drew hD, ?_, i4.trans (hD.below _)⟩⟩
      rw [← i3, show 2 ^ L - n = (2 ^ L - (n + 1)) + 1 by omega, firstFrom_step _ _ _ _ hf]
    · have hq := i2.drew hD
      have hsm := setAt_same w2 (w.heap.size + 1) v
      have hD2 : w2.heap.size = wr.heap.size := by rw [hD.heap]
      have hs2' := hsm.size
      have hvs := (hv.drew hD).same hsm (.inr (by omega))
      refine ⟨by omega, .inr ⟨rfl, ⟨(i4.trans (hD.below _)).trans (hsm.below (by omega) (by omega)), .inr ⟨n, v, ?_, hq.set v, hvs.mono (by omega) (by omega) (Nat.le_refl _)⟩⟩⟩⟩
      rw [← i3, show 2 ^ L - n = (2 ^ L - (n + 1)) + 1 by omega, firstFrom_hit _ _ _ _ hf]
  · rintro wr _ ⟨i1, i2, i3, i4⟩
    exact ⟨i4, .inl ⟨by rw [← i3, Nat.sub_self, firstFrom], i2⟩⟩
  · rintro e w3 ⟨rfl, hs3, i1, ⟨hf, hq⟩ | ⟨n, v, hf, hq, ho⟩⟩
    · have c0 := hq.cell
      go_wp2
      go_ret
      exact ⟨_, rfl, i1, .inl ⟨hf, rfl⟩⟩
    · obtain ⟨g, gc, rfl⟩ := valuesN_slice ho hL1
      have c0 := hq.cell
      have HFF := Lib.hid hf
      clear hf
      go_wp2
      go_ret
      exact ⟨_, rfl, i1, .inr ⟨n, HFF.out, ho⟩⟩
set_option maxHeartbeats 1600000 in
set_option maxRecDepth 100000 in
theorem implFirstModel_any (w : World) {l h : Nat} (v : Value) (f : FormD) (hv : FormR w l h v f) (hh : h ≤ w.heap.size) (hz : SmallII f.clauses) :
    Calls Try.prog 20 #[v] w fun e w' => ∃ r, e = .returned (.tuple #[r, .bool (firstModel f).2]) ∧ OwnB w' w.heap.size w'.heap.size r (firstModel f).1 ∧ Below w.heap.size w w' := by
  have qT : ∀ (w : World) (a : Option Addr) (n c n' c' : Nat), (binOp .neq 40 (.slice a n c) (.slice none n' c')).run Try.prog w = .ok (.bool (!a.isNone)) w := fun w a n c n' c' => run_neq_slice_nil_any w _ _ a n c n' c' Try.underlying40
  obtain ⟨u, rfl, hu⟩ := hv.ex
  obtain ⟨W, hW⟩ : ∃ W, W = w.alloc (.cells #[.int .i64 f.letters, u] 26) := ⟨_, rfl⟩
  have hBW : Below w.heap.size w W := by rw [hW]; exact alloc_below _ _
  have hsW : W.heap.size = w.heap.size + 1 := by rw [hW]; simp
  have hbx : BoxF W w.heap.size f.letters u := by rw [hW]; exact BoxF.new _ _ _ _
  have HU := Lib.hid (hu.below hBW hh)
  have HF := Lib.hid (hv.below hBW hh)
  have HB := Lib.hid hbx
  clear hbx hu hv
  go_enter Try.func20, Try.ntmps20
  go_wp2_with fail
  rw [← hW]
  clear hW
  refine (implValidForm_any W _ _ HF.out (by omega) hz).mono ?_
  rintro e w2 ⟨rfl, hb2⟩
  have hs2 := hb2.size
  have k0 := (HB.out.below hb2 HB.out.lt).c0
  have k1 := (HB.out.below hb2 HB.out.lt).c1
  cases hval : validForm f
  · have HE := Lib.hid (show firstModel f = ([], false) by simp [firstModel, hval])
    go_wp2
    go_ret2
    exact ⟨_, by rw [HE.out]; rfl, by rw [HE.out]; exact OwnB.nil _ _ _ (Nat.le_refl _), hBW.trans (hb2.mono hBW.size)⟩
  · obtain ⟨L, hL, hL1, hL2⟩ := lettersN hval
    have HC := Lib.hid (firstModelOf_any w2 L u f.clauses (HU.out.below hb2 (by omega)) (by omega) (litsAll_of_valid hL hval) (by have := hz.1; omega) hL2 hL1)
    have HV := Lib.hid hval
    rw [hL] at k0
    clear hval
    go_wp2_with fail
    refine HC.out.mono ?_
    rintro e w3 ⟨r, rfl, hb3, ⟨hf, rfl⟩ | ⟨n, hf, ho⟩⟩
    · have HE := Lib.hid (firstModel_none HV.out hL hf)
      clear hf
      go_wp2
      go_ret2
      exact ⟨_, by rw [HE.out]; rfl, by rw [HE.out]; exact OwnB.nil _ _ _ (Nat.le_refl _), hBW.trans ((hb2.trans (hb3.mono hs2)).mono hBW.size)⟩
    · have HE := Lib.hid (firstModel_some HV.out hL hf)
      obtain ⟨g, gc, rfl⟩ := valuesN_slice ho hL1
      have HO := Lib.hid ho
      clear hf ho
      go_wp2
      go_ret2
      exact ⟨_, by rw [HE.out]; rfl, by rw [HE.out]; exact HO.out.mono (by omega) (Nat.le_refl _) (Nat.le_refl _), hBW.trans ((hb2.trans (hb3.mono hs2)).mono hBW.size)⟩
end Go.Proofs.Ytcpbgjnijhcpkaa
