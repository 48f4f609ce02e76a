/-
  Contracts of MostTrue, in the reference and in the program.
-/
import Derived.Test.YtcpbgjnijhcpkaaFirstI
namespace Go.Proofs.Ytcpbgjnijhcpkaa
open Go.RowKit
set_option linter.unusedVariables false
set_option maxRecDepth 100000

/-- the most clauses that hold by the values told so far, and the number of the first values by which they do -/
def bestN (L : Nat) (cs : List (List Int)) : Nat → Int × Nat
  | 0 => (-1, 0)
  | n + 1 => if (bestN L cs n).1 < (heldN (valuesN L n) cs : Int) then ((heldN (valuesN L n) cs : Int), n) else bestN L cs n
theorem bestN_bound (L : Nat) (cs : List (List Int)) (n : Nat) : -1 ≤ (bestN L cs n).1 ∧ (bestN L cs n).1 ≤ cs.length ∧ (bestN L cs n).2 ≤ n := by
  induction n with
  | zero => simp [bestN]
  | succ n ih =>
    rw [bestN]
    have := heldN_le (valuesN L n) cs
    split
    · simp only; omega
    · omega
theorem bestN_pos (L : Nat) (cs : List (List Int)) (n : Nat) : 0 ≤ (bestN L cs (n + 1)).1 := by
  rw [bestN]
  have := (bestN_bound L cs n).1
  split
  · simp only; omega
  · omega
def mostTrue (f : FormD) : Int × List Bool × Bool :=
  if validForm f then ((bestN f.letters.toNat f.clauses (2 ^ f.letters.toNat)).1, valuesN f.letters.toNat (bestN f.letters.toNat f.clauses (2 ^ f.letters.toNat)).2, true) else (0, [], false)
theorem mostTrue_valid {f : FormD} {L : Nat} (hv : validForm f = true) (hL : f.letters = (L : Int)) : mostTrue f = ((bestN L f.clauses (2 ^ L)).1, valuesN L (bestN L f.clauses (2 ^ L)).2, true) := by
  unfold mostTrue; rw [if_pos hv, hL, Int.toNat_natCast]
set_option maxHeartbeats 800000 in
set_option maxRecDepth 100000 in
theorem mostClosure_any {l h lo : Nat} (p q r L n : Nat) (Lz : Int) (u v old : Value) (M : Int) (cs : List (List Int)) (w : World) (hb : BoxF w p Lz u) (hq : OneC w q 3 (.int .i64 M)) (hr : OneC w r 40 old) (hu : Intss w l h u cs) (hl : LitsAll L cs) (hn : cs.length ≤ 1048576) (hL : L ≤ 10) (hL1 : 1 ≤ L)
    (hv : OwnB w lo w.heap.size v (valuesN L n)) (hqr : q ≠ r) :
    Calls Try.prog 76 #[v, .pointer (some ⟨p, 0, none⟩), .pointer (some ⟨q, 0, none⟩), .pointer (some ⟨r, 0, none⟩)] w fun e w' => e = .returned (.bool true) ∧
      ((M < (heldN (valuesN L n) cs : Int) ∧ w' = (w.setCell ⟨q, 0, none⟩ (.int .i64 (heldN (valuesN L n) cs))).setCell ⟨r, 0, none⟩ v) ∨ (¬ M < (heldN (valuesN L n) cs : Int) ∧ w' = w)) := by
  obtain ⟨g, gc, rfl⟩ := valuesN_slice hv hL1
  have HU := Lib.hid hu
  have HVB := Lib.hid hv.rd
  have hlen := valuesN_len L n
  have HL : Hid (LitsAll (valuesN L n).length cs) := by rw [hlen]; exact hl
  have Hlen := Lib.hid hlen
  have k1 := hb.c1
  have k2 := hq.cell
  have f2 := hq.free
  have k3 := hr.cell
  have f3 := hr.free
  have hbd := heldN_le (valuesN L n) cs
  clear hu hv hl hlen
  have HH := Lib.hid (held_any u (.slice (some ⟨g, 0, none⟩) L gc) cs (valuesN L n) w HU.out HVB.out HL.out (by rw [Hlen.out]; omega) hn)
  generalize heldN (valuesN L n) cs = K at *
  by_cases hlt : M < (K : Int)
  · go_enter Try.func76, Try.ntmps76
    go_wp2_with fail
    refine HH.out.mono ?_
    rintro e w' ⟨rfl, rfl⟩
    go_wp2
    go_ret
    exact ⟨rfl, .inl rfl⟩
  · go_enter Try.func76, Try.ntmps76
    go_wp2_with fail
    refine HH.out.mono ?_
    rintro e w' ⟨rfl, rfl⟩
    go_wp2
    go_ret
    first | exact ⟨rfl, .inr rfl⟩ | exact ⟨rfl, .inr ⟨by omega, rfl⟩⟩
structure MostInv (w0 : World) (p q r L : Nat) (Lz : Int) (u : Value) (cs : List (List Int)) (n : Nat) (wr : World) : Prop where
  hb : BoxF wr p Lz u
  hq : OneC wr q 3 (.int .i64 (bestN L cs n).1)
  hr : ∃ v, OneC wr r 40 v ∧ (0 < n → OwnB wr (r + 1) wr.heap.size v (valuesN L (bestN L cs n).2))
  bel : Below q w0 wr
set_option maxHeartbeats 1600000 in
set_option maxRecDepth 100000 in
theorem implMostTrue_any (w : World) {l h : Nat} (v : Value) (f : FormD) (hv : FormR w l h v f) (hh : h ≤ w.heap.size) (hz : SmallII f.clauses) :
    Calls Try.prog 22 #[v] w fun e w' => ∃ r, e = .returned (.tuple #[.int .i64 (mostTrue f).1, r, .bool (mostTrue f).2.2]) ∧ OwnB w' w.heap.size w'.heap.size r (mostTrue f).2.1 ∧ Below w.heap.size w w' := by
  obtain ⟨u, rfl, hu⟩ := hv.ex
  obtain ⟨W, hW⟩ : ∃ W, W = w.alloc (.cells #[.int .i64 f.letters, u] 26) := ⟨_, rfl⟩
  have hBW : Below w.heap.size w W := by rw [hW]; exact alloc_below _ _
  have hsW : W.heap.size = w.heap.size + 1 := by rw [hW]; simp
  have hbx : BoxF W w.heap.size f.letters u := by rw [hW]; exact BoxF.new _ _ _ _
  have HU := Lib.hid (hu.below hBW hh)
  have HF := Lib.hid (hv.below hBW hh)
  have HB := Lib.hid hbx
  have hcl : f.clauses.length ≤ 1048576 := hz.1
  clear hbx hu hv
  go_enter Try.func22, Try.ntmps22
  go_wp2_with fail
  rw [← hW]
  clear hW
  refine (implValidForm_any W _ _ HF.out (by omega) hz).mono ?_
  rintro e w2 ⟨rfl, hb2⟩
  have hs2 := hb2.size
  have k0 := (HB.out.below hb2 HB.out.lt).c0
  have k1 := (HB.out.below hb2 HB.out.lt).c1
  cases hval : validForm f
  · have HE := Lib.hid (show mostTrue f = (0, [], false) by simp [mostTrue, hval])
    go_wp2
    go_ret3
    exact ⟨_, by rw [HE.out]; rfl, by rw [HE.out]; exact OwnB.nil _ _ _ (Nat.le_refl _), hBW.trans (hb2.mono hBW.size)⟩
  · obtain ⟨L, hL, hL1, hL2⟩ := lettersN hval
    have HLA := Lib.hid (litsAll_of_valid hL hval)
    have HE := Lib.hid (mostTrue_valid hval hL)
    obtain ⟨W3, hW3⟩ : ∃ W, W = w2.alloc (.cells #[.int .i64 (-1)] 3) := ⟨_, rfl⟩
    obtain ⟨W4, hW4⟩ : ∃ W, W = W3.alloc (.cells #[.slice none 0 0] 40) := ⟨_, rfl⟩
    have hs3 : W3.heap.size = w2.heap.size + 1 := by rw [hW3]; simp
    have hs4 : W4.heap.size = w2.heap.size + 2 := by rw [hW4]; simp [hs3]
    have hb3 : Below w2.heap.size w2 W3 := by rw [hW3]; exact alloc_below _ _
    have hb4 : Below W3.heap.size W3 W4 := by rw [hW4]; exact alloc_below _ _
    have hb24 : Below w2.heap.size w2 W4 := hb3.trans (hb4.mono (by omega))
    have oc3 : OneC W3 w2.heap.size 3 (.int .i64 (-1)) := by rw [hW3]; exact OneC.new _ _ _
    have oc4 : OneC W4 w2.heap.size 3 (.int .i64 (-1)) := oc3.below hb4 oc3.lt
    have ob4 : OneC W4 (w2.heap.size + 1) 40 (.slice none 0 0) := by rw [hW4, ← hs3]; exact OneC.new _ _ _
    have hbx4 := (HB.out.below hb2 HB.out.lt).below hb24 (HB.out.below hb2 HB.out.lt).lt
    have HBX4 := Lib.hid hbx4
    have HU4 := Lib.hid ((HU.out.below hb2 (by omega)).below hb24 (by omega))
    have hh4 : Hid (W.heap.size ≤ w2.heap.size) := hs2
    have q0 := hbx4.c0
    rw [hL] at q0
    rw [hW4, hW3] at q0
    clear hval oc3 hbx4
    have kk := HBX4.out.c0
    go_wp2_with fail
    rw [← hW3, ← hW4]
    clear q0 kk hW3 hW4
    refine (eachValues_any L hL2 76 (fun _ _ => by kernel_rfl) _ W4 (MostInv W4 w.heap.size w2.heap.size (w2.heap.size + 1) L f.letters u f.clauses) (MostInv W4 w.heap.size w2.heap.size (w2.heap.size + 1) L f.letters u f.clauses (2 ^ L)) ⟨HBX4.out, oc4, ⟨_, ob4, fun h => absurd h (by omega)⟩, Below.refl _ _⟩ ?_ ?_ ?_).mono ?_
    · rintro n wr wr' hs ⟨i1, i2, ⟨vv, i3, i4⟩, i5⟩ hb
      exact ⟨i1.below hb i1.lt, i2.below hb i2.lt, ⟨vv, i3.below hb i3.lt, fun h => ((i4 h).below hb (Nat.le_refl _)).mono (Nat.le_refl _) hb.size (Nat.le_refl _)⟩, i5.trans (hb.mono (by have := i2.lt; omega))⟩
    · rintro n wr vv lo hlt hlo ⟨i1, i2, ⟨old, i3, i4⟩, i5⟩ hv
      have hsz := i5.size
      refine (mostClosure_any w.heap.size w2.heap.size (w2.heap.size + 1) L n f.letters u vv old _ f.clauses wr i1 i2 i3 (HU4.out.below i5 (by have := hh4.out; omega)) HLA.out hcl hL2 hL1 hv (by omega)).mono ?_
      rintro e w' ⟨rfl, ⟨hq, rfl⟩ | ⟨hq, rfl⟩⟩
      · have hs5 := setAt_same wr w2.heap.size (.int .i64 (heldN (valuesN L n) f.clauses))
        have ha := i2.set (.int .i64 (heldN (valuesN L n) f.clauses))
        have hb := i3.same hs5 (.inr (Nat.le_refl _))
        have hs6 := setAt_same (wr.setCell ⟨w2.heap.size, 0, none⟩ (.int .i64 (heldN (valuesN L n) f.clauses))) (w2.heap.size + 1) vv
        have hz5 := hs5.size
        have hz6 := hs6.size
        have e : bestN L f.clauses (n + 1) = ((heldN (valuesN L n) f.clauses : Int), n) := by rw [bestN, if_pos hq]
        refine ⟨by omega, .inl ⟨rfl, ((i1.same hs5 (by have := hh4.out; omega)).same hs6 (by have := hh4.out; omega)), by rw [e]; exact ha.same hs6 (by omega), ⟨vv, hb.set vv, fun _ => ?_⟩, ?_⟩⟩
        · rw [e]
          exact ((hv.same hs5 (.inr (by omega))).same hs6 (.inr (by omega))).mono (by omega) (by omega) (Nat.le_refl _)
        · exact (i5.trans (hs5.below (Nat.le_refl _) (by have := i2.lt; omega))).trans (hs6.below (by omega) (by have := i2.lt; omega))
      · have e : bestN L f.clauses (n + 1) = bestN L f.clauses n := by rw [bestN, if_neg hq]
        have hn : 0 < n := by
          rcases Nat.eq_zero_or_pos n with h0 | h0
          · subst h0
            exact absurd (show (bestN L f.clauses 0).1 < (heldN (valuesN L 0) f.clauses : Int) by simp only [bestN]; omega) hq
          · exact h0
        exact ⟨Nat.le_refl _, .inl ⟨rfl, i1, by rw [e]; exact i2, ⟨old, i3, fun _ => by rw [e]; exact i4 hn⟩, i5⟩⟩
    · rintro wr _ hi
      exact hi
    · rintro e w5 ⟨rfl, hs5, i1, i2, ⟨vv, i3, i4⟩, i5⟩
      have hp : 0 < 2 ^ L := Nat.pow_pos (by decide)
      have ho := i4 hp
      obtain ⟨g, gc, rfl⟩ := valuesN_slice ho hL1
      have HO := Lib.hid ho
      have c2 := i2.cell
      have c3 := i3.cell
      clear ho i4
      go_wp2_with fail
      go_quiet (fail)
      go_wp2
      go_ret3
      exact ⟨_, by rw [HE.out]; rfl, by rw [HE.out]; exact (HO.out.mono (by omega) (Nat.le_refl _) (Nat.le_refl _)).drew (Drew.one _ _), (hBW.trans ((hb2.trans ((hb24.trans i5).mono hs2)).mono hBW.size)).trans ((Drew.one _ _).below _)⟩
end Go.Proofs.Ytcpbgjnijhcpkaa
