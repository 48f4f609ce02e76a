/-
  Contracts of CountModels, in the reference and in the program.
-/
import Derived.Test.YtcpbgjnijhcpkaaModels
namespace Go.Proofs.Ytcpbgjnijhcpkaa
open Go.RowKit
set_option linter.unusedVariables false
set_option maxRecDepth 100000

/-- how many of the first n values are models -/
def countN (L : Nat) (cs : List (List Int)) (n : Nat) : Nat := (List.range n).countP (fun k => formTrue (valuesN L k) cs)
theorem countN_succ (L : Nat) (cs : List (List Int)) (n : Nat) : countN L cs (n + 1) = countN L cs n + (formTrue (valuesN L n) cs).toNat := by
  unfold countN
  rw [List.range_succ, List.countP_append, List.countP_singleton]
  cases formTrue (valuesN L n) cs <;> rfl
theorem countN_le (L : Nat) (cs : List (List Int)) (n : Nat) : countN L cs n ≤ n := by
  have := List.countP_le_length (p := fun k => formTrue (valuesN L k) cs) (l := List.range n)
  rwa [List.length_range] at this
theorem pow_L {L : Nat} (h : L ≤ 10) : 2 ^ L ≤ 1024 := by
  have h1 : 2 ^ L ≤ 2 ^ 10 := Nat.pow_le_pow_right (by decide) h
  omega
def countModels (f : FormD) : Int × Bool := if validForm f then (((countN f.letters.toNat f.clauses (2 ^ f.letters.toNat) : Nat) : Int), true) else (0, false)
set_option maxHeartbeats 800000 in
set_option maxRecDepth 100000 in
theorem countClosure_any {l h lo : Nat} (p q L n m : Nat) (u v : Value) (cs : List (List Int)) (w : World) (hbx : BoxF w p L u) (hq : OneC w q 2 (.int .i64 m)) (hu : Intss w l h u cs) (hh : h ≤ w.heap.size) (hl : LitsAll L cs) (hn : cs.length ≤ 1048576) (hL : L ≤ 10)
    (hv : OwnB w lo w.heap.size v (valuesN L n)) (hm : m ≤ 1024) (hpq : p ≠ q) :
    Calls Try.prog 114 #[v, .pointer (some ⟨p, 0, none⟩), .pointer (some ⟨q, 0, none⟩)] w fun e w' => e = .returned (.bool true) ∧
      ∃ w2, Below w.heap.size w w2 ∧ Same q (q + 1) w2 w' ∧ OneC w' q 2 (.int .i64 ((m + (formTrue (valuesN L n) cs).toNat : Nat))) := by
  have k0 := hbx.c0
  have k1 := hbx.c1
  have HQ := Lib.hid hq
  have hlen := valuesN_len L n
  have HL : Hid (LitsAll (valuesN L n).length cs) := by rw [hlen]; exact hl
  have Hlen := Lib.hid hlen
  clear hq hl hlen
  cases hft : formTrue (valuesN L n) cs
  all_goals
    go_enter Try.func114, Try.ntmps114
    go_wp2_with fail
    refine (holds_any _ _ _ _ _ _ hu hv.rd hh (Nat.le_refl _) HL.out (by rw [Hlen.out]; omega) hn).mono ?_
    rintro e w2 ⟨rfl, hb2⟩
    have hq2 := HQ.out.below hb2 HQ.out.lt
    have c0 := hq2.cell
    have f0 := hq2.free
    have HQ2 := Lib.hid hq2
    rw [hft]
    clear hq2
    go_wp2
    go_ret
  · exact ⟨rfl, w2, hb2, Same.refl _ _ _, HQ2.out⟩
  · refine ⟨rfl, w2, hb2, setAt_same _ _ _, ?_⟩
    have := HQ2.out.set (.int .i64 ((m + 1 : Nat)))
    simpa using this
structure CntInv (w0 : World) (p q L : Nat) (u : Value) (cs : List (List Int)) (n : Nat) (wr : World) : Prop where
  bx : BoxF wr p L u
  oc : OneC wr q 2 (.int .i64 ((countN L cs n : Nat)))
  bel : Below w0.heap.size w0 wr
set_option maxHeartbeats 1600000 in
set_option maxRecDepth 100000 in
theorem implCountOf_any (w : World) {l h : Nat} (L : Nat) (u : Value) (cs : List (List Int)) (hu : Intss w l h u cs) (hh : h ≤ w.heap.size) (hl : LitsAll L cs) (hn : cs.length ≤ 1048576) (hL : L ≤ 10) :
    Calls Try.prog 74 #[.agg #[.int .i64 L, u]] w fun e w' => e = .returned (.int .i64 ((countN L cs (2 ^ L) : Nat))) ∧ Below w.heap.size w w' := by
  obtain ⟨W1, hW1⟩ : ∃ W, W = w.alloc (.cells #[.int .i64 L, u] 26) := ⟨_, rfl⟩
  have hs1 : W1.heap.size = w.heap.size + 1 := by rw [hW1]; simp
  have hb1 : Below w.heap.size w W1 := by rw [hW1]; exact alloc_below _ _
  have bx1 : BoxF W1 w.heap.size L u := by rw [hW1]; exact BoxF.new _ _ _ _
  obtain ⟨W2, hW2⟩ : ∃ W, W = W1.alloc (.cells #[.int .i64 0] 2) := ⟨_, rfl⟩
  have hs2 : W2.heap.size = w.heap.size + 2 := by rw [hW2]; simp [hs1]
  have hb2 : Below W1.heap.size W1 W2 := by rw [hW2]; exact alloc_below _ _
  have bx2 : BoxF W2 w.heap.size L u := bx1.below hb2 bx1.lt
  have oc2 : OneC W2 (w.heap.size + 1) 2 (.int .i64 0) := by rw [hW2, ← hs1]; exact OneC.new _ _ _
  have hbb : Below w.heap.size w W2 := hb1.trans (hb2.mono (by omega))
  have HU := Lib.hid hu
  have HL := Lib.hid hl
  clear hu hl bx1
  go_enter Try.func74, Try.ntmps74
  go_wp2_with fail
  rw [← hW1, ← hW2]
  clear hW1 hW2
  refine (eachValues_any L hL 114 (fun _ _ => by kernel_rfl) _ W2 (CntInv w w.heap.size (w.heap.size + 1) L u cs) (CntInv w w.heap.size (w.heap.size + 1) L u cs (2 ^ L)) ⟨bx2, by simpa [countN] using oc2, hbb⟩ ?_ ?_ ?_).mono ?_
  · rintro n wr wr' hs ⟨i1, i2, i3⟩ hb
    exact ⟨i1.below hb i1.lt, i2.below hb i2.lt, i3.trans (hb.mono i3.size)⟩
  · rintro n wr v lo hlt hlo ⟨i1, i2, i3⟩ hv
    have hp := pow_L hL
    have hc := countN_le L cs n
    refine (countClosure_any w.heap.size (w.heap.size + 1) L n (countN L cs n) u v cs wr i1 i2 (HU.out.below i3 hh) (by have := i3.size; omega) HL.out hn hL hv (by omega) (by omega)).mono ?_
    rintro e w' ⟨rfl, w2, hb, hs, ho⟩
    have h1 := hb.size
    have h2 := hs.size
    refine ⟨by omega, .inl ⟨rfl, (i1.below hb i1.lt).same hs (by omega), by rw [countN_succ]; exact ho, i3.trans ((hb.mono i3.size).trans (hs.below (by omega) (by have := i3.size; omega)))⟩⟩
  · rintro wr _ hi
    exact hi
  · rintro e w3 ⟨rfl, hs3, i1, i2, i3⟩
    have c0 := i2.cell
    go_wp2
    go_ret
    exact ⟨rfl, i3⟩
set_option maxHeartbeats 800000 in
set_option maxRecDepth 100000 in
theorem implCountModels_any (w : World) {l h : Nat} (v : Value) (f : FormD) (hv : FormR w l h v f) (hh : h ≤ w.heap.size) (hz : SmallII f.clauses) :
    Calls Try.prog 21 #[v] w fun e w' => e = .returned (.tuple #[.int .i64 (countModels f).1, .bool (countModels f).2]) ∧ Below w.heap.size w w' := by
  obtain ⟨u, rfl, hu⟩ := hv.ex
  obtain ⟨W, hW⟩ : ∃ W, W = w.alloc (.cells #[.int .i64 f.letters, u] 26) := ⟨_, rfl⟩
  have hBW : Below w.heap.size w W := by rw [hW]; exact alloc_below _ _
  have hsW : W.heap.size = w.heap.size + 1 := by rw [hW]; simp
  have hbx : BoxF W w.heap.size f.letters u := by rw [hW]; exact BoxF.new _ _ _ _
  have HU := Lib.hid (hu.below hBW hh)
  have HF := Lib.hid (hv.below hBW hh)
  have HB := Lib.hid hbx
  clear hbx hu hv
  go_enter Try.func21, Try.ntmps21
  go_wp2_with fail
  rw [← hW]
  clear hW
  refine (implValidForm_any W _ _ HF.out (by omega) hz).mono ?_
  rintro e w2 ⟨rfl, hb2⟩
  have hs2 := hb2.size
  have k0 := (HB.out.below hb2 HB.out.lt).c0
  have k1 := (HB.out.below hb2 HB.out.lt).c1
  cases hval : validForm f
  · go_wp2
    go_ret2
    exact ⟨by simp [countModels, hval], hBW.trans (hb2.mono hBW.size)⟩
  · obtain ⟨L, hL, hL1, hL2⟩ := lettersN hval
    have HC := Lib.hid (implCountOf_any w2 L u f.clauses (HU.out.below hb2 (by omega)) (by omega) (litsAll_of_valid hL hval) (by have := hz.1; omega) hL2)
    have HE := Lib.hid (show countModels f = (((countN L f.clauses (2 ^ L) : Nat) : Int), true) by simp [countModels, hval, hL])
    rw [hL] at k0
    clear hval
    go_wp2_with fail
    refine HC.out.mono ?_
    rintro e w3 ⟨rfl, hb3⟩
    go_wp2
    go_ret2
    exact ⟨by rw [HE.out]; rfl, hBW.trans ((hb2.trans (hb3.mono hs2)).mono hBW.size)⟩
set_option maxHeartbeats 800000 in
set_option maxRecDepth 100000 in
theorem l05Count_any {l h : Nat} (p L : Nat) (v : Value) (cs : List (List Int)) (w : World) (hp0 : w.cell? ⟨p, 0, none⟩ = some (.int .i64 L)) (hp1 : w.cell? ⟨p, 1, none⟩ = some v) (hv : Intss w l h v cs) (hl : LitsAll L cs) (hL : L ≤ 10) (hz : cs.length ≤ 1048576) :
    Calls Try.prog 52 #[.pointer (some ⟨p, 0, none⟩)] w fun e w' => e = .returned (.int .i64 ((countN L cs (2 ^ L) : Nat))) ∧ Drew w w' := by
  obtain ⟨N, hN⟩ : ∃ N : Nat, N = 2 ^ L := ⟨_, rfl⟩
  have hsh := (shl_one L hL).1
  have hN2 := (shl_one L hL).2
  rw [← hN] at hsh hN2
  have HN := Lib.hid hN
  have HV := Lib.hid hv
  have HL := Lib.hid hl
  have HP1 := Lib.hid hp1
  clear hN hv hl hp1
  go_enter Try.func52, Try.ntmps52
  go_wp2_with fail
  go_loopw [3, 4] (fun c i wr => ∃ n m : Nat, n ≤ N ∧ i = .int .i64 n ∧ c = .int .i64 m ∧ m ≤ n ∧ Hid (m = countN L cs n) ∧ Drew w wr) (fun _ i _ => N - (intOf i).toNat)
  case atStart => exact ⟨0, 0, Nat.zero_le _, rfl, rfl, Nat.le_refl _, Lib.hid rfl, Drew.refl _⟩
  case round =>
    obtain ⟨n, m, hn, rfl, rfl, hm, H, hD⟩ := hrel
    have hp0' := hp0
    rw [← hD.cell] at hp0'
    by_cases hlt : n < N
    · cases hft : formTrue (valuesN L n) cs
      all_goals
        go_wp2_with fail
        refine (l05Model_any p L n _ cs wr hp0' (by rw [hD.cell]; exact HP1.out) (HV.out.drew hD) HL.out hL (by omega) hz).mono ?_
        rintro e w2 ⟨rfl, hD2⟩
        rw [hft]
        go_wp2
        go_roundw
      · exact ⟨n + 1, m, by omega, by go_num, rfl, by omega, Lib.hid (by rw [countN_succ, hft, H.out]; rfl), hD.trans hD2⟩
      · simp [intOf]; omega
      · exact ⟨n + 1, m + 1, by omega, by go_num, by go_num, by omega, Lib.hid (by rw [countN_succ, hft, H.out]; rfl), hD.trans hD2⟩
      · simp [intOf]; omega
    · go_wp2
      go_ret
      obtain rfl : n = N := by omega
      exact ⟨ret_int (by rw [H.out, HN.out]), hD⟩
set_option maxHeartbeats 800000 in
set_option maxRecDepth 100000 in
theorem specCountModels_any (w : World) {l h : Nat} (v : Value) (f : FormD) (hv : FormR w l h v f) (hh : h ≤ w.heap.size) (hz : SmallII f.clauses) :
    Calls Try.prog 9 #[v] w fun e w' => e = .returned (.tuple #[.int .i64 (countModels f).1, .bool (countModels f).2]) ∧ Below w.heap.size w w' := by
  obtain ⟨u, rfl, hu⟩ := hv.ex
  have kL := hv.rng
  obtain ⟨W, hW⟩ : ∃ W, W = w.alloc (.cells #[.int .i64 f.letters, u] 26) := ⟨_, rfl⟩
  have hBW : Below w.heap.size w W := by rw [hW]; exact alloc_below _ _
  have hsW : W.heap.size = w.heap.size + 1 := by rw [hW]; simp
  have hbx : BoxF W w.heap.size f.letters u := by rw [hW]; exact BoxF.new _ _ _ _
  have HU := Lib.hid (hu.below hBW hh)
  have HB := Lib.hid hbx
  clear hbx hu hv
  go_enter Try.func9, Try.ntmps9
  go_wp2_with fail
  rw [← hW]
  clear hW
  refine (l05Is_any W _ _ f HB.out.c0 HB.out.c1 (by omega) kL HU.out (by omega)).mono ?_
  rintro e w2 ⟨rfl, hb2⟩
  have hs2 := hb2.size
  cases hval : validForm f
  · go_wp2
    go_ret2
    exact ⟨by simp [countModels, hval], hBW.trans (hb2.mono hBW.size)⟩
  · obtain ⟨L, hL, hL1, hL2⟩ := lettersN hval
    have hB2 := HB.out.below hb2 HB.out.lt
    rw [hL] at hB2
    have HC := Lib.hid (l05Count_any w.heap.size L u f.clauses w2 hB2.c0 hB2.c1 (HU.out.below hb2 (by omega)) (litsAll_of_valid hL hval) hL2 (by have := hz.1; omega))
    have HE := Lib.hid (show countModels f = (((countN L f.clauses (2 ^ L) : Nat) : Int), true) by simp [countModels, hval, hL])
    clear hval hB2
    go_wp2_with fail
    refine HC.out.mono ?_
    rintro e w3 ⟨rfl, hD3⟩
    go_wp2
    go_ret2
    exact ⟨by rw [HE.out]; rfl, hBW.trans ((hb2.trans (hD3.below _)).mono hBW.size)⟩
end Go.Proofs.Ytcpbgjnijhcpkaa
