/-
  ProveNo: contracts in the reference and in the program.
-/
import Derived.Test.YtcpbgjnijhcpkaaApp
import Derived.Test.YtcpbgjnijhcpkaaBool
import Derived.Test.YtcpbgjnijhcpkaaModels
import Derived.OwnWalk
import Derived.Lib.SliceRun
import Derived.WalkSpells
import Derived.Test.YtcpbgjnijhcpkaaRef
import Derived.Test.YtcpbgjnijhcpkaaProveS
import Derived.Test.YtcpbgjnijhcpkaaProveI
namespace Go.Proofs.Ytcpbgjnijhcpkaa
open Go.RowKit
set_option linter.unusedVariables false
set_option maxRecDepth 100000

theorem OwnB.alloc {w : World} {lo hi : Nat} {v : Value} {zs : List Bool} (h : OwnB w lo hi v zs) (o : Obj) : OwnB (w.alloc o) lo hi v zs :=
  h.keep (by simp) fun k _ _ hk => Below.heap_alloc _ _ _ hk
theorem OwnB.ge {w : World} {lo hi : Nat} {v : Value} {zs : List Bool} (h : OwnB w lo hi v zs) : ∀ k, v.ownBlock = some k → lo ≤ k := fun k e => (h.own.row.lt k e).1
theorem bools_oneCell (ys : List Bool) : ∀ u ∈ ys.map Value.bool, u.oneCell' = true := by
  intro u hu
  obtain ⟨b, _, rfl⟩ := List.mem_map.1 hu
  rfl
theorem emptySliceB (w : World) : OwnB (w.alloc (.cells #[] 4)) w.heap.size (w.heap.size + 1) (.slice (some ⟨w.heap.size, 0, none⟩) 0 0) [] :=
  ⟨⟨World.ownsRow_lit w #[] 0 (Nat.le_refl _) (by simp [maxLen]) (by simp), fun k e => by simp [Value.ownBlock] at e; omega, by simp⟩, by simp⟩
/-- 'append' of Bools that lie in memory to a slice of the call's own. -/
theorem wpList_appB {w : World} {ops : Array Oper} {rest : List Oper} {o : Oper} {a : Act} {Q : Exit → Act → World → Prop} (hgd : o.guard = none) (s x : Operand)
    (ho : o.op = .call { callee := .builtin .append, args := #[s, x], argTypes := #[40, 40] })
    {lo hi : Nat} (v : Value) (xs : List Bool) (hs : a.eval s = v) (hv : OwnB w lo hi v xs) (ys : List Bool) (ad : Addr) (c : Nat) (hx : a.eval x = .slice (some ad) ys.length c)
    (h0 : 0 < ys.length) (hc : ∀ j, j < ys.length → w.cell? (ad.add j) = some (.bool (ys.getD j false))) (hl : xs.length + ys.length ≤ 1099511627776) (hlo : lo ≤ w.heap.size)
    (h : ∀ v' w', OwnB w' lo w'.heap.size v' (xs ++ ys) → Same lo hi w w' → w.heap.size ≤ w'.heap.size → (v'.ownBlock = v.ownBlock ∨ v'.ownBlock = some w.heap.size) → wpList Try.prog ops Q rest (a.put o.dst v') w') :
    wpList Try.prog ops Q (o :: rest) a w := by
  refine wpList_plain hgd fun K hK => ?_
  obtain ⟨i0, hi0, hz0, hz1, hz2⟩ := info_parts info_bool
  have hmL : xs.length + ys.length ≤ maxLen := by unfold maxLen; omega
  have hn : ∀ j u, (ys.map (Value.bool))[j]? = some u → w.cell? (ad.add j) = some u := by
    intro j u hu
    obtain ⟨hj, rfl⟩ := List.getElem?_eq_some_iff.1 hu
    simp only [List.length_map] at hj
    rw [hc j hj]; simp [hj]
  have h1 := bools_oneCell ys
  have hlen : (ys.map (Value.bool)).length = ys.length * 1 := by simp
  have hrow := hv.own.row
  obtain ⟨v', w', hrun, h2, h3, h4⟩ := run_append_own (P := Try.prog) w lo 40 o.type 4 i0 (.bool false) 1 1 Try.underlying40 hi0 hz0 hz1 hz2 rfl (by decide) v xs.length _ hrow ad ys.length c _ hlen hn h1 hmL (by omega) hlo
  have hblk := append_block lo 40 o.type 4 i0 (.bool false) 1 1 Try.underlying40 hi0 hz0 hz1 hz2 rfl (by decide) v xs.length _ hrow ad ys.length c _ hlen hn h1 hmL (by omega) h0 hrun
  unfold Oper.wp
  simp only [execOp, ho, resolve, invoke, builtin, Sem.run_bind, Sem.run_pure, Result.andThen_ok, List.map_toArray, List.map_cons, List.map_nil, hs, hx, hrun]
  have hsz := hv.own.hsz
  have hsame : Same lo hi w w' := ⟨h3.os, h3.tape, h3.output, h3.size, fun k hk hn' => h3.block k hk (fun e => hn' ⟨hv.ge k e.symm, hv.own.blk k e.symm⟩)⟩
  refine hK _ _ (h v' w' ⟨⟨?_, fun k e => (h2.lt k e).2, Nat.le_refl _⟩, by rw [List.length_append]; exact hl⟩ hsame h3.size hblk)
  rw [List.length_append, List.map_append]; exact h2

/-- .. of one Bool, that lies alone in a new block. -/
theorem wpList_app1B {w : World} {ops : Array Oper} {rest : List Oper} {o : Oper} {a : Act} {Q : Exit → Act → World → Prop} (hgd : o.guard = none) (s x : Operand)
    (ho : o.op = .call { callee := .builtin .append, args := #[s, x], argTypes := #[40, 40] })
    {lo hi : Nat} (v : Value) (xs : List Bool) (hs : a.eval s = v) (y : Bool) (e : TypeId) (hv : OwnB w lo hi v xs) (hx : a.eval x = .slice (some ⟨w.heap.size, 0, none⟩) 1 1)
    (hl : xs.length + 1 ≤ 1099511627776) (hlo : lo ≤ w.heap.size)
    (h : ∀ v' w', OwnB w' lo w'.heap.size v' (xs ++ [y]) → Same lo hi w w' → w.heap.size + 1 ≤ w'.heap.size → (v'.ownBlock = v.ownBlock ∨ v'.ownBlock = some (w.heap.size + 1)) → wpList Try.prog ops Q rest (a.put o.dst v') w') :
    wpList Try.prog ops Q (o :: rest) a (w.alloc (.cells #[.bool y] e)) := by
  refine wpList_appB hgd s x ho v xs hs (hv.alloc _) [y] ⟨w.heap.size, 0, none⟩ 1 hx (by simp) ?_ (by simpa using hl) (by simp; omega) ?_
  · intro j hj
    have hj0 : j = 0 := by simp at hj; exact hj
    subst hj0
    rw [add_zero_plain]
    exact cell_new1 _ _ _
  · intro v' w' h1 h2 h3 h4
    simp only [World.size_alloc] at h3 h4
    exact h v' w' h1 (((Same.refl lo hi w).alloc _).trans h2) h3 h4
end Go.Proofs.Ytcpbgjnijhcpkaa

namespace Go.Proofs.Ytcpbgjnijhcpkaa
open Go.RowKit
set_option linter.unusedVariables false
set_option maxRecDepth 100000

/-- how many of the first n values are models -/
def countN (L : Nat) (cs : List (List Int)) (n : Nat) : Nat := (List.range n).countP (fun k => formTrue (valuesN L k) cs)
theorem countN_succ (L : Nat) (cs : List (List Int)) (n : Nat) : countN L cs (n + 1) = countN L cs n + (formTrue (valuesN L n) cs).toNat := by
  unfold countN
  rw [List.range_succ, List.countP_append, List.countP_singleton]
  cases formTrue (valuesN L n) cs <;> rfl
theorem countN_le (L : Nat) (cs : List (List Int)) (n : Nat) : countN L cs n ≤ n := by
  have := List.countP_le_length (p := fun k => formTrue (valuesN L k) cs) (l := List.range n)
  rwa [List.length_range] at this
theorem pow_L {L : Nat} (h : L ≤ 10) : 2 ^ L ≤ 1024 := by
  have h1 : 2 ^ L ≤ 2 ^ 10 := Nat.pow_le_pow_right (by decide) h
  omega
def countModels (f : FormD) : Int × Bool := if validForm f then (((countN f.letters.toNat f.clauses (2 ^ f.letters.toNat) : Nat) : Int), true) else (0, false)
set_option maxHeartbeats 800000 in
set_option maxRecDepth 100000 in
theorem countClosure_any {l h lo : Nat} (p q L n m : Nat) (u v : Value) (cs : List (List Int)) (w : World) (hbx : BoxF w p L u) (hq : OneC w q 2 (.int .i64 m)) (hu : Intss w l h u cs) (hh : h ≤ w.heap.size) (hl : LitsAll L cs) (hn : cs.length ≤ 1048576) (hL : L ≤ 10)
    (hv : OwnB w lo w.heap.size v (valuesN L n)) (hm : m ≤ 1024) (hpq : p ≠ q) :
    Calls Try.prog 114 #[v, .pointer (some ⟨p, 0, none⟩), .pointer (some ⟨q, 0, none⟩)] w fun e w' => e = .returned (.bool true) ∧
      ∃ w2, Below w.heap.size w w2 ∧ Same q (q + 1) w2 w' ∧ OneC w' q 2 (.int .i64 ((m + (formTrue (valuesN L n) cs).toNat : Nat))) := by
  have k0 := hbx.c0
  have k1 := hbx.c1
  have HQ := Lib.hid hq
  have hlen := valuesN_len L n
  have HL : Hid (LitsAll (valuesN L n).length cs) := by rw [hlen]; exact hl
  have Hlen := Lib.hid hlen
  clear hq hl hlen
  cases hft : formTrue (valuesN L n) cs
  all_goals
    go_enter Try.func114, Try.ntmps114
    go_wp2_with fail
    refine (holds_any _ _ _ _ _ _ hu hv.rd hh (Nat.le_refl _) HL.out (by rw [Hlen.out]; omega) hn).mono ?_
    rintro e w2 ⟨rfl, hb2⟩
    have hq2 := HQ.out.below hb2 HQ.out.lt
    have c0 := hq2.cell
    have f0 := hq2.free
    have HQ2 := Lib.hid hq2
    rw [hft]
    clear hq2
    go_wp2
    go_ret
  · exact ⟨rfl, w2, hb2, Same.refl _ _ _, HQ2.out⟩
  · refine ⟨rfl, w2, hb2, setAt_same _ _ _, ?_⟩
    have := HQ2.out.set (.int .i64 ((m + 1 : Nat)))
    simpa using this
structure CntInv (w0 : World) (p q L : Nat) (u : Value) (cs : List (List Int)) (n : Nat) (wr : World) : Prop where
  bx : BoxF wr p L u
  oc : OneC wr q 2 (.int .i64 ((countN L cs n : Nat)))
  bel : Below w0.heap.size w0 wr
set_option maxHeartbeats 1600000 in
set_option maxRecDepth 100000 in
theorem implCountOf_any (w : World) {l h : Nat} (L : Nat) (u : Value) (cs : List (List Int)) (hu : Intss w l h u cs) (hh : h ≤ w.heap.size) (hl : LitsAll L cs) (hn : cs.length ≤ 1048576) (hL : L ≤ 10) :
    Calls Try.prog 74 #[.agg #[.int .i64 L, u]] w fun e w' => e = .returned (.int .i64 ((countN L cs (2 ^ L) : Nat))) ∧ Below w.heap.size w w' := by
  obtain ⟨W1, hW1⟩ : ∃ W, W = w.alloc (.cells #[.int .i64 L, u] 26) := ⟨_, rfl⟩
  have hs1 : W1.heap.size = w.heap.size + 1 := by rw [hW1]; simp
  have hb1 : Below w.heap.size w W1 := by rw [hW1]; exact alloc_below _ _
  have bx1 : BoxF W1 w.heap.size L u := by rw [hW1]; exact BoxF.new _ _ _ _
  obtain ⟨W2, hW2⟩ : ∃ W, W = W1.alloc (.cells #[.int .i64 0] 2) := ⟨_, rfl⟩
  have hs2 : W2.heap.size = w.heap.size + 2 := by rw [hW2]; simp [hs1]
  have hb2 : Below W1.heap.size W1 W2 := by rw [hW2]; exact alloc_below _ _
  have bx2 : BoxF W2 w.heap.size L u := bx1.below hb2 bx1.lt
  have oc2 : OneC W2 (w.heap.size + 1) 2 (.int .i64 0) := by rw [hW2, ← hs1]; exact OneC.new _ _ _
  have hbb : Below w.heap.size w W2 := hb1.trans (hb2.mono (by omega))
  have HU := Lib.hid hu
  have HL := Lib.hid hl
  clear hu hl bx1
  go_enter Try.func74, Try.ntmps74
  go_wp2_with fail
  rw [← hW1, ← hW2]
  clear hW1 hW2
  refine (eachValues_any L hL 114 (fun _ _ => by kernel_rfl) _ W2 (CntInv w w.heap.size (w.heap.size + 1) L u cs) (CntInv w w.heap.size (w.heap.size + 1) L u cs (2 ^ L)) ⟨bx2, by simpa [countN] using oc2, hbb⟩ ?_ ?_ ?_).mono ?_
  · rintro n wr wr' hs ⟨i1, i2, i3⟩ hb
    exact ⟨i1.below hb i1.lt, i2.below hb i2.lt, i3.trans (hb.mono i3.size)⟩
  · rintro n wr v lo hlt hlo ⟨i1, i2, i3⟩ hv
    have hp := pow_L hL
    have hc := countN_le L cs n
    refine (countClosure_any w.heap.size (w.heap.size + 1) L n (countN L cs n) u v cs wr i1 i2 (HU.out.below i3 hh) (by have := i3.size; omega) HL.out hn hL hv (by omega) (by omega)).mono ?_
    rintro e w' ⟨rfl, w2, hb, hs, ho⟩
    have h1 := hb.size
    have h2 := hs.size
    refine ⟨by omega, .inl ⟨rfl, (i1.below hb i1.lt).same hs (by omega), by rw [countN_succ]; exact ho, i3.trans ((hb.mono i3.size).trans (hs.below (by omega) (by have := i3.size; omega)))⟩⟩
  · rintro wr _ hi
    exact hi
  · rintro e w3 ⟨rfl, hs3, i1, i2, i3⟩
    have c0 := i2.cell
    go_wp2
    go_ret
    exact ⟨rfl, i3⟩
set_option maxHeartbeats 800000 in
set_option maxRecDepth 100000 in
theorem implCountModels_any (w : World) {l h : Nat} (v : Value) (f : FormD) (hv : FormR w l h v f) (hh : h ≤ w.heap.size) (hz : SmallII f.clauses) :
    Calls Try.prog 21 #[v] w fun e w' => e = .returned (.tuple #[.int .i64 (countModels f).1, .bool (countModels f).2]) ∧ Below w.heap.size w w' := by
  obtain ⟨u, rfl, hu⟩ := hv.ex
  obtain ⟨W, hW⟩ : ∃ W, W = w.alloc (.cells #[.int .i64 f.letters, u] 26) := ⟨_, rfl⟩
  have hBW : Below w.heap.size w W := by rw [hW]; exact alloc_below _ _
  have hsW : W.heap.size = w.heap.size + 1 := by rw [hW]; simp
  have hbx : BoxF W w.heap.size f.letters u := by rw [hW]; exact BoxF.new _ _ _ _
  have HU := Lib.hid (hu.below hBW hh)
  have HF := Lib.hid (hv.below hBW hh)
  have HB := Lib.hid hbx
  clear hbx hu hv
  go_enter Try.func21, Try.ntmps21
  go_wp2_with fail
  rw [← hW]
  clear hW
  refine (implValidForm_any W _ _ HF.out (by omega) hz).mono ?_
  rintro e w2 ⟨rfl, hb2⟩
  have hs2 := hb2.size
  have k0 := (HB.out.below hb2 HB.out.lt).c0
  have k1 := (HB.out.below hb2 HB.out.lt).c1
  cases hval : validForm f
  · go_wp2
    go_ret2
    exact ⟨by simp [countModels, hval], hBW.trans (hb2.mono hBW.size)⟩
  · obtain ⟨L, hL, hL1, hL2⟩ := lettersN hval
    have HC := Lib.hid (implCountOf_any w2 L u f.clauses (HU.out.below hb2 (by omega)) (by omega) (litsAll_of_valid hL hval) (by have := hz.1; omega) hL2)
    have HE := Lib.hid (show countModels f = (((countN L f.clauses (2 ^ L) : Nat) : Int), true) by simp [countModels, hval, hL])
    rw [hL] at k0
    clear hval
    go_wp2_with fail
    refine HC.out.mono ?_
    rintro e w3 ⟨rfl, hb3⟩
    go_wp2
    go_ret2
    exact ⟨by rw [HE.out]; rfl, hBW.trans ((hb2.trans (hb3.mono hs2)).mono hBW.size)⟩
set_option maxHeartbeats 800000 in
set_option maxRecDepth 100000 in
theorem l05Count_any {l h : Nat} (p L : Nat) (v : Value) (cs : List (List Int)) (w : World) (hp0 : w.cell? ⟨p, 0, none⟩ = some (.int .i64 L)) (hp1 : w.cell? ⟨p, 1, none⟩ = some v) (hv : Intss w l h v cs) (hl : LitsAll L cs) (hL : L ≤ 10) (hz : cs.length ≤ 1048576) :
    Calls Try.prog 52 #[.pointer (some ⟨p, 0, none⟩)] w fun e w' => e = .returned (.int .i64 ((countN L cs (2 ^ L) : Nat))) ∧ Drew w w' := by
  obtain ⟨N, hN⟩ : ∃ N : Nat, N = 2 ^ L := ⟨_, rfl⟩
  have hsh := (shl_one L hL).1
  have hN2 := (shl_one L hL).2
  rw [← hN] at hsh hN2
  have HN := Lib.hid hN
  have HV := Lib.hid hv
  have HL := Lib.hid hl
  have HP1 := Lib.hid hp1
  clear hN hv hl hp1
  go_enter Try.func52, Try.ntmps52
  go_wp2_with fail
  go_loopw [3, 4] (fun c i wr => ∃ n m : Nat, n ≤ N ∧ i = .int .i64 n ∧ c = .int .i64 m ∧ m ≤ n ∧ Hid (m = countN L cs n) ∧ Drew w wr) (fun _ i _ => N - (intOf i).toNat)
  case atStart => exact ⟨0, 0, Nat.zero_le _, rfl, rfl, Nat.le_refl _, Lib.hid rfl, Drew.refl _⟩
  case round =>
    obtain ⟨n, m, hn, rfl, rfl, hm, H, hD⟩ := hrel
    have hp0' := hp0
    rw [← hD.cell] at hp0'
    by_cases hlt : n < N
    · cases hft : formTrue (valuesN L n) cs
      all_goals
        go_wp2_with fail
        refine (l05Model_any p L n _ cs wr hp0' (by rw [hD.cell]; exact HP1.out) (HV.out.drew hD) HL.out hL (by omega) hz).mono ?_
        rintro e w2 ⟨rfl, hD2⟩
        rw [hft]
        go_wp2
        go_roundw
      · exact ⟨n + 1, m, by omega, by go_num, rfl, by omega, Lib.hid (by rw [countN_succ, hft, H.out]; rfl), hD.trans hD2⟩
      · simp [intOf]; omega
      · exact ⟨n + 1, m + 1, by omega, by go_num, by go_num, by omega, Lib.hid (by rw [countN_succ, hft, H.out]; rfl), hD.trans hD2⟩
      · simp [intOf]; omega
    · go_wp2
      go_ret
      obtain rfl : n = N := by omega
      exact ⟨ret_int (by rw [H.out, HN.out]), hD⟩
set_option maxHeartbeats 800000 in
set_option maxRecDepth 100000 in
theorem specCountModels_any (w : World) {l h : Nat} (v : Value) (f : FormD) (hv : FormR w l h v f) (hh : h ≤ w.heap.size) (hz : SmallII f.clauses) :
    Calls Try.prog 9 #[v] w fun e w' => e = .returned (.tuple #[.int .i64 (countModels f).1, .bool (countModels f).2]) ∧ Below w.heap.size w w' := by
  obtain ⟨u, rfl, hu⟩ := hv.ex
  have kL := hv.rng
  obtain ⟨W, hW⟩ : ∃ W, W = w.alloc (.cells #[.int .i64 f.letters, u] 26) := ⟨_, rfl⟩
  have hBW : Below w.heap.size w W := by rw [hW]; exact alloc_below _ _
  have hsW : W.heap.size = w.heap.size + 1 := by rw [hW]; simp
  have hbx : BoxF W w.heap.size f.letters u := by rw [hW]; exact BoxF.new _ _ _ _
  have HU := Lib.hid (hu.below hBW hh)
  have HB := Lib.hid hbx
  clear hbx hu hv
  go_enter Try.func9, Try.ntmps9
  go_wp2_with fail
  rw [← hW]
  clear hW
  refine (l05Is_any W _ _ f HB.out.c0 HB.out.c1 (by omega) kL HU.out (by omega)).mono ?_
  rintro e w2 ⟨rfl, hb2⟩
  have hs2 := hb2.size
  cases hval : validForm f
  · go_wp2
    go_ret2
    exact ⟨by simp [countModels, hval], hBW.trans (hb2.mono hBW.size)⟩
  · obtain ⟨L, hL, hL1, hL2⟩ := lettersN hval
    have hB2 := HB.out.below hb2 HB.out.lt
    rw [hL] at hB2
    have HC := Lib.hid (l05Count_any w.heap.size L u f.clauses w2 hB2.c0 hB2.c1 (HU.out.below hb2 (by omega)) (litsAll_of_valid hL hval) hL2 (by have := hz.1; omega))
    have HE := Lib.hid (show countModels f = (((countN L f.clauses (2 ^ L) : Nat) : Int), true) by simp [countModels, hval, hL])
    clear hval hB2
    go_wp2_with fail
    refine HC.out.mono ?_
    rintro e w3 ⟨rfl, hD3⟩
    go_wp2
    go_ret2
    exact ⟨by rw [HE.out]; rfl, hBW.trans ((hb2.trans (hD3.below _)).mono hBW.size)⟩
end Go.Proofs.Ytcpbgjnijhcpkaa

namespace Go.Proofs.Ytcpbgjnijhcpkaa
open Go.RowKit
set_option linter.unusedVariables false
set_option maxRecDepth 100000

theorem litTrue_pos (bs : List Bool) (A : Nat) (h : 1 ≤ A) : litTrue bs (A : Int) = bs.getD (A - 1) false := by
  have e : absI (A : Int) = (A : Int) := by unfold absI; rw [if_neg (by omega)]
  unfold litTrue
  rw [e, Int.toNat_natCast, decide_eq_true (by omega : (0 : Int) < (A : Int))]
  cases bs.getD (A - 1) false <;> rfl
set_option maxHeartbeats 1600000 in
set_option maxRecDepth 100000 in
theorem l05Values_any (L n : Nat) (w : World) (hL : L ≤ 10) (hn : n < 4294967296) :
    Calls Try.prog 86 #[.int .i64 L, .int .i64 n] w fun e w' => ∃ v, e = .returned v ∧ OwnB w' w.heap.size w'.heap.size v (valuesN L n) ∧ Below w.heap.size w w' := by
  have h0 := emptySliceB w
  have Hlen := Lib.hid (valuesN_len L n)
  go_enter Try.func86, Try.ntmps86
  go_wp2_with fail
  go_loopw [5, 6] (fun v i wr => ∃ k : Nat, k ≤ L ∧ i = .int .i64 ((k + 1 : Nat)) ∧ OwnB wr w.heap.size wr.heap.size v ((valuesN L n).take k) ∧ Below w.heap.size w wr) (fun _ i _ => L + 1 - (intOf i).toNat)
  case atStart => exact ⟨0, Nat.zero_le _, rfl, by simpa using h0, alloc_below _ _⟩
  case round =>
    clear h0
    obtain ⟨k, hk, rfl, ho, hb⟩ := hrel
    have hs := hb.size
    have HO := Lib.hid ho
    clear ho
    by_cases hlt : k < L
    · have hA : absI ((k + 1 : Nat) : Int) = ((k + 1 : Nat) : Int) := by unfold absI; rw [if_neg (by omega)]
      have HC := Lib.hid (l05True_any L n ((k + 1 : Nat) : Int) wr (by rw [hA]; omega) (by rw [hA]; omega) hL hn)
      clear hA
      go_wp2_with fail
      refine HC.out.mono ?_
      rintro e w' ⟨rfl, rfl⟩
      go_wp2_with (at_builtin; refine wpList_app1B rfl _ _ rfl _ ((valuesN L n).take k) rfl _ _ HO.out rfl (by rw [List.length_take, Hlen.out]; omega) hs ?_)
      intro v2 w2 ho2 hsm hs2 _
      have ho3 : OwnB w2 w.heap.size w2.heap.size v2 ((valuesN L n).take (k + 1)) := by
        rw [List.take_succ_eq_append_getElem (by rw [Hlen.out]; exact hlt)]
        have e : litTrue (valuesN L n) ((k + 1 : Nat) : Int) = (valuesN L n)[k]'(by rw [Hlen.out]; exact hlt) := by
          rw [litTrue_pos _ _ (by omega), Nat.add_sub_cancel]
          simp [List.getD, Hlen.out, hlt]
        rw [← e]; exact ho2
      have HO3 := Lib.hid ho3
      clear ho3 ho2
      go_wp2
      go_roundw
      case rel => exact ⟨k + 1, by omega, by go_num, HO3.out, hb.trans (hsm.below (Nat.le_refl _) hs)⟩
      case measure => simp [intOf]; omega
    · obtain rfl : k = L := by omega
      go_wp2
      go_ret
      exact ⟨_, rfl, by have := HO.out; rwa [List.take_of_length_le (by rw [Hlen.out]; exact Nat.le_refl _)] at this, hb⟩
/-- the first n values that are a model, among those from a on -/
def firstFrom (L : Nat) (cs : List (List Int)) (a : Nat) : Nat → Option Nat
  | 0 => none
  | k + 1 => if formTrue (valuesN L a) cs then some a else firstFrom L cs (a + 1) k
theorem firstFrom_step (L : Nat) (cs : List (List Int)) (a k : Nat) (h : formTrue (valuesN L a) cs = false) : firstFrom L cs a (k + 1) = firstFrom L cs (a + 1) k := by rw [firstFrom, h]; rfl
theorem firstFrom_hit (L : Nat) (cs : List (List Int)) (a k : Nat) (h : formTrue (valuesN L a) cs = true) : firstFrom L cs a (k + 1) = some a := by rw [firstFrom, h]; rfl
def firstModel (f : FormD) : List Bool × Bool :=
  if validForm f then
    match firstFrom f.letters.toNat f.clauses 0 (2 ^ f.letters.toNat) with
    | some n => (valuesN f.letters.toNat n, true)
    | none => ([], false)
  else ([], false)
theorem firstModel_some {f : FormD} {L n : Nat} (hv : validForm f = true) (hL : f.letters = (L : Int)) (h : firstFrom L f.clauses 0 (2 ^ L) = some n) : firstModel f = (valuesN L n, true) := by
  unfold firstModel; rw [if_pos hv, hL, Int.toNat_natCast, h]
theorem firstModel_none {f : FormD} {L : Nat} (hv : validForm f = true) (hL : f.letters = (L : Int)) (h : firstFrom L f.clauses 0 (2 ^ L) = none) : firstModel f = ([], false) := by
  unfold firstModel; rw [if_pos hv, hL, Int.toNat_natCast, h]
set_option maxHeartbeats 800000 in
set_option maxRecDepth 100000 in
theorem l05First_any {l h : Nat} (p L : Nat) (v : Value) (cs : List (List Int)) (w : World) (hp0 : w.cell? ⟨p, 0, none⟩ = some (.int .i64 L)) (hp1 : w.cell? ⟨p, 1, none⟩ = some v) (hv : Intss w l h v cs) (hl : LitsAll L cs) (hL : L ≤ 10) (hz : cs.length ≤ 1048576) :
    Calls Try.prog 53 #[.pointer (some ⟨p, 0, none⟩)] w fun e w' => Drew w w' ∧ ((e = .returned (.int .i64 (-1)) ∧ firstFrom L cs 0 (2 ^ L) = none) ∨ ∃ n : Nat, n < 1024 ∧ e = .returned (.int .i64 n) ∧ firstFrom L cs 0 (2 ^ L) = some n) := by
  obtain ⟨N, hN⟩ : ∃ N : Nat, N = 2 ^ L := ⟨_, rfl⟩
  have hsh := (shl_one L hL).1
  have hN2 := (shl_one L hL).2
  rw [← hN] at hsh hN2
  rw [← hN]
  have HV := Lib.hid hv
  have HL := Lib.hid hl
  have HP1 := Lib.hid hp1
  clear hN hv hl hp1
  go_enter Try.func53, Try.ntmps53
  go_wp2_with fail
  go_loopw [3] (fun i wr => ∃ n : Nat, n ≤ N ∧ i = .int .i64 n ∧ Hid (firstFrom L cs n (N - n) = firstFrom L cs 0 N) ∧ Drew w wr) (fun i _ => N - (intOf i).toNat)
  case atStart => exact ⟨0, Nat.zero_le _, rfl, Lib.hid rfl, Drew.refl _⟩
  case round =>
    obtain ⟨n, hn, rfl, H, hD⟩ := hrel
    have hp0' := hp0
    rw [← hD.cell] at hp0'
    by_cases hlt : n < N
    · have HX := Lib.hid (show N - n = (N - (n + 1)) + 1 by omega)
      cases hft : formTrue (valuesN L n) cs
      · go_wp2_with fail
        refine (l05Model_any p L n _ cs wr hp0' (by rw [hD.cell]; exact HP1.out) (HV.out.drew hD) HL.out hL (by omega) hz).mono ?_
        rintro e w2 ⟨rfl, hD2⟩
        rw [hft]
        go_wp2
        go_roundw
        case rel => exact ⟨n + 1, by omega, by go_num, Lib.hid (by rw [← H.out, HX.out, firstFrom_step _ _ _ _ hft]), hD.trans hD2⟩
        case measure => simp [intOf]; omega
      · go_wp2_with fail
        refine (l05Model_any p L n _ cs wr hp0' (by rw [hD.cell]; exact HP1.out) (HV.out.drew hD) HL.out hL (by omega) hz).mono ?_
        rintro e w2 ⟨rfl, hD2⟩
        rw [hft]
        go_wp2
        go_ret
        exact ⟨hD.trans hD2, .inr ⟨n, by omega, rfl, by rw [← H.out, HX.out, firstFrom_hit _ _ _ _ hft]⟩⟩
    · go_wp2
      go_ret
      exact ⟨hD, .inl ⟨rfl, by rw [← H.out, show N - n = 0 by omega, firstFrom]⟩⟩
set_option maxHeartbeats 1600000 in
set_option maxRecDepth 100000 in
theorem specFirstModel_any (w : World) {l h : Nat} (v : Value) (f : FormD) (hv : FormR w l h v f) (hh : h ≤ w.heap.size) (hz : SmallII f.clauses) :
    Calls Try.prog 29 #[v] w fun e w' => ∃ r, e = .returned (.tuple #[r, .bool (firstModel f).2]) ∧ OwnB w' w.heap.size w'.heap.size r (firstModel f).1 ∧ Below w.heap.size w w' := by
  obtain ⟨u, rfl, hu⟩ := hv.ex
  have kL := hv.rng
  obtain ⟨W, hW⟩ : ∃ W, W = w.alloc (.cells #[.int .i64 f.letters, u] 26) := ⟨_, rfl⟩
  have hBW : Below w.heap.size w W := by rw [hW]; exact alloc_below _ _
  have hsW : W.heap.size = w.heap.size + 1 := by rw [hW]; simp
  have hbx : BoxF W w.heap.size f.letters u := by rw [hW]; exact BoxF.new _ _ _ _
  have HU := Lib.hid (hu.below hBW hh)
  have HB := Lib.hid hbx
  clear hbx hu hv
  go_enter Try.func29, Try.ntmps29
  go_wp2_with fail
  rw [← hW]
  clear hW
  refine (l05Is_any W _ _ f HB.out.c0 HB.out.c1 (by omega) kL HU.out (by omega)).mono ?_
  rintro e w2 ⟨rfl, hb2⟩
  have hs2 := hb2.size
  cases hval : validForm f
  · have HE := Lib.hid (show firstModel f = ([], false) by simp [firstModel, hval])
    go_wp2
    go_ret2
    exact ⟨_, by rw [HE.out]; rfl, by rw [HE.out]; exact OwnB.nil _ _ _ (Nat.le_refl _), hBW.trans (hb2.mono hBW.size)⟩
  · obtain ⟨L, hL, hL1, hL2⟩ := lettersN hval
    have hB2 := HB.out.below hb2 HB.out.lt
    rw [hL] at hB2
    have HB2 := Lib.hid hB2
    have HC := Lib.hid (l05First_any w.heap.size L u f.clauses w2 hB2.c0 hB2.c1 (HU.out.below hb2 (by omega)) (litsAll_of_valid hL hval) hL2 (by have := hz.1; omega))
    have HV := Lib.hid hval
    clear hval hB2
    go_wp2_with fail
    refine HC.out.mono ?_
    rintro e w3 ⟨hD3, ⟨rfl, hf⟩ | ⟨n, hn, rfl, hf⟩⟩
    · have HE := Lib.hid (firstModel_none HV.out hL hf)
      go_wp2
      go_ret2
      exact ⟨_, by rw [HE.out]; rfl, by rw [HE.out]; exact OwnB.nil _ _ _ (Nat.le_refl _), hBW.trans ((hb2.trans (hD3.below _)).mono hBW.size)⟩
    · have HE := Lib.hid (firstModel_some HV.out hL hf)
      have c0 := (HB2.out.drew hD3).c0
      have hs3 : w2.heap.size ≤ w3.heap.size := by rw [hD3.heap]; exact Nat.le_refl _
      clear hf
      go_wp2_with fail
      refine (l05Values_any L n w3 hL2 (by omega)).mono ?_
      rintro e w4 ⟨r, rfl, ho, hb4⟩
      go_wp2
      go_ret2
      exact ⟨_, by rw [HE.out]; rfl, by rw [HE.out]; exact ho.mono (by omega) (Nat.le_refl _) (Nat.le_refl _), hBW.trans (((hb2.trans (hD3.below _)).trans (hb4.mono (by omega))).mono hBW.size)⟩
end Go.Proofs.Ytcpbgjnijhcpkaa

namespace Go.Proofs.Ytcpbgjnijhcpkaa
open Go.RowKit
set_option linter.unusedVariables false
set_option maxRecDepth 100000

theorem valuesN_slice {w : World} {lo hi L n : Nat} {v : Value} (h : OwnB w lo hi v (valuesN L n)) (hL : 1 ≤ L) : ∃ g cap, v = .slice (some ⟨g, 0, none⟩) L cap := by
  rcases h.rowOf with ⟨_, h0⟩ | ⟨g, cap, e, _⟩
  · have := valuesN_len L n; rw [h0] at this; simp at this; omega
  · exact ⟨g, cap, by rw [e, valuesN_len]⟩
set_option maxHeartbeats 800000 in
set_option maxRecDepth 100000 in
theorem firstClosure_any {l h lo : Nat} (p q L n : Nat) (u v : Value) (cs : List (List Int)) (w : World) (hp : OneC w p 24 u) (hq : OneC w q 40 (.slice none 0 0)) (hu : Intss w l h u cs) (hl : LitsAll L cs) (hn : cs.length ≤ 1048576) (hL : L ≤ 10) (hL1 : 1 ≤ L)
    (hv : OwnB w lo w.heap.size v (valuesN L n)) (hpq : p ≠ q) :
    Calls Try.prog 109 #[v, .pointer (some ⟨p, 0, none⟩), .pointer (some ⟨q, 0, none⟩)] w fun e w' =>
      (formTrue (valuesN L n) cs = false ∧ e = .returned (.bool true) ∧ Drew w w') ∨ (formTrue (valuesN L n) cs = true ∧ e = .returned (.bool false) ∧ ∃ w2, Drew w w2 ∧ w' = w2.setCell ⟨q, 0, none⟩ v) := by
  have qT : ∀ (w : World) (a : Option Addr) (n c n' c' : Nat), (binOp .eql 40 (.slice a n c) (.slice none n' c')).run Try.prog w = .ok (.bool a.isNone) w := fun w a n c n' c' => Lib.run_eql_slice_nil w _ _ a n c n' c' Try.underlying40
  obtain ⟨a, cap, V, rfl, hc1, hc2, hV, hd⟩ := hu.out
  obtain ⟨g, gc, rfl⟩ := valuesN_slice hv hL1
  have HU := Lib.hid hu
  have HVB := Lib.hid hv.rd
  have hlen := valuesN_len L n
  have HL : Hid (LitsAll (valuesN L n).length cs) := by rw [hlen]; exact hl
  have Hlen := Lib.hid hlen
  have k0 := hp.cell
  have k1 := hq.cell
  have f1 := hq.free
  have hFT : Hid (formTrue (valuesN L n) cs = ((heldN (valuesN L n) cs : Int) == (cs.length : Int))) := (beq_cast _ _).symm
  clear hu hv hl hlen hV hd
  cases hft : ((heldN (valuesN L n) cs : Int) == (cs.length : Int))
  all_goals
    go_enter Try.func109, Try.ntmps109
    go_wp2_with fail
    go_quiet ((go_at_call 77; exact quiet_same (held_any _ _ _ _ _ (HU.out.drew (Drew.one _ _)) (HVB.out.drewN _) HL.out (by rw [Hlen.out]; omega) hn)))
    try simp only [hft]
    go_wp2
    go_ret
  · exact .inl ⟨by rw [hFT.out, hft], rfl, Drew.one _ _⟩
  · exact .inr ⟨by rw [hFT.out, hft], rfl, _, Drew.one _ _, rfl⟩
structure FstInv (w0 : World) (p q L N : Nat) (u : Value) (cs : List (List Int)) (n : Nat) (wr : World) : Prop where
  hp : OneC wr p 24 u
  hq : OneC wr q 40 (.slice none 0 0)
  left : firstFrom L cs n (N - n) = firstFrom L cs 0 N
  bel : Below w0.heap.size w0 wr
structure FstPost (w0 : World) (q L N : Nat) (cs : List (List Int)) (wr : World) : Prop where
  bel : Below w0.heap.size w0 wr
  res : (firstFrom L cs 0 N = none ∧ OneC wr q 40 (.slice none 0 0)) ∨ ∃ n v, firstFrom L cs 0 N = some n ∧ OneC wr q 40 v ∧ OwnB wr w0.heap.size wr.heap.size v (valuesN L n)
set_option maxHeartbeats 1600000 in
set_option maxRecDepth 100000 in
theorem firstModelOf_any (w : World) {l h : Nat} (L : Nat) (u : Value) (cs : List (List Int)) (hu : Intss w l h u cs) (hh : h ≤ w.heap.size) (hl : LitsAll L cs) (hn : cs.length ≤ 1048576) (hL : L ≤ 10) (hL1 : 1 ≤ L) :
    Calls Try.prog 55 #[.int .i64 L, u] w fun e w' => ∃ r, e = .returned r ∧ Below w.heap.size w w' ∧
      ((firstFrom L cs 0 (2 ^ L) = none ∧ r = .slice none 0 0) ∨ ∃ n, firstFrom L cs 0 (2 ^ L) = some n ∧ OwnB w' w.heap.size w'.heap.size r (valuesN L n)) := by
  obtain ⟨a, cap, V, e, _⟩ := hu.out
  subst e
  obtain ⟨W1, hW1⟩ : ∃ W, W = w.alloc (.cells #[.slice a cs.length cap] 24) := ⟨_, rfl⟩
  have hs1 : W1.heap.size = w.heap.size + 1 := by rw [hW1]; simp
  have hb1 : Below w.heap.size w W1 := by rw [hW1]; exact alloc_below _ _
  have bx1 : OneC W1 w.heap.size 24 (.slice a cs.length cap) := by rw [hW1]; exact OneC.new _ _ _
  obtain ⟨W2, hW2⟩ : ∃ W, W = W1.alloc (.cells #[.slice none 0 0] 40) := ⟨_, rfl⟩
  have hs2 : W2.heap.size = w.heap.size + 2 := by rw [hW2]; simp [hs1]
  have hb2 : Below W1.heap.size W1 W2 := by rw [hW2]; exact alloc_below _ _
  have bx2 : OneC W2 w.heap.size 24 (.slice a cs.length cap) := bx1.below hb2 bx1.lt
  have oc2 : OneC W2 (w.heap.size + 1) 40 (.slice none 0 0) := by rw [hW2, ← hs1]; exact OneC.new _ _ _
  have hbb : Below w.heap.size w W2 := hb1.trans (hb2.mono (by omega))
  have HU := Lib.hid hu
  have HL := Lib.hid hl
  clear hu hl bx1
  go_enter Try.func55, Try.ntmps55
  go_wp2_with fail
  rw [← hW1, ← hW2]
  clear hW1 hW2
  refine (eachValues_any L hL 109 (fun _ _ => by kernel_rfl) _ W2 (FstInv w w.heap.size (w.heap.size + 1) L (2 ^ L) (.slice a cs.length cap) cs) (FstPost w (w.heap.size + 1) L (2 ^ L) cs) ⟨bx2, oc2, rfl, hbb⟩ ?_ ?_ ?_).mono ?_
  · rintro n wr wr' hs ⟨i1, i2, i3, i4⟩ hb
    exact ⟨i1.below hb i1.lt, i2.below hb i2.lt, i3, i4.trans (hb.mono i4.size)⟩
  · rintro n wr v lo hlt hlo ⟨i1, i2, i3, i4⟩ hv
    have hsz := i4.size
    refine (firstClosure_any w.heap.size (w.heap.size + 1) L n _ v cs wr i1 i2 (HU.out.below i4 hh) HL.out hn hL hL1 hv (by omega)).mono ?_
    rintro e w' (⟨hf, rfl, hD⟩ | ⟨hf, rfl, w2, hD, rfl⟩)
    · refine ⟨by rw [hD.heap]; exact Nat.le_refl _, .inl ⟨rfl, i1.drew hD, i2.drew hD, ?_, i4.trans (hD.below _)⟩⟩
      rw [← i3, show 2 ^ L - n = (2 ^ L - (n + 1)) + 1 by omega, firstFrom_step _ _ _ _ hf]
    · have hq := i2.drew hD
      have hsm := setAt_same w2 (w.heap.size + 1) v
      have hD2 : w2.heap.size = wr.heap.size := by rw [hD.heap]
      have hs2' := hsm.size
      have hvs := (hv.drew hD).same hsm (.inr (by omega))
      refine ⟨by omega, .inr ⟨rfl, ⟨(i4.trans (hD.below _)).trans (hsm.below (by omega) (by omega)), .inr ⟨n, v, ?_, hq.set v, hvs.mono (by omega) (by omega) (Nat.le_refl _)⟩⟩⟩⟩
      rw [← i3, show 2 ^ L - n = (2 ^ L - (n + 1)) + 1 by omega, firstFrom_hit _ _ _ _ hf]
  · rintro wr _ ⟨i1, i2, i3, i4⟩
    exact ⟨i4, .inl ⟨by rw [← i3, Nat.sub_self, firstFrom], i2⟩⟩
  · rintro e w3 ⟨rfl, hs3, i1, ⟨hf, hq⟩ | ⟨n, v, hf, hq, ho⟩⟩
    · have c0 := hq.cell
      go_wp2
      go_ret
      exact ⟨_, rfl, i1, .inl ⟨hf, rfl⟩⟩
    · obtain ⟨g, gc, rfl⟩ := valuesN_slice ho hL1
      have c0 := hq.cell
      have HFF := Lib.hid hf
      clear hf
      go_wp2
      go_ret
      exact ⟨_, rfl, i1, .inr ⟨n, HFF.out, ho⟩⟩
set_option maxHeartbeats 1600000 in
set_option maxRecDepth 100000 in
theorem implFirstModel_any (w : World) {l h : Nat} (v : Value) (f : FormD) (hv : FormR w l h v f) (hh : h ≤ w.heap.size) (hz : SmallII f.clauses) :
    Calls Try.prog 20 #[v] w fun e w' => ∃ r, e = .returned (.tuple #[r, .bool (firstModel f).2]) ∧ OwnB w' w.heap.size w'.heap.size r (firstModel f).1 ∧ Below w.heap.size w w' := by
  have qT : ∀ (w : World) (a : Option Addr) (n c n' c' : Nat), (binOp .neq 40 (.slice a n c) (.slice none n' c')).run Try.prog w = .ok (.bool (!a.isNone)) w := fun w a n c n' c' => run_neq_slice_nil_any w _ _ a n c n' c' Try.underlying40
  obtain ⟨u, rfl, hu⟩ := hv.ex
  obtain ⟨W, hW⟩ : ∃ W, W = w.alloc (.cells #[.int .i64 f.letters, u] 26) := ⟨_, rfl⟩
  have hBW : Below w.heap.size w W := by rw [hW]; exact alloc_below _ _
  have hsW : W.heap.size = w.heap.size + 1 := by rw [hW]; simp
  have hbx : BoxF W w.heap.size f.letters u := by rw [hW]; exact BoxF.new _ _ _ _
  have HU := Lib.hid (hu.below hBW hh)
  have HF := Lib.hid (hv.below hBW hh)
  have HB := Lib.hid hbx
  clear hbx hu hv
  go_enter Try.func20, Try.ntmps20
  go_wp2_with fail
  rw [← hW]
  clear hW
  refine (implValidForm_any W _ _ HF.out (by omega) hz).mono ?_
  rintro e w2 ⟨rfl, hb2⟩
  have hs2 := hb2.size
  have k0 := (HB.out.below hb2 HB.out.lt).c0
  have k1 := (HB.out.below hb2 HB.out.lt).c1
  cases hval : validForm f
  · have HE := Lib.hid (show firstModel f = ([], false) by simp [firstModel, hval])
    go_wp2
    go_ret2
    exact ⟨_, by rw [HE.out]; rfl, by rw [HE.out]; exact OwnB.nil _ _ _ (Nat.le_refl _), hBW.trans (hb2.mono hBW.size)⟩
  · obtain ⟨L, hL, hL1, hL2⟩ := lettersN hval
    have HC := Lib.hid (firstModelOf_any w2 L u f.clauses (HU.out.below hb2 (by omega)) (by omega) (litsAll_of_valid hL hval) (by have := hz.1; omega) hL2 hL1)
    have HV := Lib.hid hval
    rw [hL] at k0
    clear hval
    go_wp2_with fail
    refine HC.out.mono ?_
    rintro e w3 ⟨r, rfl, hb3, ⟨hf, rfl⟩ | ⟨n, hf, ho⟩⟩
    · have HE := Lib.hid (firstModel_none HV.out hL hf)
      clear hf
      go_wp2
      go_ret2
      exact ⟨_, by rw [HE.out]; rfl, by rw [HE.out]; exact OwnB.nil _ _ _ (Nat.le_refl _), hBW.trans ((hb2.trans (hb3.mono hs2)).mono hBW.size)⟩
    · have HE := Lib.hid (firstModel_some HV.out hL hf)
      obtain ⟨g, gc, rfl⟩ := valuesN_slice ho hL1
      have HO := Lib.hid ho
      clear hf ho
      go_wp2
      go_ret2
      exact ⟨_, by rw [HE.out]; rfl, by rw [HE.out]; exact HO.out.mono (by omega) (Nat.le_refl _) (Nat.le_refl _), hBW.trans ((hb2.trans (hb3.mono hs2)).mono hBW.size)⟩
end Go.Proofs.Ytcpbgjnijhcpkaa

namespace Go.Proofs.Ytcpbgjnijhcpkaa
open Go.RowKit
set_option linter.unusedVariables false
set_option maxRecDepth 100000

def hasM (L : Nat) (cs : List (List Int)) : Bool := (firstFrom L cs 0 (2 ^ L)).isSome
def setN : List Bool → Nat → List Int
  | [], _ => []
  | b :: r, i => if b then (i : Int) :: setN r (i + 1) else setN r (i + 1)
theorem setN_snoc (A : List Bool) (b : Bool) (i : Nat) : setN (A ++ [b]) i = setN A i ++ (if b then [((i + A.length : Nat) : Int)] else []) := by
  induction A generalizing i with
  | nil => cases b <;> rfl
  | cons a r ih =>
    rw [List.cons_append, setN, setN, ih]
    have e : i + 1 + r.length = i + (a :: r).length := by simp; omega
    rw [e]
    cases a <;> simp
theorem setN_ge (A : List Bool) (i : Nat) (x : Int) (h : x ∈ setN A i) : (i : Int) ≤ x ∧ x < ((i + A.length : Nat) : Int) := by
  induction A generalizing i with
  | nil => simp [setN] at h
  | cons a r ih =>
    rw [setN] at h
    have hl : (a :: r).length = r.length + 1 := rfl
    cases a
    · have := ih (i + 1) (by simpa using h); omega
    · rw [if_pos rfl, List.mem_cons] at h
      rcases h with rfl | h
      · omega
      · have := ih (i + 1) h; omega
theorem setN_len (A : List Bool) (i : Nat) : (setN A i).length ≤ A.length := by
  induction A generalizing i with
  | nil => exact Nat.le_refl _
  | cons a r ih => rw [setN]; have := ih (i + 1); split <;> simp <;> omega
theorem setN_set (A : List Bool) (k i : Nat) (hk : k < A.length) : setN (A.set k false) i = (setN A i).filter fun x => decide (x ≠ ((i + k : Nat) : Int)) := by
  induction A generalizing k i with
  | nil => simp at hk
  | cons a r ih =>
    cases k with
    | zero =>
      rw [List.set_cons_zero, setN, setN, if_neg (by decide)]
      have e : ((setN r (i + 1)).filter fun x => decide (x ≠ ((i + 0 : Nat) : Int))) = setN r (i + 1) := by
        rw [List.filter_eq_self]
        intro x hx
        have := setN_ge r (i + 1) x hx
        simp; omega
      cases a
      · rw [if_neg (by decide), e]
      · rw [if_pos rfl, List.filter_cons, if_neg (by simp), e]
    | succ k =>
      rw [List.set_cons_succ, setN, setN, ih k (i + 1) (by simpa using hk)]
      rw [show i + 1 + k = i + (k + 1) by omega]
      cases a
      · rfl
      · rw [if_pos rfl, if_pos rfl, List.filter_cons, if_pos (by simp; omega)]
theorem setN_all (n i : Nat) : setN (List.replicate n true) i = (List.range n).map fun k => ((i + k : Nat) : Int) := by
  induction n generalizing i with
  | zero => rfl
  | succ n ih =>
    rw [List.replicate_succ, setN, if_pos rfl, ih, List.range_succ_eq_map, List.map_cons, List.map_map]
    congr 1
    refine List.map_congr_left fun k _ => ?_
    simp only [Function.comp_apply]
    congr 1; omega
def pick (cs : List (List Int)) (S : List Int) : List (List Int) := S.map fun x => cs.getD x.toNat []
def coreGo (L : Nat) (cs : List (List Int)) : Nat → Nat → List Int → List Int
  | 0, _, S => S
  | m + 1, i, S => coreGo L cs m (i + 1) (if hasM L (pick cs (S.filter fun x => decide (x ≠ (i : Int)))) then S else S.filter fun x => decide (x ≠ (i : Int)))
def ups (n : Nat) : List Int := (List.range n).map fun (k : Nat) => (k : Int)
def coreOf (L : Nat) (cs : List (List Int)) : List Int := coreGo L cs cs.length 0 (ups cs.length)
def okCore (f : FormD) : Bool := validForm f && !hasM f.letters.toNat f.clauses
def coreF (f : FormD) : List Int × Bool := if okCore f then (coreOf f.letters.toNat f.clauses, true) else ([], false)
theorem coreF_no {f : FormD} (h : okCore f = false) : coreF f = ([], false) := by rw [coreF, h]; rfl
theorem coreF_yes {f : FormD} (h : okCore f = true) : coreF f = (coreOf f.letters.toNat f.clauses, true) := by rw [coreF, h]; rfl
theorem core_step {L : Nat} {cs : List (List Int)} {i n : Nat} {S : List Int} (h : i < n) : coreGo L cs (n - i) i S = coreGo L cs (n - (i + 1)) (i + 1) (if hasM L (pick cs (S.filter fun x => decide (x ≠ (i : Int)))) then S else S.filter fun x => decide (x ≠ (i : Int))) := by
  rw [show n - i = (n - (i + 1)) + 1 by omega, coreGo]
theorem pick_len (cs : List (List Int)) (S : List Int) : (pick cs S).length = S.length := List.length_map ..
theorem pick_snoc (cs : List (List Int)) (S : List Int) (x : Int) : pick cs (S ++ [x]) = pick cs S ++ [cs.getD x.toNat []] := by simp [pick]
theorem pick_all {P : List Int → Prop} {cs : List (List Int)} (h : ∀ c ∈ cs, P c) {S : List Int} (hS : ∀ x ∈ S, 0 ≤ x ∧ x < (cs.length : Int)) : ∀ c ∈ pick cs S, P c := fun c hc => by
  obtain ⟨x, hx, rfl⟩ := List.mem_map.1 hc
  have hb := hS x hx
  have hl : x.toNat < cs.length := by omega
  simp only [List.getD, List.getElem?_eq_getElem hl, Option.getD_some]
  exact h _ (List.getElem_mem hl)
theorem getDI_mem {A : List Int} {j : Nat} (h : j < A.length) : A.getD j 0 ∈ A := by simp [List.getD, h]
theorem fill_step {k n : Nat} (h : k < n) : List.replicate (k + 1) true ++ List.replicate (n - (k + 1)) false = (List.replicate k true ++ List.replicate (n - k) false).set k true := by
  have e1 : List.replicate (n - k) false = false :: List.replicate (n - (k + 1)) false := by rw [show n - k = (n - (k + 1)) + 1 by omega]; rfl
  rw [e1, List.set_append_right _ _ (by simp), List.length_replicate, Nat.sub_self, List.set_cons_zero, List.replicate_succ']
  simp
set_option maxHeartbeats 800000 in
set_option maxRecDepth 100000 in
theorem setOf_any {l h : Nat} (v : Value) (B : List Bool) (w : World) (hv : Bools w l h v B) (hh : h ≤ w.heap.size) (hz : B.length ≤ 1048576) :
    Calls Try.prog 62 #[v] w fun e w' => ∃ u, e = .returned u ∧ OwnI w' w.heap.size w'.heap.size u (setN B 0) ∧ Below w.heap.size w w' := by
  obtain ⟨a, cap, rfl, hc1, hc2, hd⟩ := hv.out
  clear hv
  go_enter Try.func62, Try.ntmps62
  go_wp2_with fail
  go_loopw [3, 8] (fun ov i wr => ∃ k : Nat, k ≤ B.length ∧ i = .int .i64 k ∧ OwnI wr w.heap.size wr.heap.size ov (setN (B.take k) 0) ∧ Below w.heap.size w wr) (fun _ i _ => B.length - (intOf i).toNat)
  case atStart => exact ⟨0, Nat.zero_le _, rfl, OwnI.nil _ _ _ (Nat.le_refl _), Below.refl _ _⟩
  case round =>
    obtain ⟨k, hk, rfl, ho, hb⟩ := hrel
    have hs := hb.size
    have HO := Lib.hid ho
    have HB := Lib.hid hb
    clear ho
    by_cases hlt : k < B.length
    · rcases hd with rfl | ⟨b, off, rfl, hb1, hb2, hb3, hcell⟩
      · simp at hlt
      have hck := hcell k hlt
      rw [← hb.cell (p := ⟨b, off + k, none⟩) (show b < w.heap.size by omega)] at hck
      have HT : Hid (setN (B.take (k + 1)) 0 = setN (B.take k) 0 ++ (if B[k] then [(k : Int)] else [])) := by
        rw [Hid, List.take_succ_eq_append_getElem hlt, setN_snoc, List.length_take, Nat.min_eq_left (by omega), Nat.zero_add]
      have HLN : Hid ((setN (B.take k) 0).length + 1 ≤ 1099511627776) := by
        have h1 := setN_len (B.take k) 0
        rw [List.length_take] at h1
        rw [Hid]; omega
      have hge : B.getD k false = B[k] := by simp [List.getD, hlt]
      rw [hge] at hck
      obtain ⟨t, ht⟩ : ∃ t, t = B[k] := ⟨_, rfl⟩
      rw [← ht] at hck HT
      clear hcell hge hb ht
      cases t
      · rw [if_neg (by decide), List.append_nil] at HT
        go_wp2
        go_roundw
        case rel => exact ⟨k + 1, by omega, by go_num, by rw [HT.out]; exact HO.out, HB.out⟩
        case measure => simp [intOf]; omega
      · rw [if_pos rfl] at HT
        go_wp2_with (at_builtin; refine wpList_app1 rfl _ _ rfl _ (setN (B.take k) 0) rfl (k : Int) _ HO.out rfl (by unfold I64; omega) HLN.out hs ?_)
        intro v2 w3 ho2 hsm hz3 _
        have HO2 : Hid (OwnI w3 w.heap.size w3.heap.size v2 (setN (B.take (k + 1)) 0)) := by rw [Hid, HT.out]; exact ho2
        have HB2 := Lib.hid (HB.out.trans (hsm.below (Nat.le_refl _) hs))
        clear ho2
        go_wp2
        go_roundw
        case rel => exact ⟨k + 1, by omega, by go_num, HO2.out, HB2.out⟩
        case measure => simp [intOf]; omega
    · obtain rfl : k = B.length := by omega
      rw [List.take_length] at HO
      go_wp2
      go_ret
      exact ⟨_, rfl, HO.out, HB.out⟩
theorem set_same {B : List Bool} {i : Nat} (h : B.getD i false = true) : (B.set i false).set i true = B := by
  refine List.ext_getElem? fun j => ?_
  rw [List.getElem?_set, List.getElem?_set]
  by_cases hj : i = j
  · subst hj
    by_cases hl : i < B.length
    · rw [if_pos rfl]
      simp [List.getD, hl] at h
      simp [hl, h]
    · simp [hl]
  · rw [if_neg hj, if_neg hj]
set_option maxHeartbeats 2000000 in
set_option maxRecDepth 100000 in
theorem implCoreOf_any (w : World) {l h : Nat} (v : Value) (f : FormD) (hv : FormR w l h v f) (hh : h ≤ w.heap.size) (hz : SmallII f.clauses) :
    Calls Try.prog 15 #[v] w fun e w' => ∃ r, e = .returned (.tuple #[r, .bool (coreF f).2]) ∧ OwnI w' w.heap.size w'.heap.size r (coreF f).1 ∧ Below w.heap.size w w' := by
  have qT : ∀ (w : World) (a : Option Addr) (n c n' c' : Nat), (binOp .neq 40 (.slice a n c) (.slice none n' c')).run Try.prog w = .ok (.bool (!a.isNone)) w := fun w a n c n' c' => run_neq_slice_nil_any w _ _ a n c n' c' Try.underlying40
  obtain ⟨u, rfl, hu⟩ := hv.ex
  obtain ⟨ca, ccap, CV, rfl, cc1, cc2, CR, cd⟩ := hu.out
  obtain ⟨W, hW⟩ : ∃ W, W = w.alloc (.cells #[.int .i64 f.letters, .slice ca f.clauses.length ccap] 26) := ⟨_, rfl⟩
  have hBW : Below w.heap.size w W := by rw [hW]; exact alloc_below _ _
  have hsW : W.heap.size = w.heap.size + 1 := by rw [hW]; simp
  have hbx : BoxF W w.heap.size f.letters (.slice ca f.clauses.length ccap) := by rw [hW]; exact BoxF.new _ _ _ _
  have CC : Hid (∀ (wx : World) (j : Nat), Below w.heap.size w wx → (hj : j < f.clauses.length) → ∃ b o, ca = some ⟨b, o, none⟩ ∧ wx.cell? ⟨b, o + j, none⟩ = some (CV j) ∧ Ints wx 0 w.heap.size (CV j) f.clauses[j]) := fun wx j hb hj => by
    rcases cd with e | ⟨b, o, e, r1, r2, r3, hc⟩
    · rw [e] at hj; simp at hj
    · exact ⟨b, o, e, by rw [hb.cell (p := ⟨b, o + j, none⟩) (show b < w.heap.size by omega)]; exact hc j hj, ((CR j hj).below hb hh).mono (Nat.zero_le _) hh hb.size⟩
  have HU := Lib.hid (hu.below hBW hh)
  have HF := Lib.hid (hv.below hBW hh)
  have HB := Lib.hid hbx
  have HBW := Lib.hid hBW
  have hW1 : w.heap.size < W.heap.size := by omega
  have k0 := hbx.c0
  have k1 := hbx.c1
  clear hbx hu hv cd CR hBW hsW
  go_enter Try.func15, Try.ntmps15
  go_wp2_with fail
  rw [← hW]
  clear hW
  go_wp2_with fail
  refine (implValidForm_any W _ _ HF.out (by omega) hz).mono ?_
  rintro e w2 ⟨rfl, hb2⟩
  clear k0 k1
  have hs2 := hb2.size
  have k0 := (HB.out.below hb2 hW1).c0
  have k1 := (HB.out.below hb2 hW1).c1
  have HB2 := Lib.hid (HB.out.below hb2 hW1)
  have HBW2 := Lib.hid (HBW.out.trans (hb2.mono (by omega)))
  cases hval : validForm f
  · have HE := Lib.hid (coreF_no (f := f) (by rw [okCore, hval]; rfl))
    go_wp2
    go_ret2
    exact ⟨_, by rw [HE.out]; rfl, by rw [HE.out]; exact OwnI.nil _ _ _ (Nat.le_refl _), HBW2.out⟩
  obtain ⟨L, hL, hL1, hL2⟩ := lettersN hval
  have hLt : f.letters.toNat = L := by omega
  have hcl48 := (validForm_bounds hval).2.1
  have HLA := Lib.hid (litsAll_of_valid hL hval)
  have HC := Lib.hid (firstModelOf_any w2 L _ f.clauses (HU.out.below hb2 (by omega)) (by omega) HLA.out (by omega) hL2 hL1)
  rw [hL] at k0 HB2
  have HOK : Hid (okCore f = !hasM L f.clauses) := by rw [Hid, okCore, hval, hLt]; rfl
  have HLT := Lib.hid hLt
  clear hval hb2 hLt
  go_wp2_with fail
  refine HC.out.mono ?_
  rintro e w3 ⟨r, rfl, hb3, ⟨hf, rfl⟩ | ⟨n, hf, ho⟩⟩
  case inr =>
    have HE : Hid (coreF f = ([], false)) := coreF_no (by rw [HOK.out, hasM, hf]; rfl)
    obtain ⟨g, gc, rfl⟩ := valuesN_slice ho hL1
    clear hf ho
    go_wp2
    go_ret2
    exact ⟨_, by rw [HE.out]; rfl, by rw [HE.out]; exact OwnI.nil _ _ _ (Nat.le_refl _), HBW2.out.trans (hb3.mono (by omega))⟩
  have HE : Hid (coreF f = (coreOf L f.clauses, true)) := by rw [Hid, coreF_yes (by rw [HOK.out, hasM, hf]; rfl), HLT.out]
  have hs3 := hb3.size
  have HBW3 := Lib.hid (HBW2.out.trans (hb3.mono (by omega)))
  have HB3 := Lib.hid (HB2.out.below hb3 (by omega))
  clear k0 k1
  have k0 := HB3.out.c0
  have k1 := HB3.out.c1
  obtain ⟨i0, hi, hz0, hz1, hz2⟩ := info_parts info_bool
  obtain ⟨N, hN⟩ : ∃ N, N = f.clauses.length := ⟨_, rfl⟩
  clear hf hb3 HC HOK
  go_wp2_with (refine wpList_make_full _ rfl _ _ 40 rfl w3.heap.size 4 i0 (.bool false) 1 Try.underlying40 hi hz0 hz1 .i64 .i64 _ _ f.clauses.length rfl rfl rfl rfl ?c1 (by unfold maxLen; omega) ?c2 ?_)
  case c1 => rw [hz2]; omega
  case c2 => exact Nat.le_refl _
  intro w4 hown hg
  have hrow := RowB.made hown
  have hb4 : Below w3.heap.size w3 w4 := (Below.refl _ _).grown hg (Nat.le_refl _) (fun k hk => by cases hk)
  have HROW := Lib.hid hrow
  have HB4 := Lib.hid hb4
  clear hown hg hrow hb4
  go_wp2_with fail
  go_loopw [27] (fun iv wr => ∃ k : Nat, k ≤ f.clauses.length ∧ iv = .int .i64 k ∧ RowB wr w3.heap.size w3.heap.size f.clauses.length f.clauses.length (List.replicate k true ++ List.replicate (f.clauses.length - k) false) ∧ Below w3.heap.size w3 wr) (fun iv _ => f.clauses.length - (intOf iv).toNat)
  case atStart => exact ⟨0, Nat.zero_le _, rfl, by simpa using HROW.out, HB4.out⟩
  case round =>
    clear HROW HB4
    obtain ⟨k, hk, rfl, hr, hb⟩ := hrel
    have hs := hb.size
    by_cases hlt : k < f.clauses.length
    · have fz := hr.frozen k
      have ck := hr.cell hlt
      have HR := Lib.hid hr
      have HBB := Lib.hid hb
      have HRS := Lib.hid (fill_step hlt)
      clear hr hb
      go_wp2
      go_roundw
      case rel => exact ⟨k + 1, by omega, by go_num, by rw [HRS.out]; exact HR.out.stored k true, HBB.out.setCell (Nat.le_refl _) _⟩
      case measure => simp [intOf]; omega
    · obtain rfl : k = f.clauses.length := by omega
      rw [Nat.sub_self, List.replicate_zero, List.append_nil] at hr
      obtain ⟨n, hn⟩ : ∃ n, n = f.clauses.length := ⟨_, rfl⟩
      have HR := Lib.hid hr
      have HBB := Lib.hid hb
      have HUP : Hid (setN (List.replicate f.clauses.length true) 0 = ups f.clauses.length) := by
        rw [Hid, setN_all, ups]
        exact List.map_congr_left fun k _ => by simp
      clear hr hb hn n
      go_wp2_with fail
      go_loopw [36] (fun iv wr => ∃ (k : Nat) (B : List Bool), k ≤ f.clauses.length ∧ iv = .int .i64 k ∧ RowB wr w3.heap.size w3.heap.size f.clauses.length f.clauses.length B ∧ Hid (∀ j, k ≤ j → j < f.clauses.length → B.getD j false = true) ∧ Hid (coreGo L f.clauses (f.clauses.length - k) k (setN B 0) = coreOf L f.clauses) ∧ Below w3.heap.size w3 wr) (fun iv _ => f.clauses.length - (intOf iv).toNat)
      case atStart => exact ⟨0, _, Nat.zero_le _, rfl, HR.out, Lib.hid (fun j _ hj => by simp [List.getD, hj]), Lib.hid (by rw [HUP.out]; rfl), HBB.out⟩
      case round =>
        clear HR HBB HUP
        obtain ⟨k, B, hk, rfl, hr, HT, H, hb⟩ := hrel
        have hs := hb.size
        have hBl := hr.length
        by_cases hlt : k < f.clauses.length
        · have fz := hr.frozen k
          have ck := hr.cell hlt
          have HBk := Lib.hid (HT.out k (Nat.le_refl _) hlt)
          obtain ⟨W1, hW1'⟩ : ∃ W1, W1 = wr.setCell ⟨w3.heap.size, k, none⟩ (.bool false) := ⟨_, rfl⟩
          have hr1 : RowB W1 w3.heap.size w3.heap.size f.clauses.length f.clauses.length (B.set k false) := by rw [hW1']; exact hr.stored k false
          have hb1 : Below w3.heap.size w3 W1 := by rw [hW1']; exact hb.setCell (Nat.le_refl _) _
          obtain ⟨S, hS⟩ : ∃ S, S = setN (B.set k false) 0 := ⟨_, rfl⟩
          have HSF : Hid (S = (setN B 0).filter fun x => decide (x ≠ (k : Int))) := by rw [Hid, hS, setN_set _ _ _ (by omega), Nat.zero_add]
          have HSR : Hid (∀ x ∈ S, 0 ≤ x ∧ x < (f.clauses.length : Int)) := fun x hx => by
            rw [hS] at hx
            have := setN_ge _ _ x hx
            rw [List.length_set, hBl] at this
            omega
          have hSl : S.length ≤ 48 := by rw [hS]; have := setN_len (B.set k false) 0; rw [List.length_set] at this; omega
          have hs1 := hb1.size
          have HSET := Lib.hid (setOf_any _ (B.set k false) W1 (hr1.rd hr1.lt (Nat.le_refl _)) (Nat.le_refl _) (by rw [List.length_set]; omega))
          rw [← hS] at HSET
          have HS0 := Lib.hid hS
          have HR1 := Lib.hid hr1
          have HB1 := Lib.hid hb1
          have HCS := Lib.hid (core_step (L := L) (cs := f.clauses) (S := setN B 0) hlt)
          rw [← HSF.out] at HCS
          have HBl := Lib.hid hBl
          clear hr hb hr1 hb1 hS hBl
          go_wp2_with fail
          rw [← hW1']
          clear hW1' fz ck
          refine HSET.out.mono ?_
          rintro e w5 ⟨u5, rfl, ho5, hb5⟩
          have hs5 := hb5.size
          obtain ⟨sa, sc, rfl, sc1, sc2, sd⟩ := ho5.rd.out
          have SC : Hid (∀ (wx : World) (j : Nat), Below w5.heap.size w5 wx → j < S.length → ∃ b o, sa = some ⟨b, o, none⟩ ∧ wx.cell? ⟨b, o + j, none⟩ = some (.int .i64 (S.getD j 0))) := fun wx j hbx hj => by
            rcases sd with e | ⟨b, o, e, r1, r2, r3, hc⟩
            · rw [e] at hj; simp at hj
            · exact ⟨b, o, e, by rw [hbx.cell (p := ⟨b, o + j, none⟩) (show b < w5.heap.size by omega)]; exact hc j hj⟩
          have HB5 := Lib.hid (HB1.out.trans (hb5.mono hs1))
          have HR5 := Lib.hid (HR1.out.below hb5 HR1.out.lt)
          clear ho5 sd hb5
          go_wp2_with fail
          go_loopw [7, 45] (fun ov iv wr => ∃ q : Nat, q ≤ S.length ∧ iv = .int .i64 q ∧ RefII wr w.heap.size w5.heap.size ov (pick f.clauses (S.take q)) ∧ Below w5.heap.size w5 wr) (fun _ iv _ => S.length - (intOf iv).toNat)
          case atStart => exact ⟨0, Nat.zero_le _, rfl, RefII.nil _ _ _ (by omega) (Nat.le_refl _), Below.refl _ _⟩
          case round =>
            obtain ⟨q, hq, rfl, hrf, hb6⟩ := hrel
            have hs6 := hb6.size
            have HRF := Lib.hid hrf
            have HB6 := Lib.hid hb6
            have k1 := ((HB3.out.below HB5.out (by omega)).below hb6 (by omega)).c1
            have k0 := ((HB3.out.below HB5.out (by omega)).below hb6 (by omega)).c0
            by_cases hql : q < S.length
            · obtain ⟨sb, so, rfl, sck⟩ := SC.out wr q hb6 hql
              have hxr := HSR.out _ (getDI_mem hql)
              obtain ⟨x, hx⟩ : ∃ x, x = S.getD q 0 := ⟨_, rfl⟩
              rw [← hx] at sck hxr
              obtain ⟨m, rfl⟩ : ∃ m : Nat, x = (m : Int) := ⟨x.toNat, by omega⟩
              have hml : m < f.clauses.length := by omega
              obtain ⟨cb, co, rfl, cck, cri⟩ := CC.out wr m ((HBW3.out.trans (HB5.out.mono (by omega))).trans (hb6.mono (by omega))) hml
              obtain ⟨ka, kc, hke, _, _, _⟩ := cri.out
              rw [hke] at cck cri
              have HTK : Hid (pick f.clauses (S.take (q + 1)) = pick f.clauses (S.take q) ++ [f.clauses[m]]) := by
                have e1 : S.take (q + 1) = S.take q ++ [S[q]] := List.take_succ_eq_append_getElem hql
                have e2 : S[q] = (m : Int) := by rw [hx]; simp [List.getD, hql]
                rw [Hid, e1, pick_snoc, e2, Int.toNat_natCast, List.getD, List.getElem?_eq_getElem hml]; rfl
              have HCR := Lib.hid cri
              have hll : (pick f.clauses (S.take q)).length + 1 ≤ 1048576 := by rw [pick_len, List.length_take]; omega
              have HLL := Lib.hid hll
              have hmi : (m : Int) < (f.clauses.length : Int) := by omega
              clear hrf hb6 hx hke cri hxr hll
              go_wp2_with (at_builtin; refine wpList_appRef rfl _ _ rfl _ (pick f.clauses (S.take q)) rfl HRF.out _ f.clauses[m] HCR.out _ rfl HLL.out ?_)
              intro v7 w7 hr7 hb7 hz7
              have HR7 : Hid (RefII w7 w.heap.size w5.heap.size v7 (pick f.clauses (S.take (q + 1)))) := by rw [Hid, HTK.out]; exact hr7
              have HB7 := Lib.hid (HB6.out.trans hb7)
              clear hr7 hb7
              go_wp2
              go_roundw
              case rel => exact ⟨q + 1, by omega, by go_num, HR7.out, HB7.out⟩
              case measure => simp [intOf]; omega
            · obtain rfl : q = S.length := by omega
              rw [List.take_length] at HRF
              have hpl : (pick f.clauses S).length ≤ 48 := by rw [pick_len]; exact hSl
              have HFM := Lib.hid (firstModelOf_any wr L _ (pick f.clauses S) HRF.out.rd (Nat.le_refl _) (pick_all HLA.out HSR.out) (by omega) hL2 hL1)
              have HR6 := Lib.hid (HR5.out.below hb6 (by have := HR5.out.lt; omega))
              have hgl : w3.heap.size < wr.heap.size := by have := HR5.out.lt; omega
              clear hrf hb6
              go_wp2_with fail
              refine HFM.out.mono ?_
              rintro e w8 ⟨r8, rfl, hb8, ⟨hf, rfl⟩ | ⟨n, hf, ho⟩⟩
              · have HR8 := Lib.hid (HR6.out.below hb8 hgl)
                have fz8 := HR8.out.frozen k
                have ck8 := HR8.out.cell hlt
                have HB8 : Hid (Below w3.heap.size w3 w8) := (HB5.out.trans (HB6.out.mono (by omega))).trans (hb8.mono (by omega))
                have HN : Hid (coreGo L f.clauses (f.clauses.length - (k + 1)) (k + 1) (setN ((B.set k false).set k false) 0) = coreOf L f.clauses) := by
                  rw [Hid, ← H.out, HCS.out, if_neg (by rw [hasM, hf]; decide), List.set_set, ← HS0.out]
                have HT2 : Hid (∀ j, k + 1 ≤ j → j < f.clauses.length → ((B.set k false).set k false).getD j false = true) := fun j h1 h2 => by
                  have := HT.out j (by omega) h2
                  simp only [List.getD] at this ⊢
                  rw [List.getElem?_set_ne (by omega), List.getElem?_set_ne (by omega)]; exact this
                clear hf hb8
                go_wp2
                go_roundw
                case rel => exact ⟨k + 1, _, by omega, by go_num, HR8.out.stored k false, HT2, HN, HB8.out.setCell (Nat.le_refl _) _⟩
                case measure => simp [intOf]; omega
              · have HR8 := Lib.hid (HR6.out.below hb8 hgl)
                have fz8 := HR8.out.frozen k
                have ck8 := HR8.out.cell hlt
                have HB8 : Hid (Below w3.heap.size w3 w8) := (HB5.out.trans (HB6.out.mono (by omega))).trans (hb8.mono (by omega))
                have HN : Hid (coreGo L f.clauses (f.clauses.length - (k + 1)) (k + 1) (setN ((B.set k false).set k true) 0) = coreOf L f.clauses) := by
                  rw [Hid, ← H.out, HCS.out, if_pos (by rw [hasM, hf]; rfl), set_same HBk.out]
                have HT2 : Hid (∀ j, k + 1 ≤ j → j < f.clauses.length → ((B.set k false).set k true).getD j false = true) := fun j h1 h2 => by
                  rw [set_same HBk.out]; exact HT.out j (by omega) h2
                obtain ⟨g8, gc8, rfl⟩ := valuesN_slice ho hL1
                clear hf hb8 ho
                go_wp2
                go_roundw
                case rel => exact ⟨k + 1, _, by omega, by go_num, HR8.out.stored k true, HT2, HN, HB8.out.setCell (Nat.le_refl _) _⟩
                case measure => simp [intOf]; omega
        · obtain rfl : k = f.clauses.length := by omega
          have HCO : Hid (setN B 0 = coreOf L f.clauses) := by rw [Hid, ← H.out, Nat.sub_self]; rfl
          have HSET := Lib.hid (setOf_any _ B wr (hr.rd hr.lt (Nat.le_refl _)) (Nat.le_refl _) (by omega))
          rw [HCO.out] at HSET
          have HBB := Lib.hid (HBW3.out.trans (hb.mono (by omega)))
          clear hr hb hBl
          go_wp2_with fail
          refine HSET.out.mono ?_
          rintro e w9 ⟨u9, rfl, ho9, hb9⟩
          have HO9 := Lib.hid ho9
          have HB9 := Lib.hid (HBB.out.trans (hb9.mono (by omega)))
          clear ho9 hb9
          go_wp2
          go_ret2
          exact ⟨_, by rw [HE.out]; rfl, by rw [HE.out]; exact HO9.out.mono (by omega) (Nat.le_refl _) (Nat.le_refl _), HB9.out⟩
end Go.Proofs.Ytcpbgjnijhcpkaa

namespace Go.Proofs.Ytcpbgjnijhcpkaa
open Go.RowKit
set_option linter.unusedVariables false
set_option maxRecDepth 100000

def proveRes : Option (List (List Int)) → List (List Int) × Bool
  | some P => (P, true)
  | none => ([], false)
def proveNoF (f : FormD) : List (List Int) × Bool := if okCore f then proveRes (proveGo f.letters.toNat f.clauses 11 [] []) else ([], false)
theorem proveNo_no {f : FormD} (h : okCore f = false) : proveNoF f = ([], false) := by rw [proveNoF, h]; rfl
theorem proveNo_yes {f : FormD} {L : Nat} (h : okCore f = true) (hL : f.letters.toNat = L) : proveNoF f = proveRes (proveGo L f.clauses 11 [] []) := by rw [proveNoF, h, if_pos rfl, hL]
theorem emptyRows (w : World) : OwnII (w.alloc (.cells #[] 34)) w.heap.size (w.heap.size + 1) (.slice (some ⟨w.heap.size, 0, none⟩) 0 0) [] :=
  ⟨⟨[], rfl, ⟨World.ownsRow_lit w #[] 0 (Nat.le_refl _) (by simp [maxLen]) (by simp), fun k e => by simp [Value.ownBlock] at e; omega, by simp⟩, fun i h => by simp at h, fun i j _ h => by simp at h, fun i h => by simp at h⟩, by simp⟩
theorem noInts (w : World) (a : Option Addr) : Ints w 0 0 (.slice a 0 0) [] := ⟨⟨a, 0, rfl, Nat.le_refl _, by omega, .inl rfl⟩, by simp⟩
theorem form_lits {f : FormD} {L : Nat} (hL : f.letters = (L : Int)) (h : validForm f = true) : ∀ c ∈ f.clauses, ∀ x ∈ c, isLit (L : Int) x = true := by
  rw [← hL]; exact valid_lits h
set_option maxHeartbeats 2000000 in
set_option maxRecDepth 100000 in
theorem specProveNo_any (w : World) {l h : Nat} (v : Value) (f : FormD) (hv : FormR w l h v f) (hh : h ≤ w.heap.size) (hz : SmallII f.clauses) :
    Calls Try.prog 10 #[v] w fun e w' => ∃ r, e = .returned (.tuple #[r, .bool (proveNoF f).2]) ∧ OwnII w' w.heap.size w'.heap.size r (proveNoF f).1 ∧ Below w.heap.size w w' := by
  obtain ⟨u, rfl, hu⟩ := hv.ex
  have kL := hv.rng
  obtain ⟨ca, ccap, CV, rfl, cc1, cc2, CR, cd⟩ := hu.out
  obtain ⟨W, hW⟩ : ∃ W, W = w.alloc (.cells #[.int .i64 f.letters, .slice ca f.clauses.length ccap] 26) := ⟨_, rfl⟩
  have hBW : Below w.heap.size w W := by rw [hW]; exact alloc_below _ _
  have hsW : W.heap.size = w.heap.size + 1 := by rw [hW]; simp
  have hbx : BoxF W w.heap.size f.letters (.slice ca f.clauses.length ccap) := by rw [hW]; exact BoxF.new _ _ _ _
  have HU := Lib.hid (hu.below hBW hh)
  have HB := Lib.hid hbx
  have HBW := Lib.hid hBW
  have hW1 : w.heap.size < W.heap.size := by omega
  have hhW : h ≤ W.heap.size := by omega
  clear hbx hu hv cd CR hBW hsW
  go_enter Try.func10, Try.ntmps10
  go_wp2_with fail
  rw [← hW]
  clear hW
  refine (l05Is_any W _ _ f HB.out.c0 HB.out.c1 hW1 kL HU.out hhW).mono ?_
  rintro e w2 ⟨rfl, hb2⟩
  have hs2 := hb2.size
  have HB2 := Lib.hid (HB.out.below hb2 hW1)
  have HBW2 := Lib.hid (HBW.out.trans (hb2.mono (by omega)))
  have HU2 := Lib.hid (HU.out.below hb2 hhW)
  cases hval : validForm f
  · have HE := Lib.hid (proveNo_no (f := f) (by rw [okCore, hval]; rfl))
    clear hb2
    go_wp2
    go_ret2
    exact ⟨_, by rw [HE.out]; rfl, by rw [HE.out]; exact OwnII.nil _ _ _ (Nat.le_refl _), HBW2.out⟩
  obtain ⟨L, hL, hL1, hL2⟩ := lettersN hval
  have hLt : f.letters.toNat = L := by omega
  have hcl48 := (validForm_bounds hval).2.1
  have HLA := Lib.hid (litsAll_of_valid hL hval)
  have HLI := Lib.hid (form_lits hL hval)
  rw [hL] at HB2
  have HC := Lib.hid (l05First_any w.heap.size L _ f.clauses w2 HB2.out.c0 HB2.out.c1 HU2.out HLA.out hL2 (by omega))
  have HOK : Hid (okCore f = !hasM L f.clauses) := by rw [Hid, okCore, hval, hLt]; rfl
  have HLT := Lib.hid hLt
  have HZ := Lib.hid hz
  clear hval hb2 hLt hz
  go_wp2_with fail
  refine HC.out.mono ?_
  rintro e w3 ⟨hd3, ⟨rfl, hf⟩ | ⟨n, hn1, rfl, hf⟩⟩
  case inr =>
    have HE : Hid (proveNoF f = ([], false)) := proveNo_no (by rw [HOK.out, hasM, hf]; rfl)
    have HD3 := Lib.hid hd3
    have hnn : (0 : Int) ≤ (n : Int) := by omega
    clear hf hd3
    go_wp2
    go_ret2
    exact ⟨_, by rw [HE.out]; rfl, by rw [HE.out]; exact OwnII.nil _ _ _ (Nat.le_refl _), HBW2.out.trans (HD3.out.below _)⟩
  have HE : Hid (proveNoF f = proveRes (proveGo L f.clauses 11 [] [])) := proveNo_yes (by rw [HOK.out, hasM, hf]; rfl) HLT.out
  have hs3 : w2.heap.size ≤ w3.heap.size := by rw [hd3.heap]; exact Nat.le_refl _
  have HBW3 := Lib.hid (HBW2.out.trans (hd3.below w.heap.size))
  have HB3 := Lib.hid (HB2.out.drew hd3)
  have HU3 := Lib.hid (HU2.out.drew hd3)
  have hb4 : Below w3.heap.size w3 (w3.alloc (.cells #[] 2)) := alloc_below _ _
  have hs4 : (w3.alloc (.cells #[] 2)).heap.size = w3.heap.size + 1 := by simp
  have hb5 : Below (w3.alloc (.cells #[] 2)).heap.size (w3.alloc (.cells #[] 2)) ((w3.alloc (.cells #[] 2)).alloc (.cells #[] 34)) := alloc_below _ _
  have hs5 : ((w3.alloc (.cells #[] 2)).alloc (.cells #[] 34)).heap.size = w3.heap.size + 1 + 1 := by simp
  have ho5 := emptyRows (w3.alloc (.cells #[] 2))
  obtain ⟨W5, hW5⟩ : ∃ W, W = (w3.alloc (.cells #[] 2)).alloc (.cells #[] 34) := ⟨_, rfl⟩
  rw [← hW5] at hb5 hs5 ho5
  rw [hs4] at hb5 ho5
  have hB5 : Below w3.heap.size w3 W5 := hb4.trans (hb5.mono (by omega))
  have HPR := Lib.hid (l05Prove_any 11 W5 w.heap.size L _ (.slice (some ⟨w3.heap.size, 0, none⟩) 0 0) (.slice (some ⟨w3.heap.size + 1, 0, none⟩) 0 0) f.clauses [] [] (lo := w3.heap.size + 1)
    (HB3.out.below hB5 (by omega)).c0 (HB3.out.below hB5 (by omega)).c1 (by omega) (HU3.out.below hB5 (by omega)) (by omega) HZ.out HLI.out (noInts _ _) (Nat.zero_le _) (fun p _ => .inr (Nat.zero_le _)) (Cons.nil _)
    (ho5.mono (Nat.le_refl _) (by omega) (Nat.le_refl _)) (by omega) (by simp) (by simp) hL2 (by simp))
  have HB5 := Lib.hid (HBW3.out.trans (hB5.mono (by omega)))
  clear hf hd3 HC HOK ho5 hb4 hb5 hB5
  go_wp2_with fail
  rw [← hW5]
  clear hW5
  refine HPR.out.mono ?_
  rintro e w6 ⟨hk6, ⟨hn6, rfl⟩ | ⟨P, r6, he6, rfl, ho6, hb6⟩⟩
  all_goals
    have HB6 := Lib.hid (HB5.out.trans (hk6.below (B := w.heap.size) (by omega) (fun p hp => by simp [Value.ownBlock] at hp; omega)))
    clear hk6
  · have HE2 : Hid (proveNoF f = ([], false)) := by rw [Hid, HE.out, hn6]; rfl
    clear hn6
    go_wp2
    go_ret2
    exact ⟨_, by rw [HE2.out]; rfl, by rw [HE2.out]; exact OwnII.nil _ _ _ (Nat.le_refl _), HB6.out⟩
  · have HE2 : Hid (proveNoF f = (P, true)) := by rw [Hid, HE.out, he6]; rfl
    have HO6 := Lib.hid ho6
    clear he6 ho6 hb6
    go_wp2
    go_ret2
    exact ⟨r6, by rw [HE2.out]; rfl, by rw [HE2.out]; exact HO6.out.mono (by omega) (Nat.le_refl _) (Nat.le_refl _), HB6.out⟩
set_option maxHeartbeats 2000000 in
set_option maxRecDepth 100000 in
theorem implProveNo_any (w : World) {l h : Nat} (v : Value) (f : FormD) (hv : FormR w l h v f) (hh : h ≤ w.heap.size) (hz : SmallII f.clauses) :
    Calls Try.prog 11 #[v] w fun e w' => ∃ r, e = .returned (.tuple #[r, .bool (proveNoF f).2]) ∧ OwnII w' w.heap.size w'.heap.size r (proveNoF f).1 ∧ Below w.heap.size w w' := by
  have qT : ∀ (w : World) (a : Option Addr) (n c n' c' : Nat), (binOp .neq 40 (.slice a n c) (.slice none n' c')).run Try.prog w = .ok (.bool (!a.isNone)) w := fun w a n c n' c' => run_neq_slice_nil_any w _ _ a n c n' c' Try.underlying40
  obtain ⟨u, rfl, hu⟩ := hv.ex
  obtain ⟨ca, ccap, CV, rfl, cc1, cc2, CR, cd⟩ := hu.out
  obtain ⟨W, hW⟩ : ∃ W, W = w.alloc (.cells #[.int .i64 f.letters, .slice ca f.clauses.length ccap] 26) := ⟨_, rfl⟩
  have hBW : Below w.heap.size w W := by rw [hW]; exact alloc_below _ _
  have hsW : W.heap.size = w.heap.size + 1 := by rw [hW]; simp
  have hbx : BoxF W w.heap.size f.letters (.slice ca f.clauses.length ccap) := by rw [hW]; exact BoxF.new _ _ _ _
  have HU := Lib.hid (hu.below hBW hh)
  have HF := Lib.hid (hv.below hBW hh)
  have HB := Lib.hid hbx
  have HBW := Lib.hid hBW
  have HZ := Lib.hid hz
  have hW1 : w.heap.size < W.heap.size := by omega
  have k0 := hbx.c0
  have k1 := hbx.c1
  clear hbx hu hv cd CR hBW hsW
  go_enter Try.func11, Try.ntmps11
  go_wp2_with fail
  rw [← hW]
  clear hW
  go_wp2_with fail
  refine (implValidForm_any W _ _ HF.out (by omega) hz).mono ?_
  rintro e w2 ⟨rfl, hb2⟩
  clear k0 k1
  have hs2 := hb2.size
  have k0 := (HB.out.below hb2 hW1).c0
  have k1 := (HB.out.below hb2 hW1).c1
  have HB2 := Lib.hid (HB.out.below hb2 hW1)
  have HBW2 := Lib.hid (HBW.out.trans (hb2.mono (by omega)))
  have HU2 := Lib.hid (HU.out.below hb2 (by omega))
  cases hval : validForm f
  · have HE := Lib.hid (proveNo_no (f := f) (by rw [okCore, hval]; rfl))
    go_wp2
    go_ret2
    exact ⟨_, by rw [HE.out]; rfl, by rw [HE.out]; exact OwnII.nil _ _ _ (Nat.le_refl _), HBW2.out⟩
  obtain ⟨L, hL, hL1, hL2⟩ := lettersN hval
  have hLt : f.letters.toNat = L := by omega
  have hcl48 := (validForm_bounds hval).2.1
  have HLA := Lib.hid (litsAll_of_valid hL hval)
  have HLI := Lib.hid (form_lits hL hval)
  have HC := Lib.hid (firstModelOf_any w2 L _ f.clauses (HU.out.below hb2 (by omega)) (by omega) HLA.out (by omega) hL2 hL1)
  rw [hL] at k0 HB2
  have HOK : Hid (okCore f = !hasM L f.clauses) := by rw [Hid, okCore, hval, hLt]; rfl
  have HLT := Lib.hid hLt
  clear hval hb2 hLt
  go_wp2_with fail
  refine HC.out.mono ?_
  rintro e w3 ⟨r, rfl, hb3, ⟨hf, rfl⟩ | ⟨n, hf, ho⟩⟩
  case inr =>
    have HE : Hid (proveNoF f = ([], false)) := proveNo_no (by rw [HOK.out, hasM, hf]; rfl)
    obtain ⟨g, gc, rfl⟩ := valuesN_slice ho hL1
    clear hf ho
    go_wp2
    go_ret2
    exact ⟨_, by rw [HE.out]; rfl, by rw [HE.out]; exact OwnII.nil _ _ _ (Nat.le_refl _), HBW2.out.trans (hb3.mono (by omega))⟩
  have HE : Hid (proveNoF f = proveRes (proveGo L f.clauses 11 [] [])) := proveNo_yes (by rw [HOK.out, hasM, hf]; rfl) HLT.out
  have hs3 := hb3.size
  have HBW3 := Lib.hid (HBW2.out.trans (hb3.mono (by omega)))
  have HB3 := Lib.hid (HB2.out.below hb3 (by omega))
  have HU3 := Lib.hid (HU2.out.below hb3 (by omega))
  clear k0 k1
  have k0 := HB3.out.c0
  have k1 := HB3.out.c1
  have HPR := Lib.hid (prove_any 11 w3 L _ (.slice none 0 0) (.slice none 0 0) f.clauses [] [] (lo := w3.heap.size)
    HU3.out (by omega) HZ.out HLI.out (noInts _ _) (Nat.zero_le _) (fun p _ => .inr (Nat.zero_le _)) (Cons.nil _)
    (OwnII.nil _ _ _ (Nat.le_refl _)) (Nat.le_refl _) (by simp) (by simp) hL2 (by simp))
  clear hf hb3 HC HOK
  go_wp2_with fail
  refine HPR.out.mono ?_
  rintro e w6 ⟨hk6, ⟨hn6, r6, rfl⟩ | ⟨P, r6, he6, rfl, ho6, hb6⟩⟩
  all_goals
    have HB6 := Lib.hid (HBW3.out.trans (hk6.below (B := w.heap.size) (by omega) (fun p hp => by simp [Value.ownBlock] at hp)))
    clear hk6
  · have HE2 : Hid (proveNoF f = ([], false)) := by rw [Hid, HE.out, hn6]; rfl
    clear hn6
    go_wp2
    go_ret2
    exact ⟨_, by rw [HE2.out]; rfl, by rw [HE2.out]; exact OwnII.nil _ _ _ (Nat.le_refl _), HB6.out⟩
  · have HE2 : Hid (proveNoF f = (P, true)) := by rw [Hid, HE.out, he6]; rfl
    have HO6 := Lib.hid ho6
    clear he6 ho6 hb6
    go_wp2
    go_ret2
    exact ⟨r6, by rw [HE2.out]; rfl, by rw [HE2.out]; exact HO6.out.mono (by omega) (Nat.le_refl _) (Nat.le_refl _), HB6.out⟩
end Go.Proofs.Ytcpbgjnijhcpkaa

