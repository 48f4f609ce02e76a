/-
  Contracts of HoldsBy and CountModels, in the reference and in the program.
-/
import Derived.Test.YtcpbgjnijhcpkaaEach
namespace Go.Proofs.Ytcpbgjnijhcpkaa
open Go.RowKit
set_option linter.unusedVariables false
set_option maxRecDepth 100000

/-- a block of one cell that may be written -/
structure OneC (w : World) (q : Nat) (t : TypeId) (v : Value) : Prop where
  b : w.heap[q]? = some (.cells #[v] t (0, 0))
section
variable {w w' : World} {q : Nat} {t : TypeId} {v : Value}
theorem OneC.lt (h : OneC w q t v) : q < w.heap.size := lt_of_block h.b
theorem OneC.cell (h : OneC w q t v) : w.cell? ⟨q, 0, none⟩ = some v := cell_of_one h.b
theorem OneC.free (h : OneC w q t v) : w.frozen? ⟨q, 0, none⟩ = false := free_of_one h.b
theorem OneC.below {B : Nat} (h : OneC w q t v) (hb : Below B w w') (hB : q < B) : OneC w' q t v := ⟨by rw [hb.block q hB]; exact h.b⟩
theorem OneC.drew (h : OneC w q t v) (hd : Drew w w') : OneC w' q t v := ⟨by rw [hd.heap]; exact h.b⟩
theorem OneC.same {l r : Nat} (h : OneC w q t v) (hs : Same l r w w') (hB : q < l ∨ r ≤ q) : OneC w' q t v := ⟨by rw [hs.block q h.lt (by omega)]; exact h.b⟩
theorem OneC.set (h : OneC w q t v) (u : Value) : OneC (w.setCell ⟨q, 0, none⟩ u) q t u := ⟨one_setCell h.b⟩
theorem OneC.new (w : World) (t : TypeId) (v : Value) : OneC (w.alloc (.cells #[v] t)) w.heap.size t v := ⟨heap_alloc_new w _⟩
end
theorem setAt_same (w : World) (q : Nat) (u : Value) : Same q (q + 1) w (w.setCell ⟨q, 0, none⟩ u) := (Same.refl q (q + 1) w).setCell (p := ⟨q, 0, none⟩) (Nat.le_refl _) (Nat.lt_succ_self _) u
theorem lettersN {f : FormD} (h : validForm f = true) : ∃ L : Nat, f.letters = (L : Int) ∧ 1 ≤ L ∧ L ≤ 10 := by
  have hb := (validForm_bounds h).1
  exact ⟨f.letters.toNat, by omega, by omega, by omega⟩
set_option maxHeartbeats 800000 in
set_option maxRecDepth 100000 in
theorem holds_any {l h l' h' : Nat} (L : Int) (u v : Value) (cs : List (List Int)) (bs : List Bool) (w : World) (hu : Intss w l h u cs) (hv : Bools w l' h' v bs) (hh : h ≤ w.heap.size) (hh' : h' ≤ w.heap.size) (hl : LitsAll bs.length cs) (hz : bs.length ≤ 1048576) (hn : cs.length ≤ 1048576) :
    Calls Try.prog 81 #[.agg #[.int .i64 L, u], v] w fun e w' => e = .returned (.bool (formTrue bs cs)) ∧ Below w.heap.size w w' := by
  obtain ⟨W, hW⟩ : ∃ W, W = w.alloc (.cells #[.int .i64 L, u] 26) := ⟨_, rfl⟩
  have hBW : Below w.heap.size w W := by rw [hW]; exact alloc_below _ _
  have hbx : BoxF W w.heap.size L u := by rw [hW]; exact BoxF.new _ _ _ _
  have hu2 := hu.below hBW hh
  have hv2 := hv.below hBW hh'
  obtain ⟨a, cap, V, e, _⟩ := hu2.out
  subst e
  have k0 := hbx.c0
  have k1 := hbx.c1
  have HL := Lib.hid hl
  clear hl hu hv
  go_enter Try.func81, Try.ntmps81
  go_wp2_with fail
  rw [← hW]
  clear hW
  go_wp2_with fail
  go_quiet ((go_at_call 77; exact quiet_same (held_any _ _ _ _ _ (hu2.drew (Drew.one _ _)) (hv2.drewN _) HL.out hz hn)))
  go_wp2
  go_ret
  exact ⟨ret_bool (beq_cast _ _), hBW.trans ((Drew.one W _).below _)⟩
/-- what HoldsBy returns -/
def holdsBy (f : FormD) (bs : List Bool) : Bool × Bool := if validForm f && decide ((bs.length : Int) = f.letters) then (formTrue bs f.clauses, true) else (false, false)
set_option maxHeartbeats 1600000 in
set_option maxRecDepth 100000 in
theorem implHoldsBy_any (w : World) {l h l' h' : Nat} (v : Value) (f : FormD) (v' : Value) (bs : List Bool) (hv : FormR w l h v f) (hh : h ≤ w.heap.size) (hz : SmallII f.clauses) (hv' : Bools w l' h' v' bs) (hh' : h' ≤ w.heap.size) (hz' : bs.length ≤ 1048576) :
    Calls Try.prog 28 #[v, v'] w fun e w' => e = .returned (.tuple #[.bool (holdsBy f bs).1, .bool (holdsBy f bs).2]) ∧ Below w.heap.size w w' := by
  obtain ⟨u, rfl, hu⟩ := hv.ex
  obtain ⟨W, hW⟩ : ∃ W, W = w.alloc (.cells #[.int .i64 f.letters, u] 26) := ⟨_, rfl⟩
  have hBW : Below w.heap.size w W := by rw [hW]; exact alloc_below _ _
  have hsW : W.heap.size = w.heap.size + 1 := by rw [hW]; simp
  have hbx : BoxF W w.heap.size f.letters u := by rw [hW]; exact BoxF.new _ _ _ _
  have hf := hv.below hBW hh
  have hv2 := hv'.below hBW hh'
  have hu2 := hu.below hBW hh
  obtain ⟨a, cap, e, _⟩ := hv2.out
  subst e
  have hdD : Drew W W.drew := ⟨1, rfl⟩
  have hK : Hid (∀ w' : World, Below W.heap.size W w' → w'.cell? ⟨w.heap.size, 0, none⟩ = some (.int .i64 f.letters) ∧ w'.cell? ⟨w.heap.size, 1, none⟩ = some u) := fun w' hb => ⟨(hbx.below hb hbx.lt).c0, (hbx.below hb hbx.lt).c1⟩
  have HU := Lib.hid hu2
  have HV := Lib.hid hv2
  have HF := Lib.hid hf
  have HB := Lib.hid hbx
  have kL := hv.rng
  clear hu2 hv2 hf hbx hu hv hv'
  cases hval : validForm f
  · go_enter Try.func28, Try.ntmps28
    go_wp2_with fail
    rw [← hW]
    clear hW
    have kk := hK.out _ (hdD.below _)
    have k0 := kk.1
    have k1 := kk.2
    clear hK kk
    refine wp_region_any (by kernel_rfl) ?_
    try (change wpAny _ _ _ _ _ _ _ (World.drew _))
    refine wpAny_ready (rs := [0]) (by kernel_rfl) (by simp) ?_
    refine AllReady.cons rfl (fun K hK => ?_) AllReady.nil
    go_simp
    refine hK _ _ ?_
    clear hK K
    refine wpAny_ready (rs := [1]) (by kernel_rfl) (by simp) ?_
    refine AllReady.cons rfl (fun K hK => ?_) AllReady.nil
    go_simp
    refine (implValidForm_any W.drew _ _ (HF.out.drew hdD) (by rw [hdD.heap]; omega) hz).mono ?_
    rintro e w2 ⟨rfl, hb2'⟩
    have hb2 : Below W.heap.size W w2 := (hdD.below _).trans hb2'
    go_wp2_with fail
    refine wpAny_ready (rs := [2]) (by kernel_rfl) (by simp) ?_
    refine AllReady.cons rfl (fun K hK => ?_) AllReady.nil
    go_simp
    refine hK _ _ ?_
    clear hK K
    refine wpAny_ready (rs := [3]) (by kernel_rfl) (by simp) ?_
    refine AllReady.cons rfl (fun K hK => ?_) AllReady.nil
    go_simp
    refine hK _ _ ?_
    clear hK K
    refine wpAny_take (i := 4) (v := undef) rfl (by kernel_rfl) (by kernel_rfl) (by kernel_rfl) (fun _ _ _ h => h) (Or.inr ⟨by rfl, rfl⟩) ?_
    refine wpAny_take (i := 5) (v := undef) rfl (by kernel_rfl) (by kernel_rfl) (by kernel_rfl) (fun _ _ _ h => h) (Or.inr ⟨by rfl, rfl⟩) ?_
    refine wpAny_take (i := 6) (v := undef) rfl (by kernel_rfl) (by kernel_rfl) (by kernel_rfl) (fun _ _ _ h => h) (Or.inr ⟨by rfl, rfl⟩) ?_
    refine wpAny_take (i := 7) (v := undef) rfl (by kernel_rfl) (by kernel_rfl) (by kernel_rfl) (fun _ _ _ h => h) (Or.inr ⟨by rfl, rfl⟩) ?_
    refine wpAny_take (i := 8) (v := undef) rfl (by kernel_rfl) (by kernel_rfl) (by kernel_rfl) (fun _ _ _ h => h) (Or.inr ⟨by rfl, rfl⟩) ?_
    refine wpAny_take (i := 9) (v := undef) rfl (by kernel_rfl) (by kernel_rfl) (by kernel_rfl) (fun _ _ _ h => h) (Or.inr ⟨by rfl, rfl⟩) ?_
    refine wpAny_ready (rs := [10]) (by kernel_rfl) (by simp) ?_
    refine AllReady.cons rfl (fun K hK => ?_) AllReady.nil
    go_simp
    refine hK _ _ ?_
    clear hK K
    refine wpAny_done (by kernel_rfl) ?_ _
    go_wp2_with fail
    go_ret2
    exact ⟨by simp [holdsBy, hval], hBW.trans (hb2.mono hBW.size)⟩
  cases hq : decide ((bs.length : Int) = f.letters)
  all_goals
    go_enter Try.func28, Try.ntmps28
    go_wp2_with fail
    rw [← hW]
    clear hW
    go_region_held3 (fun w' => w'.cell? ⟨w.heap.size, 0, none⟩ = some (.int .i64 f.letters) ∧ w'.cell? ⟨w.heap.size, 1, none⟩ = some u) (first | exact hK.out _ (hdD.below _) | exact hK.out _ hb2) (first | (go_at_call 25; refine (implValidForm_any W.drew _ _ (HF.out.drew hdD) (by rw [hdD.heap]; omega) hz).mono ?_; rintro e w2 ⟨rfl, hb2'⟩; have hb2 : Below W.heap.size W w2 := (hdD.below _).trans hb2') | (go_at_call 85; refine (size_any _ (by omega) _).mono ?_; rintro e w' ⟨rfl, rfl⟩))
  · have hne : ((bs.length : Int) != f.letters) = true := by simpa using hq
    go_wp2_with fail
    go_ret2
    exact ⟨by simp [holdsBy, hval, of_decide_eq_false hq], hBW.trans (hb2.mono hBW.size)⟩
  · have hne : ((bs.length : Int) != f.letters) = false := by simpa using hq
    have kk := hK.out _ hb2
    have k0 := kk.1
    have k1 := kk.2
    have hq' := of_decide_eq_true hq
    have HL := Lib.hid (litsAll_of_valid hq'.symm hval)
    have hs2 := hb2.size
    have HE := Lib.hid (show holdsBy f bs = (formTrue bs f.clauses, true) by simp [holdsBy, hval, hq'])
    clear kk hq hq'
    go_wp2_with fail
    refine (holds_any _ _ _ _ _ _ (HU.out.below hb2 (by omega)) (HV.out.below hb2 (by omega)) (by omega) (by omega) HL.out hz' (by have := hz.1; omega)).mono ?_
    rintro e w3 ⟨rfl, hb3⟩
    go_wp2
    go_ret2
    exact ⟨by rw [HE.out]; rfl, hBW.trans ((hb2.trans (hb3.mono hs2)).mono hBW.size)⟩
def numGo : Nat → List Bool → Nat
  | a, [] => a
  | a, b :: r => numGo (2 * a + b.toNat) r
theorem numGo_append (a : Nat) (bs : List Bool) (b : Bool) : numGo a (bs ++ [b]) = 2 * numGo a bs + b.toNat := by
  induction bs generalizing a with
  | nil => rfl
  | cons x r ih => exact ih _
theorem bitN_zero (a : Nat) (b : Bool) : bitN (2 * a + b.toNat) 0 = b := by
  unfold bitN; cases b <;> simp <;> omega
theorem bitN_succ (a k : Nat) (b : Bool) : bitN (2 * a + b.toNat) (k + 1) = bitN a k := by
  unfold bitN
  rw [Nat.pow_succ, Nat.mul_comm (2 ^ k) 2, ← Nat.div_div_eq_div_mul]
  have : (2 * a + b.toNat) / 2 = a := by have := b.toNat_le; omega
  rw [this]
theorem valuesN_succ (L a : Nat) (b : Bool) : valuesN (L + 1) (2 * a + b.toNat) = valuesN L a ++ [b] := by
  unfold valuesN
  rw [List.range_succ, List.map_append]
  congr 1
  · apply List.map_congr_left
    intro i hi
    rw [List.mem_range] at hi
    rw [show L + 1 - 1 - i = (L - 1 - i) + 1 by omega, bitN_succ]
  · simp only [List.map_cons, List.map_nil]
    rw [show L + 1 - 1 - L = 0 by omega, bitN_zero]
theorem valuesN_numGo (bs : List Bool) : valuesN bs.length (numGo 0 bs) = bs := by
  have : ∀ rs : List Bool, valuesN rs.length (numGo 0 rs.reverse) = rs.reverse := by
    intro rs
    induction rs with
    | nil => rfl
    | cons b r ih => rw [List.reverse_cons, numGo_append, List.length_cons, valuesN_succ, ih]
  have h := this bs.reverse
  rwa [List.length_reverse, List.reverse_reverse] at h
set_option maxHeartbeats 1600000 in
set_option maxRecDepth 100000 in
theorem specHoldsBy_any (w : World) {l h l' h' : Nat} (v : Value) (f : FormD) (v' : Value) (bs : List Bool) (hv : FormR w l h v f) (hh : h ≤ w.heap.size) (hz : SmallII f.clauses) (hv' : Bools w l' h' v' bs) (hh' : h' ≤ w.heap.size) (hz' : bs.length ≤ 1048576) :
    Calls Try.prog 27 #[v, v'] w fun e w' => e = .returned (.tuple #[.bool (holdsBy f bs).1, .bool (holdsBy f bs).2]) ∧ Below w.heap.size w w' := by
  obtain ⟨u, rfl, hu⟩ := hv.ex
  have kL := hv.rng
  obtain ⟨W, hW⟩ : ∃ W, W = w.alloc (.cells #[.int .i64 f.letters, u] 26) := ⟨_, rfl⟩
  have hBW : Below w.heap.size w W := by rw [hW]; exact alloc_below _ _
  have hsW : W.heap.size = w.heap.size + 1 := by rw [hW]; simp
  have hbx : BoxF W w.heap.size f.letters u := by rw [hW]; exact BoxF.new _ _ _ _
  have hv2 := hv'.below hBW hh'
  have HU := Lib.hid (hu.below hBW hh)
  obtain ⟨a, cap, rfl, hc1, hc2, hd⟩ := hv2.out
  have HB := Lib.hid hbx
  clear hbx hu hv hv' hv2
  go_enter Try.func27, Try.ntmps27
  go_wp2_with fail
  rw [← hW]
  clear hW
  refine (l05Is_any W _ _ f HB.out.c0 HB.out.c1 (by omega) kL HU.out (by omega)).mono ?_
  rintro e w2 ⟨rfl, hb2⟩
  have hs2 := hb2.size
  have hbx := HB.out.below hb2 HB.out.lt
  have hc0 := hbx.c0
  have hc1' := hbx.c1
  cases hval : validForm f
  · go_wp2
    go_ret2
    exact ⟨by simp [holdsBy, hval], hBW.trans (hb2.mono hBW.size)⟩
  cases hq : decide ((bs.length : Int) = f.letters)
  · have hne : ((bs.length : Int) != f.letters) = true := by simpa using hq
    go_wp2
    go_ret2
    exact ⟨by simp [holdsBy, hval, of_decide_eq_false hq], hBW.trans (hb2.mono hBW.size)⟩
  · have hq' := of_decide_eq_true hq
    have HL := Lib.hid (litsAll_of_valid hq'.symm hval)
    have HE := Lib.hid (show holdsBy f bs = (formTrue bs f.clauses, true) by simp [holdsBy, hval, hq'])
    have hne : ((bs.length : Int) != f.letters) = false := by simp [hq']
    have hL10 : bs.length ≤ 10 := by have := (validForm_bounds hval).1; omega
    have HQ := Lib.hid hq'
    clear hq hq'
    go_wp2
    clear hne hc0 hc1'
    go_loop [6, 19] (fun c i => ∃ k m : Nat, k ≤ bs.length ∧ i = .int .i64 k ∧ c = .int .i64 m ∧ m < 1024 ∧ Hid (m < 2 ^ k ∧ numGo m (bs.drop k) = numGo 0 bs)) (fun _ i => bs.length - (intOf i).toNat)
    case atStart => exact ⟨0, 0, Nat.zero_le _, rfl, rfl, by omega, Lib.hid ⟨by simp, by simp⟩⟩
    case round =>
      obtain ⟨k, m, hk, rfl, rfl, hm, H⟩ := hrel
      by_cases hlt : k < bs.length
      · have HD := Lib.hid (drop_cons bs k hlt)
        rcases hd with rfl | ⟨b, off, rfl, hb1, hbb2, hbb3, hcell⟩
        · simp at hlt
        have hck := hcell k hlt
        rw [← hb2.cell (p := ⟨b, off + k, none⟩) (show b < W.heap.size by omega)] at hck
        clear hcell
        have hg : Hid (bs.getD k false = bs[k]) := by simp [Hid, List.getD, hlt]
        have hM : Hid (2 * m + (bs[k]).toNat < 2 ^ (k + 1) ∧ 2 * m + (bs[k]).toNat < 1024) := by
          have h1 := H.out.1
          have h2 : 2 * m + (bs[k]).toNat < 2 ^ (k + 1) := by rw [Nat.pow_succ]; have := (bs[k]).toNat_le; omega
          have h3 : 2 ^ (k + 1) ≤ 2 ^ 10 := Nat.pow_le_pow_right (by decide) (by omega)
          exact ⟨h2, by omega⟩
        cases hin : bs.getD k false
        · have hx : Hid (bs[k] = false) := hg.out.symm.trans hin
          rw [hin] at hck
          go_wp2
          go_round
          case rel => exact ⟨k + 1, 2 * m, by omega, by go_num, by go_num, by have := hM.out; rw [hx.out] at this; simp at this; omega, Lib.hid ⟨by have := hM.out.1; rw [hx.out] at this; simpa using this, by rw [← H.out.2, HD.out, numGo, hx.out]; simp⟩⟩
          case measure => simp [intOf]; omega
        · have hx : Hid (bs[k] = true) := hg.out.symm.trans hin
          rw [hin] at hck
          go_wp2
          go_round
          case rel => exact ⟨k + 1, 2 * m + 1, by omega, by go_num, by go_num, by have := hM.out; rw [hx.out] at this; simp at this; omega, Lib.hid ⟨by have := hM.out.1; rw [hx.out] at this; simpa using this, by rw [← H.out.2, HD.out, numGo, hx.out]; simp⟩⟩
          case measure => simp [intOf]; omega
      · obtain rfl : k = bs.length := by omega
        have hm2 : m = numGo 0 bs := by have := H.out.2; rwa [drop_len _ _ (Nat.le_refl _)] at this
        have Hm := Lib.hid hm2
        clear hm2
        have hp0 := hbx.c0
        rw [← HQ.out] at hp0
        have Hp0 := Lib.hid hp0
        clear hp0
        go_wp2_with fail
        refine (l05Model_any _ bs.length m _ f.clauses w2 Hp0.out hbx.c1 (HU.out.below hb2 (by omega)) HL.out hL10 (by omega) (by have := hz.1; omega)).mono ?_
        rintro e w3 ⟨rfl, hD3⟩
        go_wp2
        go_ret2
        exact ⟨by rw [HE.out, Hm.out, valuesN_numGo]; rfl, hBW.trans ((hb2.trans (hD3.below _)).mono hBW.size)⟩
end Go.Proofs.Ytcpbgjnijhcpkaa
