/-
  Contracts of HoldsBy and CountModels, in the reference and in the program.
-/
import Derived.Test.YtdeelgnfnhdklaaEach
namespace Go.Proofs.Ytdeelgnfnhdklaa
open Go.RowKit
set_option linter.unusedVariables false

/-- a block of one cell that may be written -/
structure OneC (w : World) (q : Nat) (t : TypeId) (v : Value) : Prop where
  b : w.heap[q]? = some (.cells #[v] t (0, 0))
section
variable {w w' : World} {q : Nat} {t : TypeId} {v : Value}
theorem OneC.lt (h : OneC w q t v) : q < w.heap.size := lt_of_block h.b
theorem OneC.cell (h : OneC w q t v) : w.cell? ⟨q, 0, none⟩ = some v := cell_of_one h.b
theorem OneC.free (h : OneC w q t v) : w.frozen? ⟨q, 0, none⟩ = false := free_of_one h.b
theorem OneC.below {B : Nat} (h : OneC w q t v) (hb : Below B w w') (hB : q < B) : OneC w' q t v := ⟨by rw [hb.block q hB]; exact h.b⟩
theorem OneC.drew (h : OneC w q t v) (hd : Drew w w') : OneC w' q t v := ⟨by rw [hd.heap]; exact h.b⟩
theorem OneC.same {l r : Nat} (h : OneC w q t v) (hs : Same l r w w') (hB : q < l ∨ r ≤ q) : OneC w' q t v := ⟨by rw [hs.block q h.lt (by omega)]; exact h.b⟩
theorem OneC.set (h : OneC w q t v) (u : Value) : OneC (w.setCell ⟨q, 0, none⟩ u) q t u := ⟨one_setCell h.b⟩
theorem OneC.new (w : World) (t : TypeId) (v : Value) : OneC (w.alloc (.cells #[v] t)) w.heap.size t v := ⟨heap_alloc_new w _⟩
end
theorem setAt_same (w : World) (q : Nat) (u : Value) : Same q (q + 1) w (w.setCell ⟨q, 0, none⟩ u) := (Same.refl q (q + 1) w).setCell (p := ⟨q, 0, none⟩) (Nat.le_refl _) (Nat.lt_succ_self _) u
theorem lettersN {f : FormD} (h : validForm f = true) : ∃ L : Nat, f.letters = (L : Int) ∧ 1 ≤ L ∧ L ≤ 10 := by
  have hb := (validForm_bounds h).1
  exact ⟨f.letters.toNat, by omega, by omega, by omega⟩
set_option maxHeartbeats 800000 in
set_option maxRecDepth 100000 in
theorem holds_any {l h l' h' : Nat} (L : Int) (u v : Value) (cs : List (List Int)) (bs : List Bool) (w : World) (hu : Intss w l h u cs) (hv : Bools w l' h' v bs) (hh : h ≤ w.heap.size) (hh' : h' ≤ w.heap.size) (hl : LitsAll bs.length cs) (hz : bs.length ≤ 1048576) (hn : cs.length ≤ 1048576) :
    Calls Try.prog 105 #[.agg #[.int .i64 L, u], v] w fun e w' => e = .returned (.bool (formTrue bs cs)) ∧ Below w.heap.size w w' := by
  obtain ⟨W, hW⟩ : ∃ W, W = w.alloc (.cells #[.int .i64 L, u] 29) := ⟨_, rfl⟩
  have hBW : Below w.heap.size w W := by rw [hW]; exact alloc_below _ _
  have hbx : BoxF W w.heap.size L u := by rw [hW]; exact BoxF.new _ _ _ _
  have hu2 := hu.below hBW hh
  have hv2 := hv.below hBW hh'
  obtain ⟨a, cap, V, e, _⟩ := hu2.out
  subst e
  have k0 := hbx.c0
  have k1 := hbx.c1
  have HL := Lib.hid hl
  clear hl hu hv
  go_enter Try.func105, Try.ntmps105
  go_wp2_with fail
  rw [← hW]
  clear hW
  go_wp2_with fail
  go_quiet ((go_at_call 113; exact quiet_same (held_any _ _ _ _ _ (hu2.drew (Drew.one _ _)) (hv2.drewN _) HL.out hz hn)))
  go_wp2
  go_ret
  exact ⟨ret_bool (beq_cast _ _), hBW.trans ((Drew.one W _).below _)⟩
/-- what HoldsBy returns -/
def holdsBy (f : FormD) (bs : List Bool) : Bool × Bool := if validForm f && decide ((bs.length : Int) = f.letters) then (formTrue bs f.clauses, true) else (false, false)
def numGo : Nat → List Bool → Nat
  | a, [] => a
  | a, b :: r => numGo (2 * a + b.toNat) r
theorem numGo_append (a : Nat) (bs : List Bool) (b : Bool) : numGo a (bs ++ [b]) = 2 * numGo a bs + b.toNat := by
  induction bs generalizing a with
  | nil => rfl
  | cons x r ih => exact ih _
theorem bitN_zero (a : Nat) (b : Bool) : bitN (2 * a + b.toNat) 0 = b := by
  unfold bitN; cases b <;> simp <;> omega
theorem bitN_succ (a k : Nat) (b : Bool) : bitN (2 * a + b.toNat) (k + 1) = bitN a k := by
  unfold bitN
  rw [Nat.pow_succ, Nat.mul_comm (2 ^ k) 2, ← Nat.div_div_eq_div_mul]
  have : (2 * a + b.toNat) / 2 = a := by have := b.toNat_le; omega
  rw [this]
theorem valuesN_succ (L a : Nat) (b : Bool) : valuesN (L + 1) (2 * a + b.toNat) = valuesN L a ++ [b] := by
  unfold valuesN
  rw [List.range_succ, List.map_append]
  congr 1
  · apply List.map_congr_left
    intro i hi
    rw [List.mem_range] at hi
    rw [show L + 1 - 1 - i = (L - 1 - i) + 1 by omega, bitN_succ]
  · simp only [List.map_cons, List.map_nil]
    rw [show L + 1 - 1 - L = 0 by omega, bitN_zero]
theorem valuesN_numGo (bs : List Bool) : valuesN bs.length (numGo 0 bs) = bs := by
  have : ∀ rs : List Bool, valuesN rs.length (numGo 0 rs.reverse) = rs.reverse := by
    intro rs
    induction rs with
    | nil => rfl
    | cons b r ih => rw [List.reverse_cons, numGo_append, List.length_cons, valuesN_succ, ih]
  have h := this bs.reverse
  rwa [List.length_reverse, List.reverse_reverse] at h
end Go.Proofs.Ytdeelgnfnhdklaa
