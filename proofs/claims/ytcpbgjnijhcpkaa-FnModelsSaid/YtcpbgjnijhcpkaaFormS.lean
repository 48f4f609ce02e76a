/-
  How slices of forms read in memory, and contracts of the functions of the laws that copy, compare, measure and mark them.
-/
import Derived.Test.YtcpbgjnijhcpkaaForm
import Derived.StillTailTactics
namespace Go.Proofs.Ytcpbgjnijhcpkaa
open Go.RowKit
set_option linter.unusedVariables false
set_option maxRecDepth 100000

theorem info_form : (Try.prog.info? 26).map (fun i => (i.zero, i.size, i.bytes)) = some (some (.agg #[.int .i64 0, .slice none 0 0]), 2, 32) := by kernel_rfl
def formCell (fs : List FormD) (V : Nat → Value) (i : Nat) : Value := if i % 2 = 0 then .int .i64 (fs.getD (i / 2) ⟨0, []⟩).letters else V (i / 2)
structure Forms (w : World) (lo hi : Nat) (v : Value) (fs : List FormD) : Prop where
  ex : ∃ V : Nat → Value, Sl w lo hi 2 fs.length v (formCell fs V) ∧ ∀ i (h : i < fs.length), Intss w lo hi (V i) fs[i].clauses
  rng : ∀ f ∈ fs, I64 f.letters
def SmallFS (fs : List FormD) : Prop := fs.length ≤ 1048576 ∧ ∀ f ∈ fs, SmallII f.clauses
section
variable {w w' : World} {lo hi : Nat} {v : Value} {fs : List FormD}
theorem Forms.out (h : Forms w lo hi v fs) : ∃ a cap, ∃ V : Nat → Value, v = .slice a fs.length cap ∧ fs.length ≤ cap ∧ cap ≤ 9223372036854775807 ∧ (∀ i (h : i < fs.length), Intss w lo hi (V i) fs[i].clauses) ∧
    (fs = [] ∨ ∃ b off, a = some ⟨b, off, none⟩ ∧ lo ≤ b ∧ b < hi ∧ hi ≤ w.heap.size ∧ ∀ i (hi : i < fs.length), w.cell? ⟨b, off + i * 2, none⟩ = some (.int .i64 fs[i].letters) ∧ w.cell? ⟨b, off + i * 2 + 1, none⟩ = some (V i)) := by
  obtain ⟨V, hs, hV⟩ := h.ex
  obtain ⟨a, cap, e, h1, h2, h3⟩ := hs.out
  refine ⟨a, cap, V, e, h1, h2, hV, ?_⟩
  rcases h3 with h3 | ⟨b, off, r1, r2, r3, r4, r5⟩
  · exact .inl (List.eq_nil_of_length_eq_zero h3)
  · refine .inr ⟨b, off, r1, r2, r3, r4, fun i hi => ?_⟩
    have e0 := r5 (i * 2) (by omega)
    have e1 := r5 (i * 2 + 1) (by omega)
    simp only [formCell, show i * 2 / 2 = i by omega, show i * 2 % 2 = 0 by omega, show (i * 2 + 1) / 2 = i by omega, show (i * 2 + 1) % 2 = 1 by omega, if_true, ← Nat.add_assoc, List.getD_eq_getElem?_getD, List.getElem?_eq_getElem hi, Option.getD_some] at e0 e1
    exact ⟨e0, e1⟩
theorem Forms.below {B : Nat} (h : Forms w lo hi v fs) (hb : Below B w w') (hB : hi ≤ B) : Forms w' lo hi v fs := by obtain ⟨V, hs, hV⟩ := h.ex; exact ⟨⟨V, hs.below hb hB, fun i hi => (hV i hi).below hb hB⟩, h.rng⟩
theorem Forms.same {l h' : Nat} (h : Forms w lo hi v fs) (hb : Same l h' w w') (hB : hi ≤ l ∨ h' ≤ lo) : Forms w' lo hi v fs := by obtain ⟨V, hs, hV⟩ := h.ex; exact ⟨⟨V, hs.same hb hB, fun i hi => (hV i hi).same hb hB⟩, h.rng⟩
theorem Forms.drew (h : Forms w lo hi v fs) (hd : Drew w w') : Forms w' lo hi v fs := by obtain ⟨V, hs, hV⟩ := h.ex; exact ⟨⟨V, hs.drew hd, fun i hi => (hV i hi).drew hd⟩, h.rng⟩
theorem Forms.mono {lo' hi' : Nat} (h : Forms w lo hi v fs) (hl : lo' ≤ lo) (hh : hi ≤ hi') (hw : hi' ≤ w.heap.size) : Forms w lo' hi' v fs := by obtain ⟨V, hs, hV⟩ := h.ex; exact ⟨⟨V, hs.mono hl hh hw, fun i hi => (hV i hi).mono hl hh hw⟩, h.rng⟩
theorem Forms.nil (w : World) (lo hi : Nat) : Forms w lo hi (.slice none 0 0) [] := ⟨⟨fun _ => undef, Sl.nil _ _ _ _ _, fun i h => by simp at h⟩, by simp⟩
end
/-! ### in memory of the call's own: the forms' clauses lie one behind the other -/
structure OwnFS (w : World) (lo hi : Nat) (v : Value) (fs : List FormD) : Prop where
  ex : ∃ g cap, ∃ (L : List Value) (m : Nat → Nat), v = .slice (some ⟨g, 0, none⟩) fs.length cap ∧ fs.length ≤ cap ∧ cap ≤ 9223372036854775807 ∧ Row w lo 26 2 g fs.length cap L ∧ g < m 0 ∧ (∀ i, i < fs.length → m i ≤ m (i + 1)) ∧ m fs.length ≤ hi ∧
    ∀ i (h : i < fs.length), L.getD (i * 2) undef = .int .i64 fs[i].letters ∧ OwnII w (m i) (m (i + 1)) (L.getD (i * 2 + 1) undef) fs[i].clauses
  rng : ∀ f ∈ fs, I64 f.letters
  hsz : hi ≤ w.heap.size
theorem mono_of_step {m : Nat → Nat} {n : Nat} (h : ∀ i, i < n → m i ≤ m (i + 1)) {i j : Nat} (hij : i ≤ j) (hj : j ≤ n) : m i ≤ m j := by
  induction j with
  | zero => have : i = 0 := by omega
            rw [this]; exact Nat.le_refl _
  | succ j ih =>
    by_cases e : i = j + 1
    · rw [e]; exact Nat.le_refl _
    · exact Nat.le_trans (ih (by omega) (by omega)) (h j (by omega))
section
variable {w w' : World} {lo hi : Nat} {v : Value} {fs : List FormD}
theorem OwnFS.rd (h : OwnFS w lo hi v fs) : Forms w lo hi v fs := by
  obtain ⟨g, cap, L, m, rfl, hc1, hc2, hrow, hg, hm, hmh, hL⟩ := h.ex
  have hhz := h.hsz
  have hge := hrow.ge
  have hll := hrow.length
  refine ⟨⟨fun i => L.getD (i * 2 + 1) undef, ⟨some ⟨g, 0, none⟩, cap, rfl, hc1, hc2, ?_⟩, fun i hi => ?_⟩, h.rng⟩
  · by_cases h0 : fs.length = 0
    · exact .inl h0
    · have h1 := mono_of_step hm (Nat.zero_le _) (Nat.le_refl fs.length)
      refine .inr ⟨g, 0, rfl, hge, by omega, hhz, fun i hi => ?_⟩
      rw [Nat.zero_add, hrow.cellAt hi]
      unfold formCell
      have h2 := hL (i / 2) (by omega)
      split
      · rename_i he
        rw [show i / 2 * 2 = i by omega] at h2
        rw [h2.1]; simp [List.getD, show i / 2 < fs.length by omega]
      · rename_i he
        show some (L.getD i undef) = some (L.getD (i / 2 * 2 + 1) undef)
        rw [show i / 2 * 2 + 1 = i by omega]
  · have h1 := mono_of_step hm (Nat.zero_le i) (Nat.le_of_lt hi)
    have h2 := mono_of_step hm (show i + 1 ≤ fs.length from hi) (Nat.le_refl _)
    exact (hL i hi).2.rd.mono (by omega) (by omega) hhz
theorem OwnFS.below {B : Nat} (h : OwnFS w lo hi v fs) (hb : Below B w w') (hB : hi ≤ B) : OwnFS w' lo hi v fs := by
  obtain ⟨g, cap, L, m, e, hc1, hc2, hrow, hg, hm, hmh, hL⟩ := h.ex
  have h0 := mono_of_step hm (Nat.zero_le _) (Nat.le_refl fs.length)
  refine ⟨⟨g, cap, L, m, e, hc1, hc2, hrow.below hb (by omega), hg, hm, hmh, fun i hi => ?_⟩, h.rng, Nat.le_trans h.hsz hb.size⟩
  have h2 := mono_of_step hm (show i + 1 ≤ fs.length from hi) (Nat.le_refl _)
  exact ⟨(hL i hi).1, (hL i hi).2.below hb (by omega)⟩
theorem OwnFS.same {l h' : Nat} (h : OwnFS w lo hi v fs) (hb : Same l h' w w') (hB : hi ≤ l ∨ h' ≤ lo) : OwnFS w' lo hi v fs := by
  obtain ⟨g, cap, L, m, e, hc1, hc2, hrow, hg, hm, hmh, hL⟩ := h.ex
  have h0 := mono_of_step hm (Nat.zero_le _) (Nat.le_refl fs.length)
  have hge := hrow.ge
  refine ⟨⟨g, cap, L, m, e, hc1, hc2, hrow.keep (hb.block g hrow.lt (by omega)), hg, hm, hmh, fun i hi => ?_⟩, h.rng, Nat.le_trans h.hsz hb.size⟩
  have h1 := mono_of_step hm (Nat.zero_le i) (Nat.le_of_lt hi)
  have h2 := mono_of_step hm (show i + 1 ≤ fs.length from hi) (Nat.le_refl _)
  exact ⟨(hL i hi).1, (hL i hi).2.same hb (by omega)⟩
theorem OwnFS.drew (h : OwnFS w lo hi v fs) (hd : Drew w w') : OwnFS w' lo hi v fs := by
  obtain ⟨g, cap, L, m, e, hc1, hc2, hrow, hg, hm, hmh, hL⟩ := h.ex
  exact ⟨⟨g, cap, L, m, e, hc1, hc2, hrow.drew hd, hg, hm, hmh, fun i hi => ⟨(hL i hi).1, (hL i hi).2.drew hd⟩⟩, h.rng, by rw [hd.heap]; exact h.hsz⟩
end
def cutAt (m : Nat → Nat) (k z j : Nat) : Nat := if j ≤ k then m j else z
theorem cut_le {m : Nat → Nat} {k z j : Nat} (h : j ≤ k) : cutAt m k z j = m j := by rw [cutAt, if_pos h]
theorem cut_gt {m : Nat → Nat} {k z j : Nat} (h : k < j) : cutAt m k z j = z := by rw [cutAt, if_neg (by omega)]
end Go.Proofs.Ytcpbgjnijhcpkaa
