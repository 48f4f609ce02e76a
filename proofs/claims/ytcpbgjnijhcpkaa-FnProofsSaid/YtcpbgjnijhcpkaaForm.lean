/-
  How forms read in memory, and contracts of the functions of the laws that copy, compare, measure and mark them.
-/
import Derived.Test.YtcpbgjnijhcpkaaIntss
namespace Go.Proofs.Ytcpbgjnijhcpkaa
open Go.RowKit
set_option linter.unusedVariables false
set_option maxRecDepth 100000

structure FormD where
  letters : Int
  clauses : List (List Int)
deriving DecidableEq
structure FormR (w : World) (lo hi : Nat) (v : Value) (f : FormD) : Prop where
  ex : ∃ u, v = .agg #[.int .i64 f.letters, u] ∧ Intss w lo hi u f.clauses
  rng : I64 f.letters
structure OwnF (w : World) (lo hi : Nat) (v : Value) (f : FormD) : Prop where
  ex : ∃ u, v = .agg #[.int .i64 f.letters, u] ∧ OwnII w lo hi u f.clauses
  rng : I64 f.letters
section
variable {w w' : World} {lo hi : Nat} {v : Value} {f : FormD}
theorem FormR.below {B : Nat} (h : FormR w lo hi v f) (hb : Below B w w') (hB : hi ≤ B) : FormR w' lo hi v f := by obtain ⟨u, e, hu⟩ := h.ex; exact ⟨⟨u, e, hu.below hb hB⟩, h.rng⟩
theorem FormR.same {l h' : Nat} (h : FormR w lo hi v f) (hb : Same l h' w w') (hB : hi ≤ l ∨ h' ≤ lo) : FormR w' lo hi v f := by obtain ⟨u, e, hu⟩ := h.ex; exact ⟨⟨u, e, hu.same hb hB⟩, h.rng⟩
theorem FormR.drew (h : FormR w lo hi v f) (hd : Drew w w') : FormR w' lo hi v f := by obtain ⟨u, e, hu⟩ := h.ex; exact ⟨⟨u, e, hu.drew hd⟩, h.rng⟩
theorem FormR.mono {lo' hi' : Nat} (h : FormR w lo hi v f) (hl : lo' ≤ lo) (hh : hi ≤ hi') (hw : hi' ≤ w.heap.size) : FormR w lo' hi' v f := by obtain ⟨u, e, hu⟩ := h.ex; exact ⟨⟨u, e, hu.mono hl hh hw⟩, h.rng⟩
theorem OwnF.below {B : Nat} (h : OwnF w lo hi v f) (hb : Below B w w') (hB : hi ≤ B) : OwnF w' lo hi v f := by obtain ⟨u, e, hu⟩ := h.ex; exact ⟨⟨u, e, hu.below hb hB⟩, h.rng⟩
theorem OwnF.same {l h' : Nat} (h : OwnF w lo hi v f) (hb : Same l h' w w') (hB : hi ≤ l ∨ h' ≤ lo) : OwnF w' lo hi v f := by obtain ⟨u, e, hu⟩ := h.ex; exact ⟨⟨u, e, hu.same hb hB⟩, h.rng⟩
theorem OwnF.drew (h : OwnF w lo hi v f) (hd : Drew w w') : OwnF w' lo hi v f := by obtain ⟨u, e, hu⟩ := h.ex; exact ⟨⟨u, e, hu.drew hd⟩, h.rng⟩
theorem OwnF.mono {lo' hi' : Nat} (h : OwnF w lo hi v f) (hl : lo' ≤ lo) (hh : hi ≤ hi') (hw : hi' ≤ w.heap.size) : OwnF w lo' hi' v f := by obtain ⟨u, e, hu⟩ := h.ex; exact ⟨⟨u, e, hu.mono hl hh hw⟩, h.rng⟩
theorem OwnF.rd (h : OwnF w lo hi v f) : FormR w lo hi v f := by obtain ⟨u, e, hu⟩ := h.ex; exact ⟨⟨u, e, hu.rd⟩, h.rng⟩
theorem OwnF.len (h : OwnF w lo hi v f) : (f.clauses.map List.length).sum ≤ 1099511627776 := by obtain ⟨u, e, hu⟩ := h.ex; exact hu.len
end
/-- what stands below B reads and writes in w' as in w: for the walk -/
theorem bcell {B : Nat} {w w' : World} (hb : Below B w w') : (∀ b o, b < B → w'.cell? ⟨b, o, none⟩ = w.cell? ⟨b, o, none⟩) ∧ (∀ b o, b < B → w'.frozen? ⟨b, o, none⟩ = w.frozen? ⟨b, o, none⟩) :=
  ⟨fun b o h => hb.cell (p := ⟨b, o, none⟩) h, fun b o h => hb.frozen (p := ⟨b, o, none⟩) h⟩
theorem alloc_below (w : World) (o : Obj) : Below w.heap.size w (w.alloc o) := (Below.refl _ _).alloc (Nat.le_refl _) o
theorem OwnF.name {w : World} {lo hi : Nat} {v : Value} {f : FormD} (h : OwnF w lo hi v f) : ∃ g, OwnF w lo hi v g ∧ Hid (g = f) := ⟨f, h, Lib.hid rfl⟩
theorem OwnF.shape {w : World} {lo hi : Nat} {v : Value} {f : FormD} (h : OwnF w lo hi v f) : ∃ a cap, v = .agg #[.int .i64 f.letters, .slice a f.clauses.length cap] := by
  obtain ⟨u, e, hu⟩ := h.ex
  obtain ⟨a, cap, V, e2, _⟩ := hu.rd.out
  exact ⟨a, cap, by rw [e, e2]⟩
/-- a block of two cells that hold a form -/
structure BoxF (w : World) (b : Nat) (L : Int) (u : Value) : Prop where
  c0 : w.cell? ⟨b, 0, none⟩ = some (.int .i64 L)
  c1 : w.cell? ⟨b, 1, none⟩ = some u
  lt : b < w.heap.size
theorem BoxF.below {w w' : World} {B b : Nat} {L : Int} {u : Value} (h : BoxF w b L u) (hb : Below B w w') (hB : b < B) : BoxF w' b L u :=
  ⟨by rw [hb.cell (p := ⟨b, 0, none⟩) hB]; exact h.c0, by rw [hb.cell (p := ⟨b, 1, none⟩) hB]; exact h.c1, by have := h.lt; have := hb.size; omega⟩
theorem BoxF.drew {w w' : World} {b : Nat} {L : Int} {u : Value} (h : BoxF w b L u) (hd : Drew w w') : BoxF w' b L u :=
  ⟨by rw [hd.cell]; exact h.c0, by rw [hd.cell]; exact h.c1, by rw [hd.heap]; exact h.lt⟩
theorem BoxF.same {w w' : World} {l r b : Nat} {L : Int} {u : Value} (h : BoxF w b L u) (hs : Same l r w w') (hB : b < l ∨ r ≤ b) : BoxF w' b L u := by
  have hl := h.lt
  have e : ∀ o, w'.cell? ⟨b, o, none⟩ = w.cell? ⟨b, o, none⟩ := fun o => by simp only [World.cell?, hs.block b hl (by omega)]
  exact ⟨by rw [e]; exact h.c0, by rw [e]; exact h.c1, by have := hs.size; omega⟩
theorem BoxF.new (w : World) (L : Int) (u : Value) (t : TypeId) : BoxF (w.alloc (.cells #[.int .i64 L, u] t)) w.heap.size L u :=
  ⟨by rw [World.cell?_alloc_at _ _ _ _ rfl]; rfl, by rw [World.cell?_alloc_at _ _ _ _ rfl]; rfl, by simp⟩
end Go.Proofs.Ytcpbgjnijhcpkaa
