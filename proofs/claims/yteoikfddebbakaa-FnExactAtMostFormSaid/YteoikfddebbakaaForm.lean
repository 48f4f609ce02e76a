/-
  How forms read in memory, and contracts of the functions of the laws that copy, compare, measure and mark them.
-/
import Derived.Test.YteoikfddebbakaaIntss
namespace Go.Proofs.Yteoikfddebbakaa
open Go.RowKit
set_option linter.unusedVariables false
set_option maxRecDepth 100000

structure FormD where
  letters : Int
  clauses : List (List Int)
deriving DecidableEq
structure FormR (w : World) (lo hi : Nat) (v : Value) (f : FormD) : Prop where
  ex : ∃ u, v = .agg #[.int .i64 f.letters, u] ∧ Intss w lo hi u f.clauses
  rng : I64 f.letters
structure OwnF (w : World) (lo hi : Nat) (v : Value) (f : FormD) : Prop where
  ex : ∃ u, v = .agg #[.int .i64 f.letters, u] ∧ OwnII w lo hi u f.clauses
  rng : I64 f.letters
section
variable {w w' : World} {lo hi : Nat} {v : Value} {f : FormD}
theorem FormR.below {B : Nat} (h : FormR w lo hi v f) (hb : Below B w w') (hB : hi ≤ B) : FormR w' lo hi v f := by obtain ⟨u, e, hu⟩ := h.ex; exact ⟨⟨u, e, hu.below hb hB⟩, h.rng⟩
theorem FormR.same {l h' : Nat} (h : FormR w lo hi v f) (hb : Same l h' w w') (hB : hi ≤ l ∨ h' ≤ lo) : FormR w' lo hi v f := by obtain ⟨u, e, hu⟩ := h.ex; exact ⟨⟨u, e, hu.same hb hB⟩, h.rng⟩
theorem FormR.drew (h : FormR w lo hi v f) (hd : Drew w w') : FormR w' lo hi v f := by obtain ⟨u, e, hu⟩ := h.ex; exact ⟨⟨u, e, hu.drew hd⟩, h.rng⟩
theorem FormR.mono {lo' hi' : Nat} (h : FormR w lo hi v f) (hl : lo' ≤ lo) (hh : hi ≤ hi') (hw : hi' ≤ w.heap.size) : FormR w lo' hi' v f := by obtain ⟨u, e, hu⟩ := h.ex; exact ⟨⟨u, e, hu.mono hl hh hw⟩, h.rng⟩
theorem OwnF.below {B : Nat} (h : OwnF w lo hi v f) (hb : Below B w w') (hB : hi ≤ B) : OwnF w' lo hi v f := by obtain ⟨u, e, hu⟩ := h.ex; exact ⟨⟨u, e, hu.below hb hB⟩, h.rng⟩
theorem OwnF.same {l h' : Nat} (h : OwnF w lo hi v f) (hb : Same l h' w w') (hB : hi ≤ l ∨ h' ≤ lo) : OwnF w' lo hi v f := by obtain ⟨u, e, hu⟩ := h.ex; exact ⟨⟨u, e, hu.same hb hB⟩, h.rng⟩
theorem OwnF.drew (h : OwnF w lo hi v f) (hd : Drew w w') : OwnF w' lo hi v f := by obtain ⟨u, e, hu⟩ := h.ex; exact ⟨⟨u, e, hu.drew hd⟩, h.rng⟩
theorem OwnF.mono {lo' hi' : Nat} (h : OwnF w lo hi v f) (hl : lo' ≤ lo) (hh : hi ≤ hi') (hw : hi' ≤ w.heap.size) : OwnF w lo' hi' v f := by obtain ⟨u, e, hu⟩ := h.ex; exact ⟨⟨u, e, hu.mono hl hh hw⟩, h.rng⟩
theorem OwnF.rd (h : OwnF w lo hi v f) : FormR w lo hi v f := by obtain ⟨u, e, hu⟩ := h.ex; exact ⟨⟨u, e, hu.rd⟩, h.rng⟩
theorem OwnF.len (h : OwnF w lo hi v f) : (f.clauses.map List.length).sum ≤ 1099511627776 := by obtain ⟨u, e, hu⟩ := h.ex; exact hu.len
end
/-- what stands below B reads and writes in w' as in w: for the walk -/
theorem bcell {B : Nat} {w w' : World} (hb : Below B w w') : (∀ b o, b < B → w'.cell? ⟨b, o, none⟩ = w.cell? ⟨b, o, none⟩) ∧ (∀ b o, b < B → w'.frozen? ⟨b, o, none⟩ = w.frozen? ⟨b, o, none⟩) :=
  ⟨fun b o h => hb.cell (p := ⟨b, o, none⟩) h, fun b o h => hb.frozen (p := ⟨b, o, none⟩) h⟩
theorem alloc_below (w : World) (o : Obj) : Below w.heap.size w (w.alloc o) := (Below.refl _ _).alloc (Nat.le_refl _) o
theorem OwnF.name {w : World} {lo hi : Nat} {v : Value} {f : FormD} (h : OwnF w lo hi v f) : ∃ g, OwnF w lo hi v g ∧ Hid (g = f) := ⟨f, h, Lib.hid rfl⟩
theorem OwnF.shape {w : World} {lo hi : Nat} {v : Value} {f : FormD} (h : OwnF w lo hi v f) : ∃ a cap, v = .agg #[.int .i64 f.letters, .slice a f.clauses.length cap] := by
  obtain ⟨u, e, hu⟩ := h.ex
  obtain ⟨a, cap, V, e2, _⟩ := hu.rd.out
  exact ⟨a, cap, by rw [e, e2]⟩
/-- a block of two cells that hold a form -/
structure BoxF (w : World) (b : Nat) (L : Int) (u : Value) : Prop where
  c0 : w.cell? ⟨b, 0, none⟩ = some (.int .i64 L)
  c1 : w.cell? ⟨b, 1, none⟩ = some u
  lt : b < w.heap.size
theorem BoxF.below {w w' : World} {B b : Nat} {L : Int} {u : Value} (h : BoxF w b L u) (hb : Below B w w') (hB : b < B) : BoxF w' b L u :=
  ⟨by rw [hb.cell (p := ⟨b, 0, none⟩) hB]; exact h.c0, by rw [hb.cell (p := ⟨b, 1, none⟩) hB]; exact h.c1, by have := h.lt; have := hb.size; omega⟩
theorem BoxF.drew {w w' : World} {b : Nat} {L : Int} {u : Value} (h : BoxF w b L u) (hd : Drew w w') : BoxF w' b L u :=
  ⟨by rw [hd.cell]; exact h.c0, by rw [hd.cell]; exact h.c1, by rw [hd.heap]; exact h.lt⟩
theorem BoxF.same {w w' : World} {l r b : Nat} {L : Int} {u : Value} (h : BoxF w b L u) (hs : Same l r w w') (hB : b < l ∨ r ≤ b) : BoxF w' b L u := by
  have hl := h.lt
  have e : ∀ o, w'.cell? ⟨b, o, none⟩ = w.cell? ⟨b, o, none⟩ := fun o => by simp only [World.cell?, hs.block b hl (by omega)]
  exact ⟨by rw [e]; exact h.c0, by rw [e]; exact h.c1, by have := hs.size; omega⟩
theorem BoxF.new (w : World) (L : Int) (u : Value) (t : TypeId) : BoxF (w.alloc (.cells #[.int .i64 L, u] t)) w.heap.size L u :=
  ⟨by rw [World.cell?_alloc_at _ _ _ _ rfl]; rfl, by rw [World.cell?_alloc_at _ _ _ _ rfl]; rfl, by simp⟩
set_option maxHeartbeats 800000 in
set_option maxRecDepth 100000 in
theorem eqForm_any {l h l' h' : Nat} (v u : Value) (f g : FormD) (w : World) (hv : FormR w l h v f) (hu : FormR w l' h' u g) (hh : h ≤ w.heap.size) (hh' : h' ≤ w.heap.size) :
    Calls Try.prog 12 #[v, u] w fun e w' => e = .returned (.bool (decide (f = g))) ∧ Below w.heap.size w w' := by
  obtain ⟨v1, rfl, hv1⟩ := hv.ex
  obtain ⟨u1, rfl, hu1⟩ := hu.ex
  obtain ⟨W, hW⟩ : ∃ W, W = (w.alloc (.cells #[.int .i64 f.letters, v1] 24)).alloc (.cells #[.int .i64 g.letters, u1] 24) := ⟨_, rfl⟩
  have hBW : Below w.heap.size w W := by rw [hW]; exact ((Below.refl _ _).alloc (Nat.le_refl _) _).alloc (by simp) _
  have hfg : f = g ↔ f.letters = g.letters ∧ f.clauses = g.clauses := by cases f; cases g; simp
  cases hl : (f.letters != g.letters)
  · have hl' : f.letters = g.letters := by simpa using hl
    have HL := Lib.hid hl'
    clear hl'
    cases hq : decide (f.clauses = g.clauses)
    all_goals
      go_enter Try.func12, Try.ntmps12
      go_wp2_with fail
      rw [← hW]
      refine (eqInt64SS_any v1 u1 f.clauses g.clauses W (hv1.below hBW hh) (hu1.below hBW hh') (by have := hBW.size; omega) (by have := hBW.size; omega)).mono ?_
      rintro e w2 ⟨rfl, hb2⟩
      go_wp2
      go_ret
      refine ⟨ret_bool ?_, hBW.trans (hb2.mono hBW.size)⟩
      simp only [hfg, HL.out, true_and]
      first | exact hq.symm | rfl
  · go_enter Try.func12, Try.ntmps12
    go_wp2
    go_ret
    refine ⟨ret_bool ?_, by rw [← hW]; exact hBW⟩
    have : f.letters ≠ g.letters := by simpa using hl
    exact (decide_eq_false (by rw [hfg]; exact fun h => this h.1)).symm
def markF (k : Int) (f : FormD) : FormD := ⟨f.letters, marksII k f.clauses⟩
set_option maxHeartbeats 800000 in
set_option maxRecDepth 100000 in
theorem markForm_any {lo hi : Nat} (v : Value) (f : FormD) (k : Int) (w : World) (hv : OwnF w lo hi v f) (hlo : hi ≤ w.heap.size) (h0 : 0 ≤ k) (h1 : k + (f.clauses.map List.length).sum ≤ 17592186043904) :
    Calls Try.prog 13 #[v, .int .i64 k] w fun e w' => e = .returned (.int .i64 (k + (f.clauses.map List.length).sum)) ∧ OwnF w' lo hi v (markF k f) ∧ Same lo hi w w' := by
  obtain ⟨v1, rfl, hv1⟩ := hv.ex
  have hBW : Below w.heap.size w (w.alloc (.cells #[.int .i64 f.letters, v1] 24)) := alloc_below _ _
  have hr := hv.rng
  go_enter Try.func13, Try.ntmps13
  go_wp2_with fail
  refine (markInt64SS_any v1 f.clauses k _ (hv1.below hBW hlo) h0 h1).mono ?_
  rintro e w2 ⟨rfl, hm, hs2⟩
  go_wp2
  go_ret
  exact ⟨rfl, ⟨⟨_, rfl, hm⟩, hr⟩, ((Same.refl lo hi w).alloc _).trans hs2⟩
set_option maxHeartbeats 800000 in
set_option maxRecDepth 100000 in
theorem heldForm_any {l h : Nat} (v : Value) (k : Int) (f : FormD) (w : World) (hv : FormR w l h v (markF k f)) (hh : h ≤ w.heap.size) (h0 : 0 ≤ k) (h1 : k + (f.clauses.map List.length).sum ≤ 17592186043904) :
    Calls Try.prog 14 #[v, .int .i64 k] w fun e w' => e = .returned (.int .i64 (k + (f.clauses.map List.length).sum)) ∧ Below w.heap.size w w' := by
  obtain ⟨v1, rfl, hv1⟩ := hv.ex
  have hBW : Below w.heap.size w (w.alloc (.cells #[.int .i64 (markF k f).letters, v1] 24)) := alloc_below _ _
  go_enter Try.func14, Try.ntmps14
  go_wp2_with fail
  refine (heldInt64SS_any v1 k f.clauses _ (hv1.below hBW hh) h0 h1).mono ?_
  rintro e w2 ⟨rfl, hd2⟩
  have hnn : ¬ (k + ((f.clauses.map List.length).sum : Int) < 0) := by omega
  go_wp2
  go_ret
  exact ⟨rfl, hBW.trans (hd2.below _)⟩
end Go.Proofs.Yteoikfddebbakaa
