/-
  How forms read in memory, and contracts of the functions of the laws that copy, compare, measure and mark them.
-/
import Derived.Test.YtdeelgnfnhdklaaIntss
namespace Go.Proofs.Ytdeelgnfnhdklaa
open Go.RowKit
set_option linter.unusedVariables false

structure FormD where
  letters : Int
  clauses : List (List Int)
deriving DecidableEq
structure FormR (w : World) (lo hi : Nat) (v : Value) (f : FormD) : Prop where
  ex : ∃ u, v = .agg #[.int .i64 f.letters, u] ∧ Intss w lo hi u f.clauses
  rng : I64 f.letters
structure OwnF (w : World) (lo hi : Nat) (v : Value) (f : FormD) : Prop where
  ex : ∃ u, v = .agg #[.int .i64 f.letters, u] ∧ OwnII w lo hi u f.clauses
  rng : I64 f.letters
section
variable {w w' : World} {lo hi : Nat} {v : Value} {f : FormD}
theorem FormR.below {B : Nat} (h : FormR w lo hi v f) (hb : Below B w w') (hB : hi ≤ B) : FormR w' lo hi v f := by obtain ⟨u, e, hu⟩ := h.ex; exact ⟨⟨u, e, hu.below hb hB⟩, h.rng⟩
theorem FormR.same {l h' : Nat} (h : FormR w lo hi v f) (hb : Same l h' w w') (hB : hi ≤ l ∨ h' ≤ lo) : FormR w' lo hi v f := by obtain ⟨u, e, hu⟩ := h.ex; exact ⟨⟨u, e, hu.same hb hB⟩, h.rng⟩
theorem FormR.drew (h : FormR w lo hi v f) (hd : Drew w w') : FormR w' lo hi v f := by obtain ⟨u, e, hu⟩ := h.ex; exact ⟨⟨u, e, hu.drew hd⟩, h.rng⟩
theorem FormR.mono {lo' hi' : Nat} (h : FormR w lo hi v f) (hl : lo' ≤ lo) (hh : hi ≤ hi') (hw : hi' ≤ w.heap.size) : FormR w lo' hi' v f := by obtain ⟨u, e, hu⟩ := h.ex; exact ⟨⟨u, e, hu.mono hl hh hw⟩, h.rng⟩
theorem OwnF.below {B : Nat} (h : OwnF w lo hi v f) (hb : Below B w w') (hB : hi ≤ B) : OwnF w' lo hi v f := by obtain ⟨u, e, hu⟩ := h.ex; exact ⟨⟨u, e, hu.below hb hB⟩, h.rng⟩
theorem OwnF.same {l h' : Nat} (h : OwnF w lo hi v f) (hb : Same l h' w w') (hB : hi ≤ l ∨ h' ≤ lo) : OwnF w' lo hi v f := by obtain ⟨u, e, hu⟩ := h.ex; exact ⟨⟨u, e, hu.same hb hB⟩, h.rng⟩
theorem OwnF.drew (h : OwnF w lo hi v f) (hd : Drew w w') : OwnF w' lo hi v f := by obtain ⟨u, e, hu⟩ := h.ex; exact ⟨⟨u, e, hu.drew hd⟩, h.rng⟩
theorem OwnF.mono {lo' hi' : Nat} (h : OwnF w lo hi v f) (hl : lo' ≤ lo) (hh : hi ≤ hi') (hw : hi' ≤ w.heap.size) : OwnF w lo' hi' v f := by obtain ⟨u, e, hu⟩ := h.ex; exact ⟨⟨u, e, hu.mono hl hh hw⟩, h.rng⟩
theorem OwnF.rd (h : OwnF w lo hi v f) : FormR w lo hi v f := by obtain ⟨u, e, hu⟩ := h.ex; exact ⟨⟨u, e, hu.rd⟩, h.rng⟩
theorem OwnF.len (h : OwnF w lo hi v f) : (f.clauses.map List.length).sum ≤ 1099511627776 := by obtain ⟨u, e, hu⟩ := h.ex; exact hu.len
end
/-- what stands below B reads and writes in w' as in w: for the walk -/
theorem bcell {B : Nat} {w w' : World} (hb : Below B w w') : (∀ b o, b < B → w'.cell? ⟨b, o, none⟩ = w.cell? ⟨b, o, none⟩) ∧ (∀ b o, b < B → w'.frozen? ⟨b, o, none⟩ = w.frozen? ⟨b, o, none⟩) :=
  ⟨fun b o h => hb.cell (p := ⟨b, o, none⟩) h, fun b o h => hb.frozen (p := ⟨b, o, none⟩) h⟩
theorem alloc_below (w : World) (o : Obj) : Below w.heap.size w (w.alloc o) := (Below.refl _ _).alloc (Nat.le_refl _) o
theorem OwnF.name {w : World} {lo hi : Nat} {v : Value} {f : FormD} (h : OwnF w lo hi v f) : ∃ g, OwnF w lo hi v g ∧ Hid (g = f) := ⟨f, h, Lib.hid rfl⟩
theorem OwnF.shape {w : World} {lo hi : Nat} {v : Value} {f : FormD} (h : OwnF w lo hi v f) : ∃ a cap, v = .agg #[.int .i64 f.letters, .slice a f.clauses.length cap] := by
  obtain ⟨u, e, hu⟩ := h.ex
  obtain ⟨a, cap, V, e2, _⟩ := hu.rd.out
  exact ⟨a, cap, by rw [e, e2]⟩
/-- a block of two cells that hold a form -/
structure BoxF (w : World) (b : Nat) (L : Int) (u : Value) : Prop where
  c0 : w.cell? ⟨b, 0, none⟩ = some (.int .i64 L)
  c1 : w.cell? ⟨b, 1, none⟩ = some u
  lt : b < w.heap.size
theorem BoxF.below {w w' : World} {B b : Nat} {L : Int} {u : Value} (h : BoxF w b L u) (hb : Below B w w') (hB : b < B) : BoxF w' b L u :=
  ⟨by rw [hb.cell (p := ⟨b, 0, none⟩) hB]; exact h.c0, by rw [hb.cell (p := ⟨b, 1, none⟩) hB]; exact h.c1, by have := h.lt; have := hb.size; omega⟩
theorem BoxF.drew {w w' : World} {b : Nat} {L : Int} {u : Value} (h : BoxF w b L u) (hd : Drew w w') : BoxF w' b L u :=
  ⟨by rw [hd.cell]; exact h.c0, by rw [hd.cell]; exact h.c1, by rw [hd.heap]; exact h.lt⟩
theorem BoxF.same {w w' : World} {l r b : Nat} {L : Int} {u : Value} (h : BoxF w b L u) (hs : Same l r w w') (hB : b < l ∨ r ≤ b) : BoxF w' b L u := by
  have hl := h.lt
  have e : ∀ o, w'.cell? ⟨b, o, none⟩ = w.cell? ⟨b, o, none⟩ := fun o => by simp only [World.cell?, hs.block b hl (by omega)]
  exact ⟨by rw [e]; exact h.c0, by rw [e]; exact h.c1, by have := hs.size; omega⟩
theorem BoxF.new (w : World) (L : Int) (u : Value) (t : TypeId) : BoxF (w.alloc (.cells #[.int .i64 L, u] t)) w.heap.size L u :=
  ⟨by rw [World.cell?_alloc_at _ _ _ _ rfl]; rfl, by rw [World.cell?_alloc_at _ _ _ _ rfl]; rfl, by simp⟩
set_option maxHeartbeats 800000 in
set_option maxRecDepth 100000 in
theorem toForm_any {l h : Nat} (v : Value) (f : FormD) (w : World) (hv : FormR w l h v f) (hz : SmallII f.clauses) (hh : h ≤ w.heap.size) :
    Calls Try.prog 17 #[v] w fun e w' => ∃ u, e = .returned u ∧ OwnF w' w.heap.size w'.heap.size u f ∧ Below w.heap.size w w' := by
  obtain ⟨u, rfl, hu⟩ := hv.ex
  have hr := hv.rng
  go_enter Try.func17, Try.ntmps17
  go_wp2_with fail
  obtain ⟨W, hW⟩ : ∃ W, W = ((w.alloc (.cells #[.int .i64 f.letters, u] 24)).alloc (.cells #[.int .i64 0, .slice none 0 0] 29)).alloc (.cells #[.int .i64 f.letters, .slice none 0 0] 29) := ⟨_, rfl⟩
  have hBW : Below w.heap.size w W := by rw [hW]; exact (((Below.refl _ _).alloc (Nat.le_refl _) _).alloc (by simp) _).alloc (by simp only [World.size_alloc]; omega) _
  have hsW : w.heap.size + 3 ≤ W.heap.size := by rw [hW]; simp only [World.size_alloc]; omega
  have k0 : W.cell? ⟨w.heap.size + 1 + 1, 0, none⟩ = some (.int .i64 f.letters) := by rw [hW, World.cell?_alloc_at _ _ _ _ (by simp)]; rfl
  have k1 : W.cell? ⟨w.heap.size + 1 + 1, 1, none⟩ = some (.slice none 0 0) := by rw [hW, World.cell?_alloc_at _ _ _ _ (by simp)]; rfl
  have k2 : W.frozen? ⟨w.heap.size + 1 + 1, 1, none⟩ = false := by rw [hW]; exact World.frozen?_alloc_at _ _ _ _ (by simp)
  have k3 : W.cell? ⟨w.heap.size + 1, 0, none⟩ = some (.int .i64 0) := by rw [hW, World.cell?_alloc_past _ _ _ (by simp), World.cell?_alloc_at _ _ _ _ (by simp)]; rfl
  have k4 : W.cell? ⟨w.heap.size + 1, 1, none⟩ = some (.slice none 0 0) := by rw [hW, World.cell?_alloc_past _ _ _ (by simp), World.cell?_alloc_at _ _ _ _ (by simp)]; rfl
  have k5 : W.frozen? ⟨w.heap.size + 1, 0, none⟩ = false := by rw [hW, World.frozen?_alloc_past _ _ _ (by simp)]; exact World.frozen?_alloc_at _ _ _ _ (by simp)
  have k6 : W.frozen? ⟨w.heap.size + 1, 1, none⟩ = false := by rw [hW, World.frozen?_alloc_past _ _ _ (by simp)]; exact World.frozen?_alloc_at _ _ _ _ (by simp)
  rw [← hW]
  clear hW
  refine (toInt64SS_any u f.clauses W (hu.below hBW hh) hz (by omega)).mono ?_
  rintro e w2 ⟨r, rfl, hr2, hb2⟩
  have hs2 := hb2.size
  have hB2 : Below w.heap.size w w2 := hBW.trans (hb2.mono hBW.size)
  rw [← hb2.cell (p := ⟨w.heap.size + 1 + 1, 0, none⟩) (by simp; omega)] at k0
  rw [← hb2.cell (p := ⟨w.heap.size + 1 + 1, 1, none⟩) (by simp; omega)] at k1
  rw [← hb2.frozen (p := ⟨w.heap.size + 1 + 1, 1, none⟩) (by simp; omega)] at k2
  rw [← hb2.cell (p := ⟨w.heap.size + 1, 0, none⟩) (by simp; omega)] at k3
  rw [← hb2.cell (p := ⟨w.heap.size + 1, 1, none⟩) (by simp; omega)] at k4
  rw [← hb2.frozen (p := ⟨w.heap.size + 1, 0, none⟩) (by simp; omega)] at k5
  rw [← hb2.frozen (p := ⟨w.heap.size + 1, 1, none⟩) (by simp; omega)] at k6
  obtain ⟨ra, rc, _, hre, _, _, _, _⟩ := hr2.rd.out
  subst hre
  go_wp2_with fail
  have hS := (((Same.refl w.heap.size W.heap.size w2).setCell (p := ⟨w.heap.size + 1 + 1, 1, none⟩) (by simp; omega) (by simp; omega) (.slice ra f.clauses.length rc)).setCell (p := ⟨w.heap.size + 1, 0, none⟩) (by simp) (by simp; omega) (.int .i64 f.letters)).setCell (p := ⟨w.heap.size + 1, 1, none⟩) (by simp) (by simp; omega) (.slice ra f.clauses.length rc)
  refine bodyPost_ret (v := .agg #[.int .i64 f.letters, .slice ra f.clauses.length rc]) (by simp [results, Try.results17, go_sem, k3, k4]) rfl ⟨_, rfl, ⟨⟨_, rfl, ?_⟩, hr⟩, hB2.trans (hS.below (Nat.le_refl _) hB2.size)⟩
  exact (hr2.same hS (.inr (Nat.le_refl _))).mono hBW.size hS.size (Nat.le_refl _)
set_option maxHeartbeats 800000 in
set_option maxRecDepth 100000 in
theorem eqForm_any {l h l' h' : Nat} (v u : Value) (f g : FormD) (w : World) (hv : FormR w l h v f) (hu : FormR w l' h' u g) (hh : h ≤ w.heap.size) (hh' : h' ≤ w.heap.size) :
    Calls Try.prog 20 #[v, u] w fun e w' => e = .returned (.bool (decide (f = g))) ∧ Below w.heap.size w w' := by
  obtain ⟨v1, rfl, hv1⟩ := hv.ex
  obtain ⟨u1, rfl, hu1⟩ := hu.ex
  obtain ⟨W, hW⟩ : ∃ W, W = (w.alloc (.cells #[.int .i64 f.letters, v1] 29)).alloc (.cells #[.int .i64 g.letters, u1] 29) := ⟨_, rfl⟩
  have hBW : Below w.heap.size w W := by rw [hW]; exact ((Below.refl _ _).alloc (Nat.le_refl _) _).alloc (by simp) _
  have hfg : f = g ↔ f.letters = g.letters ∧ f.clauses = g.clauses := by cases f; cases g; simp
  cases hl : (f.letters != g.letters)
  · have hl' : f.letters = g.letters := by simpa using hl
    have HL := Lib.hid hl'
    clear hl'
    cases hq : decide (f.clauses = g.clauses)
    all_goals
      go_enter Try.func20, Try.ntmps20
      go_wp2_with fail
      rw [← hW]
      refine (eqInt64SS_any v1 u1 f.clauses g.clauses W (hv1.below hBW hh) (hu1.below hBW hh') (by have := hBW.size; omega) (by have := hBW.size; omega)).mono ?_
      rintro e w2 ⟨rfl, hb2⟩
      go_wp2
      go_ret
      refine ⟨ret_bool ?_, hBW.trans (hb2.mono hBW.size)⟩
      simp only [hfg, HL.out, true_and]
      first | exact hq.symm | rfl
  · go_enter Try.func20, Try.ntmps20
    go_wp2
    go_ret
    refine ⟨ret_bool ?_, by rw [← hW]; exact hBW⟩
    have : f.letters ≠ g.letters := by simpa using hl
    exact (decide_eq_false (by rw [hfg]; exact fun h => this h.1)).symm
set_option maxHeartbeats 800000 in
set_option maxRecDepth 100000 in
theorem szForm_any {l h : Nat} (v : Value) (f : FormD) (left : Int) (w : World) (hv : FormR w l h v f) (hh : h ≤ w.heap.size) (h1 : 0 ≤ left) (h2 : left ≤ 1048576) :
    Calls Try.prog 15 #[v, .int .i64 left] w fun e w' => ∃ n : Int, e = .returned (.int .i64 n) ∧ Below w.heap.size w w' ∧ n ≤ left ∧ -1 ≤ n ∧ (0 ≤ n → SmallII f.clauses) := by
  obtain ⟨v1, rfl, hv1⟩ := hv.ex
  have hBW : Below w.heap.size w (w.alloc (.cells #[.int .i64 f.letters, v1] 24)) := alloc_below _ _
  go_enter Try.func15, Try.ntmps15
  go_wp2_with fail
  refine (szInt64SS_any v1 f.clauses left _ (hv1.below hBW hh) (by simp; omega) h1 h2).mono ?_
  rintro e w2 ⟨n, rfl, hb2, n1, n2, n3⟩
  have hB := hBW.trans (hb2.mono (by simp))
  by_cases hn : n < 0
  · go_wp2
    go_ret
    exact ⟨_, rfl, hB, by omega, by omega, fun h => absurd h (by omega)⟩
  · have HN := Lib.hid (n3 (by omega))
    go_wp2
    go_ret
    exact ⟨_, rfl, hB, by omega, by omega, fun _ => HN.out⟩
def markF (k : Int) (f : FormD) : FormD := ⟨f.letters, marksII k f.clauses⟩
set_option maxHeartbeats 800000 in
set_option maxRecDepth 100000 in
theorem markForm_any {lo hi : Nat} (v : Value) (f : FormD) (k : Int) (w : World) (hv : OwnF w lo hi v f) (hlo : hi ≤ w.heap.size) (h0 : 0 ≤ k) (h1 : k + (f.clauses.map List.length).sum ≤ 17592186043904) :
    Calls Try.prog 33 #[v, .int .i64 k] w fun e w' => e = .returned (.int .i64 (k + (f.clauses.map List.length).sum)) ∧ OwnF w' lo hi v (markF k f) ∧ Same lo hi w w' := by
  obtain ⟨v1, rfl, hv1⟩ := hv.ex
  have hBW : Below w.heap.size w (w.alloc (.cells #[.int .i64 f.letters, v1] 29)) := alloc_below _ _
  have hr := hv.rng
  go_enter Try.func33, Try.ntmps33
  go_wp2_with fail
  refine (markInt64SS_any v1 f.clauses k _ (hv1.below hBW hlo) h0 h1).mono ?_
  rintro e w2 ⟨rfl, hm, hs2⟩
  go_wp2
  go_ret
  exact ⟨rfl, ⟨⟨_, rfl, hm⟩, hr⟩, ((Same.refl lo hi w).alloc _).trans hs2⟩
set_option maxHeartbeats 800000 in
set_option maxRecDepth 100000 in
theorem heldForm_any {l h : Nat} (v : Value) (k : Int) (f : FormD) (w : World) (hv : FormR w l h v (markF k f)) (hh : h ≤ w.heap.size) (h0 : 0 ≤ k) (h1 : k + (f.clauses.map List.length).sum ≤ 17592186043904) :
    Calls Try.prog 54 #[v, .int .i64 k] w fun e w' => e = .returned (.int .i64 (k + (f.clauses.map List.length).sum)) ∧ Below w.heap.size w w' := by
  obtain ⟨v1, rfl, hv1⟩ := hv.ex
  have hBW : Below w.heap.size w (w.alloc (.cells #[.int .i64 (markF k f).letters, v1] 29)) := alloc_below _ _
  go_enter Try.func54, Try.ntmps54
  go_wp2_with fail
  refine (heldInt64SS_any v1 k f.clauses _ (hv1.below hBW hh) h0 h1).mono ?_
  rintro e w2 ⟨rfl, hd2⟩
  have hnn : ¬ (k + ((f.clauses.map List.length).sum : Int) < 0) := by omega
  go_wp2
  go_ret
  exact ⟨rfl, hBW.trans (hd2.below _)⟩
end Go.Proofs.Ytdeelgnfnhdklaa
