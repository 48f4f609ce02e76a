/-
  A block of four cells whose three slices of floats are the call's own and lie apart: for DropRow.
-/
import Derived.Test.YtocngcpdpeflnaaStepFL
import Derived.Test.YtocngcpdpeflnaaRowP
import Derived.Test.YtocngcpdpeflnaaDropP
import Derived.Test.YtocngcpdpeflnaaRowOk
namespace Go.Proofs.Ytocngcpdpeflnaa
open Go.RowKit
set_option linter.unusedVariables false
set_option maxRecDepth 100000

theorem OwnFL.tight {w : World} {lo hi a b : Nat} {v : Value} {zs : List Nat} (h : OwnFL w lo hi v zs) (ht : ∀ k, v.ownBlock = some k → a ≤ k ∧ k < b) (hb : b ≤ w.heap.size) : OwnFL w a b v zs := by
  obtain ⟨⟨⟨r1, r2⟩, blk, hsz⟩, len⟩ := h
  refine ⟨⟨⟨r1, ?_⟩, fun k e => (ht k e).2, hb⟩, len⟩
  rcases r2 with ⟨rfl, e⟩ | ⟨g, cap, cur, rfl, hbg, rest⟩
  · exact .inl ⟨rfl, e⟩
  · exact .inr ⟨g, cap, cur, rfl, (ht g rfl).1, rest⟩
/-- behind an append: the slice lies where it lay, or in one new block -/
theorem grow_tight {w w' : World} {a1 b1 s : Nat} {v v' : Value} {xs zs : List Nat} (hv : OwnFL w a1 b1 v xs) (ho : OwnFL w' a1 w'.heap.size v' zs) (hz : w.heap.size ≤ w'.heap.size) (hblk : v'.ownBlock = v.ownBlock ∨ v'.ownBlock = some s) :
    ∃ c d, OwnFL w' c d v' zs ∧ ((c = a1 ∧ d = b1) ∨ (c = s ∧ d = s + 1)) := by
  rcases hblk with h | h
  · refine ⟨a1, b1, ho.tight (fun k e => ⟨ho.ge k e, hv.own.blk k (h ▸ e)⟩) (by have := hv.own.hsz; omega), .inl ⟨rfl, rfl⟩⟩
  · have hs := ho.own.blk s h
    refine ⟨s, s + 1, ho.tight (fun k e => by rw [h] at e; cases e; omega) (by omega), .inr ⟨rfl, rfl⟩⟩
/-- block q holds rows of the call's own -/
structure DropC (w : World) (B q : Nat) (r : RowsD) : Prop where
  ex : ∃ a b g a1 b1 a2 b2 a3 b3, QuadC w q 33 (.int .i64 r.vars) a b g ∧ OwnFL w a1 b1 a r.numbers ∧ OwnFL w a2 b2 b r.bounds ∧ OwnFL w a3 b3 g r.gains ∧
    (B ≤ a1 ∧ B ≤ a2 ∧ B ≤ a3 ∧ B ≤ q ∧ a1 ≤ b1 ∧ a2 ≤ b2) ∧ (Apt a1 b1 a2 b2 ∧ Apt a1 b1 a3 b3 ∧ Apt a2 b2 a3 b3) ∧ (Apt q (q + 1) a1 b1 ∧ Apt q (q + 1) a2 b2 ∧ Apt q (q + 1) a3 b3)
section
variable {w w' : World} {B q : Nat} {r : RowsD}
theorem DropC.below {C : Nat} (h : DropC w B q r) (hb : Below C w w') (hC : w.heap.size ≤ C) : DropC w' B q r := by
  obtain ⟨a, b, g, a1, b1, a2, b2, a3, b3, hq, h1, h2, h3, hr, hd, he⟩ := h.ex
  have z1 := h1.own.hsz
  have z2 := h2.own.hsz
  have z3 := h3.own.hsz
  exact ⟨a, b, g, a1, b1, a2, b2, a3, b3, hq.below hb (by have := hq.lt; omega), h1.below hb (by omega), h2.below hb (by omega), h3.below hb (by omega), hr, hd, he⟩
theorem DropC.drew (h : DropC w B q r) (hw : Drew w w') : DropC w' B q r := by
  obtain ⟨a, b, g, a1, b1, a2, b2, a3, b3, hq, h1, h2, h3, hr, hd, he⟩ := h.ex
  exact ⟨a, b, g, a1, b1, a2, b2, a3, b3, hq.drew hw, h1.drew hw, h2.drew hw, h3.drew hw, hr, hd, he⟩
/-- at the start: no numbers, no bounds -/
theorem DropC.start {V : Int} {g : Value} {G : List Nat} {a3 b3 : Nat} (hq : QuadC w q 33 (.int .i64 V) (.slice none 0 0) (.slice none 0 0) g) (h3 : OwnFL w a3 b3 g G) (h1 : B ≤ a3) (h2 : B ≤ q) (he : Apt q (q + 1) a3 b3) (hs : B ≤ w.heap.size) : DropC w B q ⟨V, [], [], G⟩ :=
  ⟨_, _, g, B, B, B, B, a3, b3, hq, OwnFL.nil w B B hs, OwnFL.nil w B B hs, h3, ⟨Nat.le_refl _, Nat.le_refl _, h1, h2, Nat.le_refl _, Nat.le_refl _⟩, ⟨.inl (Nat.le_refl _), .inl h1, .inl h1⟩, .inr h2, .inr h2, he⟩
/-- the numbers have grown, and the cell is stored -/
theorem DropC.grow1 {a1 b1 s : Nat} {a b g v' : Value} {a2 b2 a3 b3 : Nat} {xs zs : List Nat} (hq : QuadC w q 33 (.int .i64 r.vars) a b g) (h1 : OwnFL w a1 b1 a xs) (h2 : OwnFL w a2 b2 b r.bounds) (h3 : OwnFL w a3 b3 g r.gains)
    (hr : B ≤ a1 ∧ B ≤ a2 ∧ B ≤ a3 ∧ B ≤ q ∧ a1 ≤ b1 ∧ a2 ≤ b2) (hd : Apt a1 b1 a2 b2 ∧ Apt a1 b1 a3 b3 ∧ Apt a2 b2 a3 b3) (he : Apt q (q + 1) a1 b1 ∧ Apt q (q + 1) a2 b2 ∧ Apt q (q + 1) a3 b3)
    (ho : OwnFL w' a1 w'.heap.size v' zs) (hs : Same a1 b1 w w') (hz : w.heap.size ≤ w'.heap.size) (hbl : v'.ownBlock = a.ownBlock ∨ v'.ownBlock = some s) (hs1 : w.heap.size ≤ s) :
    DropC (w'.setCell ⟨q, 1, none⟩ v') B q ⟨r.vars, zs, r.bounds, r.gains⟩ := by
  have z2 := h2.own.hsz
  have z3 := h3.own.hsz
  have zq := hq.lt
  obtain ⟨hd1, hd2, hd3⟩ := hd
  obtain ⟨he1, he2, he3⟩ := he
  unfold Apt at *
  obtain ⟨c, d, hn, hcd⟩ := grow_tight h1 ho hz hbl
  have hq' := hq.same hs (by omega)
  have h2' := h2.same hs (by omega)
  have h3' := h3.same hs (by omega)
  have hS : Same q (q + 1) w' (w'.setCell ⟨q, 1, none⟩ v') := (Same.refl q (q + 1) w').setCell (p := ⟨q, 1, none⟩) (Nat.le_refl _) (Nat.lt_succ_self q) _
  refine ⟨v', b, g, c, d, a2, b2, a3, b3, hq'.set1 v', hn.same hS ?_, h2'.same hS ?_, h3'.same hS ?_, ?_, ?_, ?_⟩
  all_goals (try unfold Apt)
  all_goals omega
/-- the bounds have grown, and the cell is stored -/
theorem DropC.grow2 {a1 b1 s : Nat} {a b g v' : Value} {a2 b2 a3 b3 : Nat} {xs zs : List Nat} (hq : QuadC w q 33 (.int .i64 r.vars) a b g) (h1 : OwnFL w a1 b1 a r.numbers) (h2 : OwnFL w a2 b2 b xs) (h3 : OwnFL w a3 b3 g r.gains)
    (hr : B ≤ a1 ∧ B ≤ a2 ∧ B ≤ a3 ∧ B ≤ q ∧ a1 ≤ b1 ∧ a2 ≤ b2) (hd : Apt a1 b1 a2 b2 ∧ Apt a1 b1 a3 b3 ∧ Apt a2 b2 a3 b3) (he : Apt q (q + 1) a1 b1 ∧ Apt q (q + 1) a2 b2 ∧ Apt q (q + 1) a3 b3)
    (ho : OwnFL w' a2 w'.heap.size v' zs) (hs : Same a2 b2 w w') (hz : w.heap.size ≤ w'.heap.size) (hbl : v'.ownBlock = b.ownBlock ∨ v'.ownBlock = some s) (hs1 : w.heap.size ≤ s) :
    DropC (w'.setCell ⟨q, 2, none⟩ v') B q ⟨r.vars, r.numbers, zs, r.gains⟩ := by
  have z1 := h1.own.hsz
  have z3 := h3.own.hsz
  have zq := hq.lt
  obtain ⟨hd1, hd2, hd3⟩ := hd
  obtain ⟨he1, he2, he3⟩ := he
  unfold Apt at *
  obtain ⟨c, d, hn, hcd⟩ := grow_tight h2 ho hz hbl
  have hq' := hq.same hs (by omega)
  have h1' := h1.same hs (by omega)
  have h3' := h3.same hs (by omega)
  have hS : Same q (q + 1) w' (w'.setCell ⟨q, 2, none⟩ v') := (Same.refl q (q + 1) w').setCell (p := ⟨q, 2, none⟩) (Nat.le_refl _) (Nat.lt_succ_self q) _
  refine ⟨a, v', g, a1, b1, c, d, a3, b3, hq'.set2 v', h1'.same hS ?_, hn.same hS ?_, h3'.same hS ?_, ?_, ?_, ?_⟩
  all_goals (try unfold Apt)
  all_goals omega
end
end Go.Proofs.Ytocngcpdpeflnaa
