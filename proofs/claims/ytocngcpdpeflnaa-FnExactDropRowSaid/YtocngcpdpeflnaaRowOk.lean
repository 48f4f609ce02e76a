/-
  impl.Rows.checked.
-/
import Derived.Test.YtocngcpdpeflnaaValidRows
namespace Go.Proofs.Ytocngcpdpeflnaa
open Go.RowKit
set_option linter.unusedVariables false
set_option maxRecDepth 100000

/-- one of two values -/
def pickR (b : Bool) (v u : Value) : Value := if b then v else u
set_option maxHeartbeats 800000 in
set_option maxRecDepth 100000 in
theorem rowsChecked_any {l h : Nat} (v : Value) (r : RowsD) (w : World) (hv : RowsR w l h v r) (hh : h ≤ w.heap.size) (hz : SmallR r) :
    Calls Try.prog 36 #[v] w fun e w' => e = .returned (.tuple #[pickR (okRows r) v (.agg #[.int .i64 0, .slice none 0 0, .slice none 0 0, .slice none 0 0]), .bool (okRows r)]) ∧ Below w.heap.size w w' := by
  obtain ⟨a, b, c, rfl, ha0, hb0, hc0⟩ := hv.ex
  obtain ⟨p1, c1, rfl⟩ := ha0.shape
  obtain ⟨p2, c2, rfl⟩ := hb0.shape
  obtain ⟨p3, c3, rfl⟩ := hc0.shape
  obtain ⟨a, ea⟩ : ∃ a, a = Value.slice p1 r.numbers.length c1 := ⟨_, rfl⟩
  obtain ⟨b, eb⟩ : ∃ b, b = Value.slice p2 r.bounds.length c2 := ⟨_, rfl⟩
  obtain ⟨c, ec⟩ : ∃ c, c = Value.slice p3 r.gains.length c3 := ⟨_, rfl⟩
  rw [← ea, ← eb, ← ec] at hv ⊢
  obtain ⟨W, hW⟩ : ∃ W, W = (w.alloc (.cells #[.int .i64 r.vars, a, b, c] 33)).alloc (.cells #[.int .i64 0, .slice none 0 0, .slice none 0 0, .slice none 0 0] 33) := ⟨_, rfl⟩
  have hBW : Below w.heap.size w W := by rw [hW]; exact ((Below.refl _ _).alloc (Nat.le_refl _) _).alloc (by simp) _
  have hsW : W.heap.size = w.heap.size + 2 := by rw [hW]; simp
  have q0 : QuadC W w.heap.size 33 (.int .i64 r.vars) a b c := by rw [hW]; exact (QuadC.new _ _ _ _ _ _).alloc _
  have q1 : QuadC W (w.heap.size + 1) 33 (.int .i64 0) (.slice none 0 0) (.slice none 0 0) (.slice none 0 0) := by
    rw [hW]
    have := QuadC.new (w.alloc (.cells #[.int .i64 r.vars, a, b, c] 33)) 33 (.int .i64 0) (.slice none 0 0) (.slice none 0 0) (.slice none 0 0)
    rwa [World.size_alloc] at this
  have HV := Lib.hid (ValidRows_any _ r W (hv.below hBW hh) (by omega) hz)
  clear ha0 hb0 hc0 hv
  subst ea
  subst eb
  subst ec
  cases hk : okRows r
  all_goals
    rw [hk] at HV
    clear hk
    go_enter Try.func36, Try.ntmps36
    go_wp2_with fail
    rw [← hW]
    clear hW
    refine HV.out.mono ?_
    rintro e w2 ⟨rfl, e1⟩
    have s2 := e1.size
    have r0 := q0.below e1 (by omega)
    have r1 := q1.below e1 (by omega)
    have k0 := r0.c0
    have k1 := r0.c1
    have k2 := r0.c2
    have k3 := r0.c3
    have j0 := r1.c0
    have j1 := r1.c1
    have j2 := r1.c2
    have j3 := r1.c3
    have g0 := r1.f0
    have g1 := r1.f1
    have g2 := r1.f2
    have g3 := r1.f3
    have hB2 : Below w.heap.size w w2 := hBW.trans (e1.mono (by omega))
    clear HV q0 q1 r0 r1
    go_wp2_with fail
  · have hS := ((((Same.refl w.heap.size W.heap.size w2).setCell (p := ⟨w.heap.size + 1, 0, none⟩) (by simp) (by simp; omega) (.int .i64 0)).setCell (p := ⟨w.heap.size + 1, 1, none⟩) (by simp) (by simp; omega) (.slice none 0 0)).setCell (p := ⟨w.heap.size + 1, 2, none⟩) (by simp) (by simp; omega) (.slice none 0 0)).setCell (p := ⟨w.heap.size + 1, 3, none⟩) (by simp) (by simp; omega) (.slice none 0 0)
    refine bodyPost_ret (v := .tuple #[.agg #[.int .i64 0, .slice none 0 0, .slice none 0 0, .slice none 0 0], .bool false]) (by simp [results, Try.results36, go_sem, j0, j1, j2, j3]) rfl ⟨rfl, hB2.trans (hS.below (Nat.le_refl _) hB2.size)⟩
  · have hS := ((((Same.refl w.heap.size W.heap.size w2).setCell (p := ⟨w.heap.size + 1, 0, none⟩) (by simp) (by simp; omega) (.int .i64 r.vars)).setCell (p := ⟨w.heap.size + 1, 1, none⟩) (by simp) (by simp; omega) (.slice p1 r.numbers.length c1)).setCell (p := ⟨w.heap.size + 1, 2, none⟩) (by simp) (by simp; omega) (.slice p2 r.bounds.length c2)).setCell (p := ⟨w.heap.size + 1, 3, none⟩) (by simp) (by simp; omega) (.slice p3 r.gains.length c3)
    refine bodyPost_ret (v := .tuple #[.agg #[.int .i64 r.vars, .slice p1 r.numbers.length c1, .slice p2 r.bounds.length c2, .slice p3 r.gains.length c3], .bool true]) (by simp [results, Try.results36, go_sem, j0, j1, j2, j3]) rfl ⟨rfl, hB2.trans (hS.below (Nat.le_refl _) hB2.size)⟩
end Go.Proofs.Ytocngcpdpeflnaa
