/-
  How rows (a number and three slices of floats) read in memory, and contracts of the functions of the laws that copy, compare, measure and mark them.
-/
import Derived.Test.YtocngcpdpeflnaaFltN
namespace Go.Proofs.Ytocngcpdpeflnaa
open Go.RowKit
set_option linter.unusedVariables false
set_option maxRecDepth 100000

theorem lt_of_blockR {w : World} {q : Nat} {o : Obj} (h : w.heap[q]? = some o) : q < w.heap.size := by
  by_cases hq : q < w.heap.size
  · exact hq
  · rw [Array.getElem?_eq_none (by omega)] at h; cases h
/-- a block of four cells -/
structure QuadC (w : World) (q : Nat) (t : TypeId) (x y z s : Value) : Prop where
  b : w.heap[q]? = some (.cells #[x, y, z, s] t (0, 0))
section
variable {w w' : World} {q : Nat} {t : TypeId} {x y z s : Value}
theorem QuadC.lt (h : QuadC w q t x y z s) : q < w.heap.size := lt_of_blockR h.b
theorem QuadC.c0 (h : QuadC w q t x y z s) : w.cell? ⟨q, 0, none⟩ = some x := by simp [World.cell?, h.b]
theorem QuadC.c1 (h : QuadC w q t x y z s) : w.cell? ⟨q, 1, none⟩ = some y := by simp [World.cell?, h.b]
theorem QuadC.c2 (h : QuadC w q t x y z s) : w.cell? ⟨q, 2, none⟩ = some z := by simp [World.cell?, h.b]
theorem QuadC.c3 (h : QuadC w q t x y z s) : w.cell? ⟨q, 3, none⟩ = some s := by simp [World.cell?, h.b]
theorem QuadC.f0 (h : QuadC w q t x y z s) : w.frozen? ⟨q, 0, none⟩ = false := by simp [World.frozen?, h.b]
theorem QuadC.f1 (h : QuadC w q t x y z s) : w.frozen? ⟨q, 1, none⟩ = false := by simp [World.frozen?, h.b]
theorem QuadC.f2 (h : QuadC w q t x y z s) : w.frozen? ⟨q, 2, none⟩ = false := by simp [World.frozen?, h.b]
theorem QuadC.f3 (h : QuadC w q t x y z s) : w.frozen? ⟨q, 3, none⟩ = false := by simp [World.frozen?, h.b]
theorem QuadC.keep (h : QuadC w q t x y z s) (hb : w'.heap[q]? = w.heap[q]?) : QuadC w' q t x y z s := ⟨by rw [hb]; exact h.b⟩
theorem QuadC.below {B : Nat} (h : QuadC w q t x y z s) (hb : Below B w w') (hB : q < B) : QuadC w' q t x y z s := h.keep (hb.block q hB)
theorem QuadC.drew (h : QuadC w q t x y z s) (hd : Drew w w') : QuadC w' q t x y z s := h.keep (by rw [hd.heap])
theorem QuadC.same {l r : Nat} (h : QuadC w q t x y z s) (hs : Same l r w w') (hB : q < l ∨ r ≤ q) : QuadC w' q t x y z s := h.keep (hs.block q h.lt (by omega))
theorem QuadC.alloc (h : QuadC w q t x y z s) (o : Obj) : QuadC (w.alloc o) q t x y z s := h.keep (Below.heap_alloc _ _ _ h.lt)
theorem QuadC.set0 (h : QuadC w q t x y z s) (u : Value) : QuadC (w.setCell ⟨q, 0, none⟩ u) q t u y z s := by
  have hlt := h.lt
  have h' : w.heap[q] = .cells #[x, y, z, s] t (0, 0) := by simpa [Array.getElem?_eq_getElem hlt] using h.b
  refine ⟨?_⟩
  show (w.heap.modify q _)[q]? = _
  rw [Array.getElem?_eq_getElem (by simpa using hlt), Array.getElem_modify_self, h']
  rfl
theorem QuadC.set1 (h : QuadC w q t x y z s) (u : Value) : QuadC (w.setCell ⟨q, 1, none⟩ u) q t x u z s := by
  have hlt := h.lt
  have h' : w.heap[q] = .cells #[x, y, z, s] t (0, 0) := by simpa [Array.getElem?_eq_getElem hlt] using h.b
  refine ⟨?_⟩
  show (w.heap.modify q _)[q]? = _
  rw [Array.getElem?_eq_getElem (by simpa using hlt), Array.getElem_modify_self, h']
  rfl
theorem QuadC.set2 (h : QuadC w q t x y z s) (u : Value) : QuadC (w.setCell ⟨q, 2, none⟩ u) q t x y u s := by
  have hlt := h.lt
  have h' : w.heap[q] = .cells #[x, y, z, s] t (0, 0) := by simpa [Array.getElem?_eq_getElem hlt] using h.b
  refine ⟨?_⟩
  show (w.heap.modify q _)[q]? = _
  rw [Array.getElem?_eq_getElem (by simpa using hlt), Array.getElem_modify_self, h']
  rfl
theorem QuadC.set3 (h : QuadC w q t x y z s) (u : Value) : QuadC (w.setCell ⟨q, 3, none⟩ u) q t x y z u := by
  have hlt := h.lt
  have h' : w.heap[q] = .cells #[x, y, z, s] t (0, 0) := by simpa [Array.getElem?_eq_getElem hlt] using h.b
  refine ⟨?_⟩
  show (w.heap.modify q _)[q]? = _
  rw [Array.getElem?_eq_getElem (by simpa using hlt), Array.getElem_modify_self, h']
  rfl
theorem QuadC.new (w : World) (t : TypeId) (x y z s : Value) : QuadC (w.alloc (.cells #[x, y, z, s] t)) w.heap.size t x y z s := ⟨heap_alloc_new w _⟩
theorem QuadC.other (h : QuadC w q t x y z s) {p : Addr} (hp : p.block ≠ q) (u : Value) : QuadC (w.setCell p u) q t x y z s := h.keep (Below.heap_setCell _ _ _ _ (Ne.symm hp))
end
structure RowsD where
  vars : Int
  numbers : List Nat
  bounds : List Nat
  gains : List Nat
deriving DecidableEq
structure RowsR (w : World) (lo hi : Nat) (v : Value) (r : RowsD) : Prop where
  ex : ∃ a b c, v = .agg #[.int .i64 r.vars, a, b, c] ∧ Flts w lo hi a r.numbers ∧ Flts w lo hi b r.bounds ∧ Flts w lo hi c r.gains
  rng : I64 r.vars
/-- two ranges of blocks lie apart -/
def Apt (a b c d : Nat) : Prop := b ≤ c ∨ d ≤ a
structure OwnR (w : World) (lo hi : Nat) (v : Value) (r : RowsD) : Prop where
  ex : ∃ a b c a1 b1 a2 b2 a3 b3, v = .agg #[.int .i64 r.vars, a, b, c] ∧ OwnFL w a1 b1 a r.numbers ∧ OwnFL w a2 b2 b r.bounds ∧ OwnFL w a3 b3 c r.gains ∧
    (lo ≤ a1 ∧ b1 ≤ hi ∧ lo ≤ a2 ∧ b2 ≤ hi ∧ lo ≤ a3 ∧ b3 ≤ hi) ∧ (Apt a1 b1 a2 b2 ∧ Apt a1 b1 a3 b3 ∧ Apt a2 b2 a3 b3)
  rng : I64 r.vars
  hsz : hi ≤ w.heap.size
section
variable {w w' : World} {lo hi : Nat} {v : Value} {r : RowsD}
theorem RowsR.below {B : Nat} (h : RowsR w lo hi v r) (hb : Below B w w') (hB : hi ≤ B) : RowsR w' lo hi v r := by
  obtain ⟨a, b, c, e, h1, h2, h3⟩ := h.ex; exact ⟨⟨a, b, c, e, h1.below hb hB, h2.below hb hB, h3.below hb hB⟩, h.rng⟩
theorem RowsR.same {l h' : Nat} (h : RowsR w lo hi v r) (hb : Same l h' w w') (hB : hi ≤ l ∨ h' ≤ lo) : RowsR w' lo hi v r := by
  obtain ⟨a, b, c, e, h1, h2, h3⟩ := h.ex; exact ⟨⟨a, b, c, e, h1.same hb hB, h2.same hb hB, h3.same hb hB⟩, h.rng⟩
theorem RowsR.drew (h : RowsR w lo hi v r) (hd : Drew w w') : RowsR w' lo hi v r := by
  obtain ⟨a, b, c, e, h1, h2, h3⟩ := h.ex; exact ⟨⟨a, b, c, e, h1.drew hd, h2.drew hd, h3.drew hd⟩, h.rng⟩
theorem RowsR.mono {lo' hi' : Nat} (h : RowsR w lo hi v r) (hl : lo' ≤ lo) (hh : hi ≤ hi') (hw : hi' ≤ w.heap.size) : RowsR w lo' hi' v r := by
  obtain ⟨a, b, c, e, h1, h2, h3⟩ := h.ex; exact ⟨⟨a, b, c, e, h1.mono hl hh hw, h2.mono hl hh hw, h3.mono hl hh hw⟩, h.rng⟩
theorem OwnR.below {B : Nat} (h : OwnR w lo hi v r) (hb : Below B w w') (hB : hi ≤ B) : OwnR w' lo hi v r := by
  obtain ⟨a, b, c, a1, b1, a2, b2, a3, b3, e, h1, h2, h3, hr, hd⟩ := h.ex
  exact ⟨⟨a, b, c, a1, b1, a2, b2, a3, b3, e, h1.below hb (by omega), h2.below hb (by omega), h3.below hb (by omega), hr, hd⟩, h.rng, by have := hb.size; have := h.hsz; omega⟩
theorem OwnR.same {l h' : Nat} (h : OwnR w lo hi v r) (hb : Same l h' w w') (hB : hi ≤ l ∨ h' ≤ lo) : OwnR w' lo hi v r := by
  obtain ⟨a, b, c, a1, b1, a2, b2, a3, b3, e, h1, h2, h3, hr, hd⟩ := h.ex
  exact ⟨⟨a, b, c, a1, b1, a2, b2, a3, b3, e, h1.same hb (by omega), h2.same hb (by omega), h3.same hb (by omega), hr, hd⟩, h.rng, by have := hb.size; have := h.hsz; omega⟩
theorem OwnR.drew (h : OwnR w lo hi v r) (hw : Drew w w') : OwnR w' lo hi v r := by
  obtain ⟨a, b, c, a1, b1, a2, b2, a3, b3, e, h1, h2, h3, hr, hd⟩ := h.ex
  exact ⟨⟨a, b, c, a1, b1, a2, b2, a3, b3, e, h1.drew hw, h2.drew hw, h3.drew hw, hr, hd⟩, h.rng, by rw [hw.heap]; exact h.hsz⟩
theorem OwnR.mono {lo' hi' : Nat} (h : OwnR w lo hi v r) (hl : lo' ≤ lo) (hh : hi ≤ hi') (hw : hi' ≤ w.heap.size) : OwnR w lo' hi' v r := by
  obtain ⟨a, b, c, a1, b1, a2, b2, a3, b3, e, h1, h2, h3, hr, hd⟩ := h.ex
  exact ⟨⟨a, b, c, a1, b1, a2, b2, a3, b3, e, h1, h2, h3, by omega, hd⟩, h.rng, hw⟩
theorem OwnR.rd (h : OwnR w lo hi v r) : RowsR w lo hi v r := by
  obtain ⟨a, b, c, a1, b1, a2, b2, a3, b3, e, h1, h2, h3, hr, hd⟩ := h.ex
  have hz := h.hsz
  exact ⟨⟨a, b, c, e, h1.rd.mono (by omega) (by omega) hz, h2.rd.mono (by omega) (by omega) hz, h3.rd.mono (by omega) (by omega) hz⟩, h.rng⟩
theorem OwnR.lens (h : OwnR w lo hi v r) : r.numbers.length ≤ 1099511627776 ∧ r.bounds.length ≤ 1099511627776 ∧ r.gains.length ≤ 1099511627776 := by
  obtain ⟨a, b, c, a1, b1, a2, b2, a3, b3, e, h1, h2, h3, hr, hd⟩ := h.ex
  exact ⟨h1.len, h2.len, h3.len⟩
theorem OwnR.len (h : OwnR w lo hi v r) : ((r.numbers.length + r.bounds.length + r.gains.length : Nat) : Int) ≤ 3298534883328 := by have := h.lens; omega
theorem Flts.shape {w : World} {lo hi : Nat} {v : Value} {zs : List Nat} (h : Flts w lo hi v zs) : ∃ a cap, v = .slice a zs.length cap := by
  obtain ⟨a, cap, e, _⟩ := h.out; exact ⟨a, cap, e⟩
theorem OwnR.shape (h : OwnR w lo hi v r) : ∃ p c p2 c2 p3 c3, v = .agg #[.int .i64 r.vars, .slice p r.numbers.length c, .slice p2 r.bounds.length c2, .slice p3 r.gains.length c3] := by
  obtain ⟨a, b, c, e, h1, h2, h3⟩ := h.rd.ex
  obtain ⟨p, q, rfl⟩ := h1.shape
  obtain ⟨p2, q2, rfl⟩ := h2.shape
  obtain ⟨p3, q3, rfl⟩ := h3.shape
  exact ⟨p, q, p2, q2, p3, q3, e⟩
end
theorem alloc_belowR (w : World) (o : Obj) : Below w.heap.size w (w.alloc o) := (Below.refl _ _).alloc (Nat.le_refl _) o
def SmallR (r : RowsD) : Prop := r.numbers.length + r.bounds.length + r.gains.length ≤ 1048576
set_option maxHeartbeats 800000 in
set_option maxRecDepth 100000 in
theorem eqRows_any {l h l' h' : Nat} (v u : Value) (r : RowsD) (w : World) (hv : RowsR w l h v r) (hu : RowsR w l' h' u r) (hh : h ≤ w.heap.size) (hh' : h' ≤ w.heap.size) :
    Calls Try.prog 16 #[v, u] w fun e w' => e = .returned (.bool true) ∧ Below w.heap.size w w' := by
  obtain ⟨a, b, c, rfl, ha, hb, hc⟩ := hv.ex
  obtain ⟨a', b', c', rfl, ha', hb', hc'⟩ := hu.ex
  obtain ⟨W, hW⟩ : ∃ W, W = (w.alloc (.cells #[.int .i64 r.vars, a, b, c] 33)).alloc (.cells #[.int .i64 r.vars, a', b', c'] 33) := ⟨_, rfl⟩
  have hBW : Below w.heap.size w W := by rw [hW]; exact ((Below.refl _ _).alloc (Nat.le_refl _) _).alloc (by simp) _
  have q1 : QuadC W w.heap.size 33 (.int .i64 r.vars) a b c := by rw [hW]; exact (QuadC.new _ _ _ _ _ _).alloc _
  have q2 : QuadC W (w.heap.size + 1) 33 (.int .i64 r.vars) a' b' c' := by
    rw [hW, show w.heap.size + 1 = (w.alloc (.cells #[.int .i64 r.vars, a, b, c] 33)).heap.size by simp]; exact QuadC.new _ _ _ _ _ _
  have HA := Lib.hid (fun wx (hd : Drew W wx) => eqFloat32S_any a a' r.numbers wx ((ha.below hBW hh).drew hd) ((ha'.below hBW hh').drew hd))
  have HB := Lib.hid (fun wx (hd : Drew W wx) => eqFloat32S_any b b' r.bounds wx ((hb.below hBW hh).drew hd) ((hb'.below hBW hh').drew hd))
  have HC := Lib.hid (fun wx (hd : Drew W wx) => eqFloat32S_any c c' r.gains wx ((hc.below hBW hh).drew hd) ((hc'.below hBW hh').drew hd))
  have k0 := q1.c0
  have k1 := q1.c1
  have k2 := q1.c2
  have k3 := q1.c3
  have j0 := q2.c0
  have j1 := q2.c1
  have j2 := q2.c2
  have j3 := q2.c3
  clear q1 q2 hv hu ha hb hc ha' hb' hc'
  go_enter Try.func16, Try.ntmps16
  go_wp2_with fail
  rw [← hW]
  clear hW
  refine (HA.out _ (Drew.refl _)).mono ?_
  rintro e w2 ⟨rfl, m, rfl⟩
  go_wp2_with fail
  refine (HB.out _ (Drew.one W _)).mono ?_
  rintro e w2 ⟨rfl, m2, rfl⟩
  go_wp2_with fail
  refine (HC.out _ (by first | exact Drew.one W _ | exact (Drew.one W _).step _)).mono ?_
  rintro e w2 ⟨rfl, m3, rfl⟩
  go_wp2
  go_ret
  exact ⟨rfl, hBW.trans ((Drew.one W _).below _)⟩
set_option maxHeartbeats 800000 in
set_option maxRecDepth 100000 in
theorem szRows_any {l h : Nat} (v : Value) (r : RowsD) (left : Int) (w : World) (hv : RowsR w l h v r) (hh : h ≤ w.heap.size) (h1 : 0 ≤ left) (h2 : left ≤ 1048576) :
    Calls Try.prog 12 #[v, .int .i64 left] w fun e w' => ∃ n : Int, e = .returned (.int .i64 n) ∧ Below w.heap.size w w' ∧ n ≤ left ∧ -1 ≤ n ∧ (0 ≤ n → SmallR r) := by
  obtain ⟨a, b, c, rfl, ha, hb, hc⟩ := hv.ex
  have hBW : Below w.heap.size w (w.alloc (.cells #[.int .i64 r.vars, a, b, c] 31)) := alloc_belowR _ _
  have ha' := ha.below hBW hh
  have hb' := hb.below hBW hh
  have hc' := hc.below hBW hh
  obtain ⟨W, hW⟩ : ∃ W, W = w.alloc (.cells #[.int .i64 r.vars, a, b, c] 31) := ⟨_, rfl⟩
  have q1 : QuadC W w.heap.size 31 (.int .i64 r.vars) a b c := by rw [hW]; exact QuadC.new _ _ _ _ _ _
  rw [← hW] at hBW ha' hb' hc'
  have k0 := q1.c0
  have k1 := q1.c1
  have k2 := q1.c2
  have k3 := q1.c3
  clear hv ha hb hc q1
  go_enter Try.func12, Try.ntmps12
  go_wp2_with fail
  rw [← hW]
  clear hW
  refine (szFloat32S_any a r.numbers left W ha' h1 h2).mono ?_
  rintro e w2 ⟨n1, rfl, rfl, x1, x2, x3, x4⟩
  by_cases hn1 : n1 < 0
  · go_wp2
    go_ret
    exact ⟨_, rfl, hBW, by omega, by omega, fun h => absurd h (by omega)⟩
  go_wp2_with fail
  refine (szFloat32S_any b r.bounds n1 W hb' (by omega) (by omega)).mono ?_
  rintro e w2 ⟨n2, rfl, rfl, y1, y2, y3, y4⟩
  by_cases hn2 : n2 < 0
  · go_wp2
    go_ret
    exact ⟨_, rfl, hBW, by omega, by omega, fun h => absurd h (by omega)⟩
  go_wp2_with fail
  refine (szFloat32S_any c r.gains n2 W hc' (by omega) (by omega)).mono ?_
  rintro e w2 ⟨n3, rfl, rfl, z1, z2, z3, z4⟩
  by_cases hn3 : n3 < 0
  · go_wp2
    go_ret
    exact ⟨_, rfl, hBW, by omega, by omega, fun h => absurd h (by omega)⟩
  have HS : Hid (SmallR r) := by have := x4 (by omega); have := y4 (by omega); have := z4 (by omega); unfold Hid SmallR; omega
  clear x3 x4 y3 y4 z3 z4
  go_wp2
  go_ret
  exact ⟨_, rfl, hBW, by omega, by omega, fun _ => HS.out⟩
def markR (k : Int) (r : RowsD) : RowsD := ⟨r.vars, marksFL k r.numbers.length, marksFL (k + r.numbers.length) r.bounds.length, marksFL (k + r.numbers.length + r.bounds.length) r.gains.length⟩
set_option maxHeartbeats 800000 in
set_option maxRecDepth 100000 in
theorem markRows_any {lo hi : Nat} (v : Value) (r : RowsD) (k : Int) (w : World) (hv : OwnR w lo hi v r) (hlo : hi ≤ w.heap.size) (h0 : 0 ≤ k) (h1 : k ≤ 1048576) :
    Calls Try.prog 17 #[v, .int .i64 k] w fun e w' => e = .returned (.int .i64 (k + r.numbers.length + r.bounds.length + r.gains.length)) ∧ OwnR w' lo hi v (markR k r) ∧ Same lo hi w w' := by
  have hr := hv.rng
  obtain ⟨l1, l2, l3⟩ := hv.lens
  obtain ⟨a, b, c, a1, b1, a2, b2, a3, b3, rfl, ha, hb, hc, hrg, hd1, hd2, hd3⟩ := hv.ex
  have hBW : Below w.heap.size w (w.alloc (.cells #[.int .i64 r.vars, a, b, c] 33)) := alloc_belowR _ _
  have hSW : Same lo hi w (w.alloc (.cells #[.int .i64 r.vars, a, b, c] 33)) := (Same.refl lo hi w).alloc _
  have ha' := ha.below hBW (by omega)
  have hb' := hb.below hBW (by omega)
  have hc' := hc.below hBW (by omega)
  obtain ⟨W, hW⟩ : ∃ W, W = w.alloc (.cells #[.int .i64 r.vars, a, b, c] 33) := ⟨_, rfl⟩
  have q1 : QuadC W w.heap.size 33 (.int .i64 r.vars) a b c := by rw [hW]; exact QuadC.new _ _ _ _ _ _
  rw [← hW] at hBW ha' hb' hc' hSW
  clear ha hb hc hv
  have k1 := q1.c1
  have k2 := q1.c2
  have k3 := q1.c3
  go_enter Try.func17, Try.ntmps17
  go_wp2_with fail
  rw [← hW]
  clear hW k1 k2 k3
  refine (markFloat32S_any a r.numbers k W ha' h0 (by omega)).mono ?_
  rintro e w2 ⟨rfl, ha2, hs2⟩
  have hb2 := hb'.same hs2 (by unfold Apt at *; omega)
  have hc2 := hc'.same hs2 (by unfold Apt at *; omega)
  have q2 := q1.same hs2 (.inr (by omega))
  have k1 := q2.c1
  have k2 := q2.c2
  have k3 := q2.c3
  go_wp2_with fail
  clear k1 k2 k3
  refine (markFloat32S_any b r.bounds _ w2 hb2 (by omega) (by omega)).mono ?_
  rintro e w3 ⟨rfl, hb3, hs3⟩
  have ha3 := ha2.same hs3 (by unfold Apt at *; omega)
  have hc3 := hc2.same hs3 (by unfold Apt at *; omega)
  have q3 := q2.same hs3 (.inr (by omega))
  have k1 := q3.c1
  have k2 := q3.c2
  have k3 := q3.c3
  go_wp2_with fail
  clear k1 k2 k3
  refine (markFloat32S_any c r.gains _ w3 hc3 (by omega) (by omega)).mono ?_
  rintro e w4 ⟨rfl, hc4, hs4⟩
  have ha4 := ha3.same hs4 (by unfold Apt at *; omega)
  have hb4 := hb3.same hs4 (by unfold Apt at *; omega)
  have hS : Same lo hi w w4 := ((hSW.trans (hs2.mono (by omega) (by omega))).trans (hs3.mono (by omega) (by omega))).trans (hs4.mono (by omega) (by omega))
  have z4 := hS.size
  go_wp2
  go_ret
  exact ⟨rfl, ⟨⟨a, b, c, a1, b1, a2, b2, a3, b3, rfl, ha4, hb4, hc4, hrg, hd1, hd2, hd3⟩, hr, by omega⟩, hS⟩
set_option maxHeartbeats 800000 in
set_option maxRecDepth 100000 in
theorem heldRows_any {l h : Nat} (v : Value) (k : Int) (r : RowsD) (w : World) (hv : RowsR w l h v (markR k r)) (hh : h ≤ w.heap.size) (h0 : 0 ≤ k) (h1 : k + (r.numbers.length + r.bounds.length + r.gains.length : Nat) ≤ 4398046511104) :
    Calls Try.prog 18 #[v, .int .i64 k] w fun e w' => e = .returned (.int .i64 (k + r.numbers.length + r.bounds.length + r.gains.length)) ∧ Below w.heap.size w w' := by
  obtain ⟨a, b, c, rfl, ha, hb, hc⟩ := hv.ex
  have hBW : Below w.heap.size w (w.alloc (.cells #[.int .i64 r.vars, a, b, c] 33)) := alloc_belowR _ _
  obtain ⟨W, hW⟩ : ∃ W, W = w.alloc (.cells #[.int .i64 r.vars, a, b, c] 33) := ⟨_, rfl⟩
  have q1 : QuadC W w.heap.size 33 (.int .i64 r.vars) a b c := by rw [hW]; exact QuadC.new _ _ _ _ _ _
  rw [← hW] at hBW
  have HA := Lib.hid (fun wx (hd : Drew W wx) => heldFloat32S_any a k r.numbers.length wx ((ha.below hBW hh).drew hd) h0 (by omega))
  have HB := Lib.hid (fun wx (hd : Drew W wx) => heldFloat32S_any b (k + r.numbers.length) r.bounds.length wx ((hb.below hBW hh).drew hd) (by omega) (by omega))
  have HC := Lib.hid (fun wx (hd : Drew W wx) => heldFloat32S_any c (k + r.numbers.length + r.bounds.length) r.gains.length wx ((hc.below hBW hh).drew hd) (by omega) (by omega))
  have k1 := q1.c1
  have k2 := q1.c2
  have k3 := q1.c3
  clear hv ha hb hc q1
  have hn1 : ¬ (k + (r.numbers.length : Int) < 0) := by omega
  have hn2 : ¬ (k + (r.numbers.length : Int) + (r.bounds.length : Int) < 0) := by omega
  have hn3 : ¬ (k + (r.numbers.length : Int) + (r.bounds.length : Int) + (r.gains.length : Int) < 0) := by omega
  go_enter Try.func18, Try.ntmps18
  go_wp2_with fail
  change Calls _ _ #[a, _] (w.alloc (.cells #[.int .i64 r.vars, a, b, c] 33)) _
  rw [← hW]
  clear hW
  refine (HA.out _ (Drew.refl _)).mono ?_
  rintro e w2 ⟨rfl, m, rfl⟩
  go_wp2_with fail
  refine (HB.out _ (Drew.one W _)).mono ?_
  rintro e w2 ⟨rfl, m2, rfl⟩
  go_wp2_with fail
  refine (HC.out _ (Drew.one W _)).mono ?_
  rintro e w2 ⟨rfl, m3, rfl⟩
  go_wp2
  go_ret
  exact ⟨rfl, hBW.trans ((Drew.one W _).below _)⟩
set_option maxHeartbeats 2000000 in
set_option maxRecDepth 100000 in
theorem toRows_any {l h : Nat} (v : Value) (r : RowsD) (w : World) (hv : RowsR w l h v r) (hz : SmallR r) (hh : h ≤ w.heap.size) :
    Calls Try.prog 14 #[v] w fun e w' => ∃ u, e = .returned u ∧ OwnR w' w.heap.size w'.heap.size u r ∧ Below w.heap.size w w' := by
  obtain ⟨a, b, c, rfl, ha, hb, hc⟩ := hv.ex
  have hr := hv.rng
  clear hv
  unfold SmallR at hz
  obtain ⟨W, hW⟩ : ∃ W, W = ((w.alloc (.cells #[.int .i64 r.vars, a, b, c] 31)).alloc (.cells #[.int .i64 0, .slice none 0 0, .slice none 0 0, .slice none 0 0] 33)).alloc (.cells #[.int .i64 r.vars, .slice none 0 0, .slice none 0 0, .slice none 0 0] 33) := ⟨_, rfl⟩
  have hBW : Below w.heap.size w W := by rw [hW]; exact (((Below.refl _ _).alloc (Nat.le_refl _) _).alloc (by simp) _).alloc (by simp only [World.size_alloc]; omega) _
  have hsW : W.heap.size = w.heap.size + 3 := by rw [hW]; simp only [World.size_alloc]
  have q0 : QuadC W w.heap.size 31 (.int .i64 r.vars) a b c := by rw [hW]; exact ((QuadC.new _ _ _ _ _ _).alloc _).alloc _
  have q1 : QuadC W (w.heap.size + 1) 33 (.int .i64 0) (.slice none 0 0) (.slice none 0 0) (.slice none 0 0) := by
    rw [hW]; refine QuadC.alloc ?_ _
    have := QuadC.new (w.alloc (.cells #[.int .i64 r.vars, a, b, c] 31)) 33 (.int .i64 0) (.slice none 0 0) (.slice none 0 0) (.slice none 0 0)
    rwa [World.size_alloc] at this
  have q2 : QuadC W (w.heap.size + 1 + 1) 33 (.int .i64 r.vars) (.slice none 0 0) (.slice none 0 0) (.slice none 0 0) := by
    rw [hW]
    have := QuadC.new ((w.alloc (.cells #[.int .i64 r.vars, a, b, c] 31)).alloc (.cells #[.int .i64 0, .slice none 0 0, .slice none 0 0, .slice none 0 0] 33)) 33 (.int .i64 r.vars) (.slice none 0 0) (.slice none 0 0) (.slice none 0 0)
    rwa [World.size_alloc, World.size_alloc] at this
  have ha1 := ha.below hBW hh
  have hb1 := hb.below hBW hh
  have hc1 := hc.below hBW hh
  have z1 : h ≤ W.heap.size := by omega
  clear ha hb hc
  go_enter Try.func14, Try.ntmps14
  go_wp2_with fail
  rw [← hW]
  clear hW
  refine (toFloat32S_any a r.numbers W ha1 (by omega)).mono ?_
  rintro e w2 ⟨u1, rfl, o1, e1⟩
  obtain ⟨p1, c1, rfl⟩ := o1.rd.shape
  have s2 := e1.size
  have r0 := q0.below e1 (by omega)
  have r1 := q1.below e1 (by omega)
  have r2 := q2.below e1 (by omega)
  have hb2 := hb1.below e1 z1
  have hc2 := hc1.below e1 z1
  have k1 := r0.c2
  have k2 := r2.c1
  have k3 := r2.f1
  go_wp2_with fail
  clear k1 k2 k3 q0 q1 q2 hb1 hc1
  obtain ⟨W2, hW2⟩ : ∃ W2, W2 = w2.setCell ⟨w.heap.size + 1 + 1, 1, none⟩ (.slice p1 r.numbers.length c1) := ⟨_, rfl⟩
  have hS2 : Same w.heap.size W.heap.size w2 W2 := by rw [hW2]; exact (Same.refl _ _ _).setCell (by simp; omega) (by simp; omega) _
  have s2' : W2.heap.size = w2.heap.size := by rw [hW2]; simp
  have q0 : QuadC W2 w.heap.size 31 (.int .i64 r.vars) a b c := by rw [hW2]; exact r0.other (by simp; omega) _
  have q1 : QuadC W2 (w.heap.size + 1) 33 (.int .i64 0) (.slice none 0 0) (.slice none 0 0) (.slice none 0 0) := by rw [hW2]; exact r1.other (by simp) _
  have q2 : QuadC W2 (w.heap.size + 1 + 1) 33 (.int .i64 r.vars) (.slice p1 r.numbers.length c1) (.slice none 0 0) (.slice none 0 0) := by rw [hW2]; exact r2.set1 _
  have hb1 := hb2.same hS2 (.inl hh)
  have hc1 := hc2.same hS2 (.inl hh)
  have o1' := o1.same hS2 (.inr (Nat.le_refl _))
  rw [← hW2]
  clear hW2 r0 r1 r2 hb2 hc2 o1
  have hB2 : Below w.heap.size w W2 := (hBW.trans (e1.mono (by omega))).trans (hS2.below (Nat.le_refl _) (by omega))
  refine (toFloat32S_any b r.bounds W2 hb1 (by omega)).mono ?_
  rintro e w3 ⟨u2, rfl, o2, e2⟩
  obtain ⟨p2, c2, rfl⟩ := o2.rd.shape
  have s3 := e2.size
  have r0 := q0.below e2 (by omega)
  have r1 := q1.below e2 (by omega)
  have r2 := q2.below e2 (by omega)
  have hc2 := hc1.below e2 (by omega)
  have o1 := o1'.below e2 (by omega)
  have k1 := r0.c3
  have k2 := r2.c2
  have k3 := r2.f2
  go_wp2_with fail
  clear k1 k2 k3 q0 q1 q2 hb1 hc1
  obtain ⟨W3, hW3⟩ : ∃ W3, W3 = w3.setCell ⟨w.heap.size + 1 + 1, 2, none⟩ (.slice p2 r.bounds.length c2) := ⟨_, rfl⟩
  have hS3 : Same w.heap.size W.heap.size w3 W3 := by rw [hW3]; exact (Same.refl _ _ _).setCell (by simp; omega) (by simp; omega) _
  have s3' : W3.heap.size = w3.heap.size := by rw [hW3]; simp
  have q0 : QuadC W3 w.heap.size 31 (.int .i64 r.vars) a b c := by rw [hW3]; exact r0.other (by simp; omega) _
  have q1 : QuadC W3 (w.heap.size + 1) 33 (.int .i64 0) (.slice none 0 0) (.slice none 0 0) (.slice none 0 0) := by rw [hW3]; exact r1.other (by simp) _
  have q2 : QuadC W3 (w.heap.size + 1 + 1) 33 (.int .i64 r.vars) (.slice p1 r.numbers.length c1) (.slice p2 r.bounds.length c2) (.slice none 0 0) := by rw [hW3]; exact r2.set2 _
  have hc1 := hc2.same hS3 (.inl hh)
  have o1' := o1.same hS3 (.inr (Nat.le_refl _))
  have o2' := o2.same hS3 (.inr (by omega))
  rw [← hW3]
  clear hW3 r0 r1 r2 hc2 o1 o2
  have hB3 : Below w.heap.size w W3 := (hB2.trans (e2.mono (by omega))).trans (hS3.below (Nat.le_refl _) (by omega))
  refine (toFloat32S_any c r.gains W3 hc1 (by omega)).mono ?_
  rintro e w4 ⟨u3, rfl, o3, e3⟩
  obtain ⟨p3, c3, rfl⟩ := o3.rd.shape
  have s4 := e3.size
  have r1 := q1.below e3 (by omega)
  have r2 := q2.below e3 (by omega)
  have o1 := o1'.below e3 (by omega)
  have o2 := o2'.below e3 (by omega)
  have k0 := r2.c0
  have k1 := r2.c1
  have k2 := r2.c2
  have k3 := r2.c3
  have f3 := r2.f3
  have j0 := r1.c0
  have j1 := r1.c1
  have j2 := r1.c2
  have j3 := r1.c3
  have g0 := r1.f0
  have g1 := r1.f1
  have g2 := r1.f2
  have g3 := r1.f3
  clear q0 q1 q2 hc1 o1' o2'
  have hB4 : Below w.heap.size w w4 := hB3.trans (e3.mono (by omega))
  go_wp2_with fail
  have hS := (((((Same.refl w.heap.size W.heap.size w4).setCell (p := ⟨w.heap.size + 1 + 1, 3, none⟩) (by simp; omega) (by simp; omega) (.slice p3 r.gains.length c3)).setCell (p := ⟨w.heap.size + 1, 0, none⟩) (by simp) (by simp; omega) (.int .i64 r.vars)).setCell (p := ⟨w.heap.size + 1, 1, none⟩) (by simp) (by simp; omega) (.slice p1 r.numbers.length c1)).setCell (p := ⟨w.heap.size + 1, 2, none⟩) (by simp) (by simp; omega) (.slice p2 r.bounds.length c2)).setCell (p := ⟨w.heap.size + 1, 3, none⟩) (by simp) (by simp; omega) (.slice p3 r.gains.length c3)
  refine bodyPost_ret (v := .agg #[.int .i64 r.vars, .slice p1 r.numbers.length c1, .slice p2 r.bounds.length c2, .slice p3 r.gains.length c3]) (by simp [results, Try.results14, go_sem, j0, j1, j2, j3]) rfl ⟨_, rfl, ⟨⟨_, _, _, W.heap.size, w2.heap.size, W2.heap.size, w3.heap.size, W3.heap.size, w4.heap.size, rfl, o1.same hS (.inr (Nat.le_refl _)), o2.same hS (.inr (by omega)), o3.same hS (.inr (by omega)), ?_, ?_⟩, hr, ?_⟩, hB4.trans (hS.below (Nat.le_refl _) hB4.size)⟩
  · have := hS.size; omega
  · unfold Apt; omega
  · exact Nat.le_refl _
end Go.Proofs.Ytocngcpdpeflnaa
