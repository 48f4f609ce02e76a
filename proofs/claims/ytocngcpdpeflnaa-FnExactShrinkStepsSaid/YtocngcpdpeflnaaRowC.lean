/-
  A row of rows as a part of the numbers (spec.l02Row, impl.Rows.row), and copies of numbers.
-/
import Derived.Test.YtocngcpdpeflnaaValidRows
import Derived.OwnWalk
namespace Go.Proofs.Ytocngcpdpeflnaa
open Go.RowKit
set_option linter.unusedVariables false
set_option maxRecDepth 100000

/-- a part of a list in memory -/
theorem Flts.part {w : World} {lo hi b off n cap : Nat} {zs : List Nat} (h : Flts w lo hi (.slice (some ⟨b, off, none⟩) n cap) zs) {q k c : Nat} (hk : 0 < k) (hq : q + k ≤ zs.length) (hc : k ≤ c) (hc2 : c ≤ 9223372036854775807) :
    Flts w lo hi (.slice (some ⟨b, off + q, none⟩) k c) ((zs.drop q).take k) := by
  obtain ⟨a', cap', e, h1, h2, h3⟩ := h.out
  simp only [Value.slice.injEq] at e
  obtain ⟨e1, rfl, rfl⟩ := e
  have e : ((zs.drop q).take k).length = k := by rw [List.length_take, List.length_drop]; omega
  refine ⟨⟨_, c, by rw [e], by omega, hc2, ?_⟩⟩
  rw [e]
  rcases h3 with h3 | ⟨b', off', r1, r2, r3, r4, r5⟩
  · rw [h3] at hq; simp at hq; omega
  · rw [← e1] at r1
    simp only [Option.some.injEq, Addr.mk.injEq] at r1
    obtain ⟨rfl, rfl, _⟩ := r1
    refine .inr ⟨b, off + q, rfl, r2, r3, r4, fun i hi => ?_⟩
    have := r5 (q + i) (by omega)
    rw [show off + q + i = off + (q + i) by omega, this]
    congr 2
    simp [List.getD, List.getElem?_drop, show i < k by omega]
theorem wpList_appRunFL {w w' : World} {ops : Array Oper} {rest : List Oper} {o : Oper} {a : Act} {Q : Exit → Act → World → Prop} (hgd : o.guard = none) (s x : Operand) (t ti : TypeId)
    (ho : o.op = .call { callee := .builtin .append, args := #[s, x], argTypes := #[t, ti] }) {v u v' : Value} (hs : a.eval s = v) (hx : a.eval x = u)
    (hrun : ∀ ty, (Builtin.append_ #[t, ti] ty #[v, u]).run Try.prog w = .ok v' w') (h : wpList Try.prog ops Q rest (a.put o.dst v') w') : wpList Try.prog ops Q (o :: rest) a w := by
  refine wpList_plain hgd fun K hK => ?_
  unfold Oper.wp
  simp only [execOp, ho, resolve, invoke, builtin, Sem.run_bind, Sem.run_pure, Result.andThen_ok, List.map_toArray, List.map_cons, List.map_nil, hs, hx, hrun]
  exact hK _ _ h
theorem run_append_emptyFL (w : World) (g : Option Addr) (n cap : Nat) (hn : n ≤ cap) (a : Option Addr) (c : Nat) (ty : TypeId) :
    (Builtin.append_ #[22, 22] ty #[.slice g n cap, .slice a 0 c]).run Try.prog w = .ok (.slice g n cap) w := by
  obtain ⟨i0, hi0, hz0, hz1, hz2⟩ := info_parts info_f32
  have hf : ∀ w', Sem.run Try.prog (Builtin.firstCells 1 0 (.slice a 0 c)) w' = .ok #[] w' := by
    intro w'
    cases a <;> simp [Builtin.firstCells, loadCells, loadCellsFrom]
  cases g <;> simp [Builtin.append_, run_underlying Try.underlying22, sizeOf, typeInfo, hi0, hz1, Builtin.lenOf, hn, hf, storeCells]
set_option maxHeartbeats 800000 in
set_option maxRecDepth 100000 in
theorem copyNumbers_any {l h : Nat} (v : Value) (zs : List Nat) (w : World) (hv : Flts w l h v zs) (hh : h ≤ w.heap.size) (hz : zs.length ≤ 1048576) :
    Calls Try.prog 34 #[v] w fun e w' => ∃ u, e = .returned u ∧ OwnFL w' w.heap.size w'.heap.size u zs ∧ Below w.heap.size w w' := by
  have hb := alloc_belowR w (.cells #[] 23)
  have hx := hv.below hb hh
  have h0 := emptySliceFL w
  obtain ⟨W, hW⟩ : ∃ W, W = w.alloc (.cells #[] 23) := ⟨_, rfl⟩
  rw [← hW] at hb hx h0
  have hsW : W.heap.size = w.heap.size + 1 := by rw [hW]; simp
  obtain ⟨a, cap, rfl, hc1, hc2, hd⟩ := hx.out
  have HB := Lib.hid hb
  have H0 := Lib.hid h0
  clear hx hv hb h0
  by_cases hn : 0 < zs.length
  · rcases hd with hd | ⟨b, off, rfl, hb1, hb2, hb3, hcell⟩
    · rw [hd] at hn; simp at hn
    have HC : Hid (∀ j, j < zs.length → W.cell? ((⟨b, off, none⟩ : Addr).add j) = some (.float .f32 (zs.getD j 0))) := fun j hj => by
      rw [show (⟨b, off, none⟩ : Addr).add j = ⟨b, off + j, none⟩ by unfold Addr.add; split <;> simp_all]; exact hcell j hj
    clear hcell
    go_enter Try.func34, Try.ntmps34
    go_wp2_with (at_builtin; rw [← hW]; clear hW; refine wpList_appFL rfl _ _ rfl _ [] rfl H0.out zs ⟨b, off, none⟩ cap rfl hn HC.out (by simp; omega) (by omega) ?_)
    intro v2 w3 ho2 hsm hz3 _
    have HO : Hid (OwnFL w3 w.heap.size w3.heap.size v2 zs) := by simpa [Hid] using ho2
    clear ho2
    go_wp2
    go_ret
    exact ⟨_, rfl, HO.out, HB.out.trans (hsm.below (Nat.le_refl _) (by omega))⟩
  · have e : zs = [] := List.eq_nil_of_length_eq_zero (by omega)
    subst e
    have HR0 := Lib.hid (run_append_emptyFL W (some ⟨w.heap.size, 0, none⟩) 0 0 (Nat.le_refl _) a cap)
    go_enter Try.func34, Try.ntmps34
    go_wp2_with (at_builtin; rw [← hW]; clear hW; refine wpList_appRunFL rfl _ _ 22 22 rfl rfl rfl HR0.out ?_)
    go_ret
    exact ⟨_, rfl, H0.out.mono (Nat.le_refl _) (by omega) (Nat.le_refl _), HB.out⟩
end Go.Proofs.Ytocngcpdpeflnaa
