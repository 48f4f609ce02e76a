/-
  Laws on append of Bools that lie somewhere to a slice of Bools of the call's own; slices.Clone of Bools.
-/
import Derived.Test.YtcpbgjnijhcpkaaAppB
import Derived.Test.YtcpbgjnijhcpkaaConcat
import Derived.Deep.RegionHeld3
import Derived.WalkSpells
namespace Go.Proofs.Ytcpbgjnijhcpkaa
open Go.RowKit
set_option linter.unusedVariables false
set_option maxRecDepth 100000

theorem run_append_emptyB (w : World) (g : Option Addr) (n cap : Nat) (hn : n ≤ cap) (a : Option Addr) (c : Nat) (ty : TypeId) :
    (Builtin.append_ #[40, 40] ty #[.slice g n cap, .slice a 0 c]).run Try.prog w = .ok (.slice g n cap) w := by
  obtain ⟨i0, hi0, hz0, hz1, hz2⟩ := info_parts info_bool
  have hf : ∀ w', Sem.run Try.prog (Builtin.firstCells 1 0 (.slice a 0 c)) w' = .ok #[] w' := by
    intro w'
    cases a <;> simp [Builtin.firstCells, loadCells, loadCellsFrom]
  cases g <;> simp [Builtin.append_, run_underlying Try.underlying40, sizeOf, typeInfo, hi0, hz1, Builtin.lenOf, hn, hf, storeCells]
/-- 'append' of Bools that lie somewhere (maybe none) to a slice of the call's own, at the operation. -/
theorem wp_appBs {w : World} {o : Oper} {a : Act} {K : Act → World → Prop} {Q : Exit → Act → World → Prop} (s x : Operand)
    (ho : o.op = .call { callee := .builtin .append, args := #[s, x], argTypes := #[40, 40] })
    {lo hi l h : Nat} (v : Value) (xs : List Bool) (hs : a.eval s = v) (hv : OwnB w lo hi v xs) (u : Value) (ys : List Bool) (hx : a.eval x = u) (hy : Bools w l h u ys)
    (hl : xs.length + ys.length ≤ 1099511627776) (hlo : lo ≤ w.heap.size)
    (hK : ∀ v' w', OwnB w' lo w'.heap.size v' (xs ++ ys) → Same lo hi w w' → w.heap.size ≤ w'.heap.size → (v'.ownBlock = v.ownBlock ∨ v'.ownBlock = some w.heap.size) → K (a.put o.dst v') w') :
    o.wp Try.prog a w K Q := by
  obtain ⟨ua, uc, rfl, hc1, hc2, hd⟩ := hy.out
  by_cases h0 : 0 < ys.length
  · rcases hd with hd | ⟨b, off, rfl, hb1, hb2, hb3, hcell⟩
    · rw [hd] at h0; simp at h0
    obtain ⟨i0, hi0, hz0, hz1, hz2⟩ := info_parts info_bool
    have hmL : xs.length + ys.length ≤ maxLen := by unfold maxLen; omega
    have hn : ∀ j z, (ys.map (Value.bool))[j]? = some z → w.cell? ((⟨b, off, none⟩ : Addr).add j) = some z := by
      intro j z hz
      obtain ⟨hj, rfl⟩ := List.getElem?_eq_some_iff.1 hz
      simp only [List.length_map] at hj
      rw [add_plain', hcell j hj]; simp [hj]
    have h1 := bools_oneCell ys
    have hlen : (ys.map (Value.bool)).length = ys.length * 1 := by simp
    have hrow := hv.own.row
    obtain ⟨v', w', hrun, h2, h3, h4⟩ := run_append_own (P := Try.prog) w lo 40 o.type 4 i0 (.bool false) 1 1 Try.underlying40 hi0 hz0 hz1 hz2 rfl (by decide) v xs.length _ hrow ⟨b, off, none⟩ ys.length uc _ hlen hn h1 hmL (by omega) hlo
    have hblk := append_block lo 40 o.type 4 i0 (.bool false) 1 1 Try.underlying40 hi0 hz0 hz1 hz2 rfl (by decide) v xs.length _ hrow ⟨b, off, none⟩ ys.length uc _ hlen hn h1 hmL (by omega) h0 hrun
    unfold Oper.wp
    simp only [execOp, ho, resolve, invoke, builtin, Sem.run_bind, Sem.run_pure, Result.andThen_ok, List.map_toArray, List.map_cons, List.map_nil, hs, hx, hrun]
    have hsz := hv.own.hsz
    have hsame : Same lo hi w w' := ⟨h3.os, h3.tape, h3.output, h3.size, fun k hk hn' => h3.block k hk (fun e => hn' ⟨hv.ge k e.symm, hv.own.blk k e.symm⟩)⟩
    refine hK v' w' ⟨⟨?_, fun k e => (h2.lt k e).2, Nat.le_refl _⟩, by rw [List.length_append]; exact hl⟩ hsame h3.size hblk
    rw [List.length_append, List.map_append]; exact h2
  · have e : ys = [] := List.eq_nil_of_length_eq_zero (by omega)
    subst e
    obtain ⟨ga, gc, rfl, g1, g2, _⟩ := hv.rd.out
    have hrun := run_append_emptyB w ga xs.length gc g1 ua uc
    unfold Oper.wp
    simp only [execOp, ho, resolve, invoke, builtin, Sem.run_bind, Sem.run_pure, Result.andThen_ok, List.map_toArray, List.map_cons, List.map_nil, hs, hx, List.length_nil, hrun]
    exact hK _ w (by rw [List.append_nil]; exact hv.mono (Nat.le_refl _) hv.own.hsz (Nat.le_refl _)) (Same.refl _ _ _) (Nat.le_refl _) (.inl rfl)
theorem wpList_appBs {w : World} {ops : Array Oper} {rest : List Oper} {o : Oper} {a : Act} {Q : Exit → Act → World → Prop} (hgd : o.guard = none) (s x : Operand)
    (ho : o.op = .call { callee := .builtin .append, args := #[s, x], argTypes := #[40, 40] })
    {lo hi l h : Nat} (v : Value) (xs : List Bool) (hs : a.eval s = v) (hv : OwnB w lo hi v xs) (u : Value) (ys : List Bool) (hx : a.eval x = u) (hy : Bools w l h u ys)
    (hl : xs.length + ys.length ≤ 1099511627776) (hlo : lo ≤ w.heap.size)
    (hK : ∀ v' w', OwnB w' lo w'.heap.size v' (xs ++ ys) → Same lo hi w w' → w.heap.size ≤ w'.heap.size → (v'.ownBlock = v.ownBlock ∨ v'.ownBlock = some w.heap.size) → wpList Try.prog ops Q rest (a.put o.dst v') w') :
    wpList Try.prog ops Q (o :: rest) a w :=
  wpList_plain hgd fun K hK' => wp_appBs s x ho v xs hs hv u ys hx hy hl hlo fun v' w' h1 h2 h3 h4 => hK' _ _ (hK v' w' h1 h2 h3 h4)
theorem step_appBs {w : World} {ops : Array Oper} {o : Oper} {a : Act} {K : Act → World → Prop} {Q : Exit → Act → World → Prop} {E : Prop} (hgd : o.guard = none) (s x : Operand)
    (ho : o.op = .call { callee := .builtin .append, args := #[s, x], argTypes := #[40, 40] })
    {lo hi l h : Nat} (v : Value) (xs : List Bool) (hs : a.eval s = v) (hv : OwnB w lo hi v xs) (u : Value) (ys : List Bool) (hx : a.eval x = u) (hy : Bools w l h u ys)
    (hl : xs.length + ys.length ≤ 1099511627776) (hlo : lo ≤ w.heap.size)
    (hK : ∀ v' w', OwnB w' lo w'.heap.size v' (xs ++ ys) → Same lo hi w w' → w.heap.size ≤ w'.heap.size → (v'.ownBlock = v.ownBlock ∨ v'.ownBlock = some w.heap.size) → K (a.put o.dst v') w') :
    if Region.wanted o (yielded ops a.tmps) = true then Oper.wp Try.prog o a w K Q else E := by
  have hw : Region.wanted o (yielded ops a.tmps) = true := by simp [Region.wanted, hgd]
  rw [if_pos hw]
  exact wp_appBs s x ho v xs hs hv u ys hx hy hl hlo hK
theorem oneBool (w : World) (b : Bool) (t : TypeId) : Bools (w.alloc (.cells #[.bool b] t)) w.heap.size (w.heap.size + 1) (.slice (some ⟨w.heap.size, 0, none⟩) 1 1) [b] :=
  ⟨⟨some ⟨w.heap.size, 0, none⟩, 1, rfl, Nat.le_refl _, by omega, .inr ⟨w.heap.size, 0, rfl, Nat.le_refl _, by omega, by simp, fun i hi => by
    have : i = 0 := by simp at hi; omega
    subst this
    rw [cell_new1]; rfl⟩⟩⟩
theorem OwnB.shape {w : World} {lo hi : Nat} {v : Value} {zs : List Bool} (h : OwnB w lo hi v zs) : ∃ a cap, v = .slice a zs.length cap := by
  obtain ⟨a, cap, e, _⟩ := h.rd.out; exact ⟨a, cap, e⟩
set_option maxHeartbeats 800000 in
set_option maxRecDepth 100000 in
theorem cloneB_any {l h : Nat} (v : Value) (zs : List Bool) (w : World) (hv : Bools w l h v zs) (hh : h ≤ w.heap.size) (hz : zs.length ≤ 1048576) :
    Calls Try.prog 119 #[v] w fun e w' => ∃ u, e = .returned u ∧ OwnB w' w.heap.size w'.heap.size u zs ∧ Below w.heap.size w w' := by
  have qT : ∀ (w : World) (a : Option Addr) (n c n' c' : Nat), (binOp .eql 40 (.slice a n c) (.slice none n' c')).run Try.prog w = .ok (.bool a.isNone) w := fun w a n c n' c' => Lib.run_eql_slice_nil w _ _ a n c n' c' Try.underlying40
  obtain ⟨a, cap, rfl, hc1, hc2, hd⟩ := hv.out
  cases a with
  | none =>
    have e : zs = [] := by
      rcases hd with hd | ⟨b, off, e, _⟩
      · exact hd
      · cases e
    subst e
    go_enter Try.func119, Try.ntmps119
    go_wp2
    go_ret
    exact ⟨_, rfl, OwnB.nil _ _ _ (Nat.le_refl _), Below.refl _ _⟩
  | some a =>
    have hb : Below w.heap.size w (w.alloc (.cells #[] 4)) := alloc_belowW w _
    have HX := Lib.hid (hv.below hb hh)
    have H0 := Lib.hid (emptySliceB w)
    obtain ⟨W, hW⟩ : ∃ W, W = w.alloc (.cells #[] 4) := ⟨_, rfl⟩
    rw [← hW] at hb HX H0
    have hsW : W.heap.size = w.heap.size + 1 := by rw [hW]; simp
    clear hv hd
    go_enter Try.func119, Try.ntmps119
    go_wp2_with (at_builtin; rw [← hW]; clear hW; refine wpList_appBs rfl _ _ rfl _ [] rfl H0.out _ zs rfl HX.out (by simp; omega) (by omega) ?_)
    intro v2 w3 ho2 hsm hz3 _
    have HO : Hid (OwnB w3 w.heap.size w3.heap.size v2 zs) := by simpa [Hid] using ho2
    clear ho2
    go_wp2
    go_ret
    exact ⟨_, rfl, HO.out, hb.trans (hsm.below (Nat.le_refl _) (by omega))⟩
end Go.Proofs.Ytcpbgjnijhcpkaa
