/-
  A law on append of one row to a slice of slices that the call itself made.
-/
import Derived.Test.YtkankfdpodofjaaApp
import Derived.Test.YtkankfdpodofjaaIntss
namespace Go.Proofs.Ytkankfdpodofjaa
open Go.RowKit
set_option linter.unusedVariables false
set_option maxRecDepth 100000

theorem Own.alloc' {w : World} {lo hi : Nat} {e : TypeId} {sz n : Nat} {v : Value} {cs : List Value} (h : Own w lo hi e sz v n cs) (o : Obj) : Own (w.alloc o) lo hi e sz v n cs :=
  h.keep (by simp) fun k _ _ hk => Below.heap_alloc _ _ _ hk
/-- 'append' of one row, that lies alone in a new block, to a slice of the call's own: the values. -/
theorem wp_app1V {w : World} {o : Oper} {a : Act} {K : Act → World → Prop} {Q : Exit → Act → World → Prop} (s x : Operand)
    (ho : o.op = .call { callee := .builtin .append, args := #[s, x], argTypes := #[71, 71] })
    {lo hi : Nat} (v : Value) (n : Nat) (vs : List Value) (hs : a.eval s = v) (u : Value) (hu : u.oneCell' = true) (e : TypeId) (hv : Own w lo hi 25 1 v n vs) (hx : a.eval x = .slice (some ⟨w.heap.size, 0, none⟩) 1 1)
    (hl : n + 1 ≤ 1048576) (hlo : lo ≤ w.heap.size)
    (h : ∀ v' w', Own w' lo w'.heap.size 25 1 v' (n + 1) (vs ++ [u]) → (∀ k, k < w.heap.size → v.ownBlock ≠ some k → w'.heap[k]? = w.heap[k]?) → Same lo hi w w' → w.heap.size + 1 ≤ w'.heap.size → (v'.ownBlock = v.ownBlock ∨ v'.ownBlock = some (w.heap.size + 1)) → K (a.put o.dst v') w') :
    o.wp Try.prog a (w.alloc (.cells #[u] e)) K Q := by
  obtain ⟨i0, hi0, hz0, hz1, hz2⟩ := info_parts info_ints
  have hmL : n + 1 ≤ maxLen := by unfold maxLen; omega
  have hva := hv.alloc' (.cells #[u] e)
  have hn : ∀ j z, [u][j]? = some z → (w.alloc (.cells #[u] e)).cell? ((⟨w.heap.size, 0, none⟩ : Addr).add j) = some z := by
    intro j z hz
    obtain ⟨hj, rfl⟩ := List.getElem?_eq_some_iff.1 hz
    have hj0 : j = 0 := by simp at hj; exact hj
    subst hj0
    rw [add_zero_plain]
    exact cell_new1 _ _ _
  have h1 : ∀ z ∈ [u], z.oneCell' = true := by simpa using hu
  have hrow := hva.row
  obtain ⟨v', w', hrun, h2, h3, h4⟩ := run_append_own (P := Try.prog) (w.alloc (.cells #[u] e)) lo 71 o.type 25 i0 (.slice none 0 0) 1 24 Try.underlying71 hi0 hz0 hz1 hz2 rfl (by decide) v n _ hrow ⟨w.heap.size, 0, none⟩ 1 1 _ (by simp) hn h1 hmL (by omega) (by simp; omega)
  have hblk := append_block lo 71 o.type 25 i0 (.slice none 0 0) 1 24 Try.underlying71 hi0 hz0 hz1 hz2 rfl (by decide) v n _ hrow ⟨w.heap.size, 0, none⟩ 1 1 _ (by simp) hn h1 hmL (by omega) (by decide) hrun
  unfold Oper.wp
  simp only [execOp, ho, resolve, invoke, builtin, Sem.run_bind, Sem.run_pure, Result.andThen_ok, List.map_toArray, List.map_cons, List.map_nil, hs, hx, hrun]
  have hsz := hv.hsz
  have hsz' := h3.size
  simp only [World.size_alloc] at hsz' hblk
  have hkeep : ∀ k, k < w.heap.size → v.ownBlock ≠ some k → w'.heap[k]? = w.heap[k]? := fun k hk hne =>
    (h3.block k (by simp; omega) (fun e => hne e.symm)).trans (Below.heap_alloc _ _ _ hk)
  have hsame : Same lo hi w w' := ⟨h3.os, h3.tape, h3.output, by omega, fun k hk hn' => hkeep k hk (fun e => hn' ⟨(hv.row.lt k e).1, hv.blk k e⟩)⟩
  exact h v' w' ⟨h2, fun k e => (h2.lt k e).2, Nat.le_refl _⟩ hkeep hsame hsz' hblk
/-- .. a row whose memory lies above all that the slice has. -/
theorem wp_appII {w : World} {o : Oper} {a : Act} {K : Act → World → Prop} {Q : Exit → Act → World → Prop} (s x : Operand)
    (ho : o.op = .call { callee := .builtin .append, args := #[s, x], argTypes := #[71, 71] })
    {lo hi mid : Nat} (v : Value) (zss : List (List Int)) (hs : a.eval s = v) (u : Value) (zs : List Int) (e : TypeId) (hv : OwnII w lo hi v zss) (hu : OwnI w mid w.heap.size u zs) (hm : hi ≤ mid) (hlm : lo ≤ mid) (hx : a.eval x = .slice (some ⟨w.heap.size, 0, none⟩) 1 1)
    (hl : zss.length + 1 ≤ 1048576) (hsum : ((zss ++ [zs]).map List.length).sum ≤ 1099511627776) (hlo : lo ≤ w.heap.size)
    (h : ∀ v' w', OwnII w' lo w'.heap.size v' (zss ++ [zs]) → Same lo hi w w' → w.heap.size + 1 ≤ w'.heap.size → K (a.put o.dst v') w') :
    o.wp Try.prog a (w.alloc (.cells #[u] e)) K Q := by
  obtain ⟨vs, h1, h2, h3, h4, h5⟩ := hv.ex
  have hone : u.oneCell' = true := by
    rcases hu.rowOf with ⟨rfl, _⟩ | ⟨g, cap, rfl, _⟩ <;> rfl
  refine wp_app1V s x ho v zss.length vs hs u hone e h2 hx hl hlo fun v' w' ho' hkeep hsame hsz hblk => ?_
  have hub := fun p (hp : u.ownBlock = some p) => hu.own.row.lt p hp
  have hvb := fun p (hp : v.ownBlock = some p) => h2.blk p hp
  have hg1 : ∀ i, i < zss.length → (vs ++ [u]).getD i undef = vs.getD i undef := fun i hi => by
    simp only [List.getD, List.getElem?_append_left (show i < vs.length by omega)]
  have hg2 : (vs ++ [u]).getD zss.length undef = u := by
    simp only [List.getD, List.getElem?_append_right (show vs.length ≤ zss.length by omega), h1, Nat.sub_self]; rfl
  have hlen : (zss ++ [zs]).length = zss.length + 1 := by simp
  have hsz0 : w.heap.size ≤ w'.heap.size := by omega
  refine h v' w' ⟨⟨vs ++ [u], by simp [h1], by rw [hlen]; exact ho', ?_, ?_, ?_⟩, hsum⟩ hsame hsz
  · intro i hi
    rw [hlen] at hi
    by_cases hil : i < zss.length
    · rw [hg1 i hil, List.getElem_append_left hil]
      refine ((h3 i hil).stay hsz0 fun p hp => hkeep p (by have := (h3 i hil).own.blk p hp; have := h2.hsz; omega) fun e2 => h5 i hil p hp e2).mono (Nat.le_refl _) (by have := h2.hsz; omega) (Nat.le_refl _)
    · obtain rfl : i = zss.length := by omega
      rw [hg2]
      simp only [List.getElem_append_right (Nat.le_refl _), Nat.sub_self, List.getElem_cons_zero]
      refine (hu.stay hsz0 fun p hp => hkeep p (hub p hp).2 fun e2 => ?_).mono hlm hsz0 (Nat.le_refl _)
      have := hvb p e2; have := (hub p hp).1; omega
  · intro i j hij hj p hp
    rw [hlen] at hj
    have hil : i < zss.length := by omega
    rw [hg1 i hil] at hp
    by_cases hjl : j < zss.length
    · rw [hg1 j hjl]; exact h4 i j hij hjl p hp
    · obtain rfl : j = zss.length := by omega
      rw [hg2]
      intro e2
      have := (h3 i hil).own.blk p hp; have := (hub p e2).1; omega
  · intro i hi p hp e2
    rw [hlen] at hi
    by_cases hil : i < zss.length
    · rw [hg1 i hil] at hp
      have hb := (h3 i hil).own.blk p hp
      have hz := h2.hsz
      rcases hblk with hblk | hblk
      · exact h5 i hil p hp (by rw [← hblk]; exact e2)
      · rw [hblk] at e2; cases e2; omega
    · obtain rfl : i = zss.length := by omega
      rw [hg2] at hp
      have hb := hub p hp
      rcases hblk with hblk | hblk
      · have := hvb p (by rw [← hblk]; exact e2); omega
      · rw [hblk] at e2; cases e2; omega
theorem wpList_appII {w : World} {ops : Array Oper} {rest : List Oper} {o : Oper} {a : Act} {Q : Exit → Act → World → Prop} (hgd : o.guard = none) (s x : Operand)
    (ho : o.op = .call { callee := .builtin .append, args := #[s, x], argTypes := #[71, 71] })
    {lo hi mid : Nat} (v : Value) (zss : List (List Int)) (hs : a.eval s = v) (u : Value) (zs : List Int) (e : TypeId) (hv : OwnII w lo hi v zss) (hu : OwnI w mid w.heap.size u zs) (hm : hi ≤ mid) (hlm : lo ≤ mid) (hx : a.eval x = .slice (some ⟨w.heap.size, 0, none⟩) 1 1)
    (hl : zss.length + 1 ≤ 1048576) (hsum : ((zss ++ [zs]).map List.length).sum ≤ 1099511627776) (hlo : lo ≤ w.heap.size)
    (h : ∀ v' w', OwnII w' lo w'.heap.size v' (zss ++ [zs]) → Same lo hi w w' → w.heap.size + 1 ≤ w'.heap.size → wpList Try.prog ops Q rest (a.put o.dst v') w') :
    wpList Try.prog ops Q (o :: rest) a (w.alloc (.cells #[u] e)) :=
  wpList_plain hgd fun _ hK => wp_appII s x ho v zss hs u zs e hv hu hm hlm hx hl hsum hlo fun v' w' h1 h2 h3 => hK _ _ (h v' w' h1 h2 h3)
/-- .. at a step of a region that draws its order -/
theorem step_appII {w : World} {ops : Array Oper} {o : Oper} {a : Act} {K : Act → World → Prop} {Q : Exit → Act → World → Prop} {E : Prop} (hgd : o.guard = none) (s x : Operand)
    (ho : o.op = .call { callee := .builtin .append, args := #[s, x], argTypes := #[71, 71] })
    {lo hi mid : Nat} (v : Value) (zss : List (List Int)) (hs : a.eval s = v) (u : Value) (zs : List Int) (e : TypeId) (hv : OwnII w lo hi v zss) (hu : OwnI w mid w.heap.size u zs) (hm : hi ≤ mid) (hlm : lo ≤ mid) (hx : a.eval x = .slice (some ⟨w.heap.size, 0, none⟩) 1 1)
    (hl : zss.length + 1 ≤ 1048576) (hsum : ((zss ++ [zs]).map List.length).sum ≤ 1099511627776) (hlo : lo ≤ w.heap.size)
    (h : ∀ v' w', OwnII w' lo w'.heap.size v' (zss ++ [zs]) → Same lo hi w w' → w.heap.size + 1 ≤ w'.heap.size → K (a.put o.dst v') w') :
    if Region.wanted o (yielded ops a.tmps) = true then Oper.wp Try.prog o a (w.alloc (.cells #[u] e)) K Q else E := by
  have hw : Region.wanted o (yielded ops a.tmps) = true := by simp [Region.wanted, hgd]
  rw [if_pos hw]
  exact wp_appII s x ho v zss hs u zs e hv hu hm hlm hx hl hsum hlo h
end Go.Proofs.Ytkankfdpodofjaa
