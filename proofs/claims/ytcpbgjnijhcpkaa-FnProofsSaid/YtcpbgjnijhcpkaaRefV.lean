/-
  An own outer slice whose rows lie anywhere but in its own block; appends to it in whatever world.
-/
import Derived.Test.YtcpbgjnijhcpkaaRef
import Derived.Test.YtcpbgjnijhcpkaaModels
namespace Go.Proofs.Ytcpbgjnijhcpkaa
open Go.RowKit
set_option linter.unusedVariables false
set_option maxRecDepth 100000

def Apr (w : World) (E : Nat → Prop) (v u : Value) (zs : List Int) : Prop := ∃ l h, Ints w l h u zs ∧ h ≤ w.heap.size ∧ (∀ p, v.ownBlock = some p → p < l ∨ h ≤ p) ∧ ∀ p, E p → p < l ∨ h ≤ p
structure RefV (w : World) (lo : Nat) (E : Nat → Prop) (v : Value) (zss : List (List Int)) : Prop where
  ex : ∃ vs : List Value, vs.length = zss.length ∧ Own w lo w.heap.size 34 1 v zss.length vs ∧ ∀ i (h : i < zss.length), Apr w E v (vs.getD i undef) zss[i]
  hlo : lo ≤ w.heap.size
theorem RefV.rd {w : World} {lo : Nat} {E : Nat → Prop} {v : Value} {zss : List (List Int)} (h : RefV w lo E v zss) : Intss w 0 w.heap.size v zss := by
  obtain ⟨vs, h1, h2, h3⟩ := h.ex
  exact ⟨fun i => vs.getD i undef, h2.sl.mono (Nat.zero_le _) (Nat.le_refl _) (Nat.le_refl _), fun i hi => by obtain ⟨l, g, q1, q2, _, _⟩ := h3 i hi; exact q1.mono (Nat.zero_le _) q2 (Nat.le_refl _)⟩
theorem RefV.shape {w : World} {lo : Nat} {E : Nat → Prop} {v : Value} {zss : List (List Int)} (h : RefV w lo E v zss) : ∃ a cap, v = .slice a zss.length cap ∧ zss.length ≤ cap := by
  obtain ⟨a, cap, V, e, h1, _⟩ := h.rd.out; exact ⟨a, cap, e, h1⟩
theorem RefV.below {w w' : World} {lo : Nat} {E : Nat → Prop} {v : Value} {zss : List (List Int)} (h : RefV w lo E v zss) (hb : Below w.heap.size w w') : RefV w' lo E v zss := by
  obtain ⟨vs, h1, h2, h3⟩ := h.ex
  refine ⟨⟨vs, h1, (h2.below hb (Nat.le_refl _)).mono (Nat.le_refl _) hb.size (Nat.le_refl _), fun i hi => ?_⟩, by have := hb.size; have := h.hlo; omega⟩
  obtain ⟨l, g, q1, q2, q3, q4⟩ := h3 i hi
  exact ⟨l, g, q1.below hb q2, by have := hb.size; omega, q3, q4⟩
theorem RefV.alloc {w : World} {lo : Nat} {E : Nat → Prop} {v : Value} {zss : List (List Int)} (h : RefV w lo E v zss) (o : Obj) : RefV (w.alloc o) lo E v zss := h.below (alloc_below _ _)
theorem RefV.drew {w w' : World} {lo : Nat} {E : Nat → Prop} {v : Value} {zss : List (List Int)} (h : RefV w lo E v zss) (hd : Drew w w') : RefV w' lo E v zss := h.below (hd.below _)
theorem RefV.lower {w : World} {lo lo' : Nat} {E : Nat → Prop} {v : Value} {zss : List (List Int)} (h : RefV w lo E v zss) (hl : lo' ≤ lo) : RefV w lo' E v zss := by
  obtain ⟨vs, h1, h2, h3⟩ := h.ex
  exact ⟨⟨vs, h1, h2.mono hl (Nat.le_refl _) (Nat.le_refl _), h3⟩, Nat.le_trans hl h.hlo⟩
theorem RefV.weak {w : World} {lo : Nat} {E E' : Nat → Prop} {v : Value} {zss : List (List Int)} (h : RefV w lo E v zss) (hE : ∀ p, E' p → E p) : RefV w lo E' v zss := by
  obtain ⟨vs, h1, h2, h3⟩ := h.ex
  exact ⟨⟨vs, h1, h2, fun i hi => by obtain ⟨l, g, q1, q2, q3, q4⟩ := h3 i hi; exact ⟨l, g, q1, q2, q3, fun p hp => q4 p (hE p hp)⟩⟩, h.hlo⟩
theorem RefV.set {w : World} {lo : Nat} {E : Nat → Prop} {v : Value} {zss : List (List Int)} (h : RefV w lo E v zss) {zp : Nat} (hz : E zp) (hne : v.ownBlock ≠ some zp) (o : Nat) (u : Value) : RefV (w.setCell ⟨zp, o, none⟩ u) lo E v zss := by
  obtain ⟨vs, h1, h2, h3⟩ := h.ex
  have hs : (w.setCell ⟨zp, o, none⟩ u).heap.size = w.heap.size := by simp
  have hk : ∀ k, k ≠ zp → (w.setCell ⟨zp, o, none⟩ u).heap[k]? = w.heap[k]? := fun k hk => Below.heap_setCell _ _ _ _ hk
  refine ⟨⟨vs, h1, by rw [hs]; exact h2.stay (by rw [hs]; exact Nat.le_refl _) (fun k e => hk k (fun q => hne (by rw [← q]; exact e))), fun i hi => ?_⟩, by rw [hs]; exact h.hlo⟩
  obtain ⟨l, g, q1, q2, q3, q4⟩ := h3 i hi
  exact ⟨l, g, q1.keep (by rw [hs]; exact Nat.le_refl _) (fun k k1 k2 k3 => hk k (fun q => by have := q4 zp hz; omega)), by rw [hs]; exact q2, q3, q4⟩
theorem RefV.nilNew (w : World) (E : Nat → Prop) : RefV (w.alloc (.cells #[] 34)) w.heap.size E (.slice (some ⟨w.heap.size, 0, none⟩) 0 0) [] :=
  ⟨⟨[], rfl, ⟨World.ownsRow_lit w #[] 0 (Nat.le_refl _) (by simp [maxLen]) (by simp), fun k e => by simp [Value.ownBlock] at e; subst e; simp, Nat.le_refl _⟩, fun i h => by simp at h⟩, by simp⟩
theorem Apr.ints {w : World} {E : Nat → Prop} {v u : Value} {zs : List Int} (h : Apr w E v u zs) : u.oneCell' = true := by
  obtain ⟨l, g, q1, _⟩ := h; exact ints_one q1
theorem wp_appV {w : World} {o : Oper} {a : Act} {K : Act → World → Prop} {Q : Exit → Act → World → Prop} (s x : Operand)
    (ho : o.op = .call { callee := .builtin .append, args := #[s, x], argTypes := #[24, 24] })
    {lo : Nat} {E : Nat → Prop} (E' : Nat → Prop) (hE : ∀ p, E' p → E p) (v : Value) (zss yss : List (List Int)) (hs : a.eval s = v) (hv : RefV w lo E v zss) (b off uc : Nat) (V : Nat → Value) (hx : a.eval x = .slice (some ⟨b, off, none⟩) yss.length uc)
    (hc : ∀ j, j < yss.length → w.cell? ⟨b, off + j, none⟩ = some (V j)) (hV : ∀ j (h : j < yss.length), Apr w E' v (V j) yss[j]) (hl : zss.length + yss.length ≤ 1048576)
    (h : ∀ v' w', RefV w' lo E' v' (zss ++ yss) → (∀ k, k < w.heap.size → v.ownBlock ≠ some k → w'.heap[k]? = w.heap[k]?) → Below lo w w' → (v'.ownBlock = v.ownBlock ∨ v'.ownBlock = some w.heap.size) → K (a.put o.dst v') w') :
    o.wp Try.prog a w K Q := by
  obtain ⟨vs, h1, h2, h3⟩ := hv.ex
  by_cases h0 : 0 < yss.length
  · obtain ⟨i0, hi0, hz0, hz1, hz2⟩ := info_parts info_ints
    have hrow := h2.row
    have hmL : zss.length + yss.length ≤ maxLen := by unfold maxLen; omega
    have hn : ∀ j z, ((List.range yss.length).map V)[j]? = some z → w.cell? ((⟨b, off, none⟩ : Addr).add j) = some z := by
      intro j z hz
      obtain ⟨hj, rfl⟩ := List.getElem?_eq_some_iff.1 hz
      simp only [List.length_map, List.length_range] at hj
      rw [add_plain', hc j hj]; simp
    have h1' : ∀ z ∈ (List.range yss.length).map V, z.oneCell' = true := by
      intro z hz
      obtain ⟨j, hj, rfl⟩ := List.mem_map.1 hz
      exact (hV j (by simpa using hj)).ints
    have hlen : ((List.range yss.length).map V).length = yss.length * 1 := by simp
    obtain ⟨v', w', hrun, g2, g3, g4⟩ := run_append_own (P := Try.prog) w lo 24 o.type 34 i0 (.slice none 0 0) 1 24 Try.underlying24 hi0 hz0 hz1 hz2 rfl (by decide) v zss.length vs hrow ⟨b, off, none⟩ yss.length uc _ hlen hn h1' hmL (by omega) hv.hlo
    have hblk := append_block lo 24 o.type 34 i0 (.slice none 0 0) 1 24 Try.underlying24 hi0 hz0 hz1 hz2 rfl (by decide) v zss.length vs hrow ⟨b, off, none⟩ yss.length uc _ hlen hn h1' hmL (by omega) (by omega) hrun
    unfold Oper.wp
    simp only [execOp, ho, resolve, invoke, builtin, Sem.run_bind, Sem.run_pure, Result.andThen_ok, List.map_toArray, List.map_cons, List.map_nil, hs, hx, hrun]
    have hsz := g3.size
    have hkeep : ∀ k, k < w.heap.size → v.ownBlock ≠ some k → w'.heap[k]? = w.heap[k]? := fun k hk hne => g3.block k hk (fun e => hne e.symm)
    have hbel : Below lo w w' := ⟨g3.os, g3.tape, g3.output, hsz, fun k hk => hkeep k (by have := hv.hlo; omega) (fun e => by have := hrow.lt k e; omega)⟩
    have hApr : ∀ (u : Value) (zs : List Int), Apr w E' v u zs → Apr w' E' v' u zs := by
      rintro u zs ⟨l, g, q1, q2, q3, q4⟩
      refine ⟨l, g, q1.keep hsz fun k k1 k2 k3 => hkeep k k3 (fun e => by have := q3 k e; omega), by omega, fun p hp => ?_, q4⟩
      rcases hblk with e | e
      · exact q3 p (by rw [← e]; exact hp)
      · rw [e] at hp; cases hp; right; omega
    refine h v' w' ⟨⟨vs ++ (List.range yss.length).map V, by simp [h1], ⟨by simpa using g2, fun k e => (g2.lt k e).2, Nat.le_refl _⟩, fun i hi => ?_⟩, by have := hv.hlo; omega⟩ hkeep hbel hblk
    rw [List.length_append] at hi
    by_cases hil : i < zss.length
    · have e1 : (vs ++ (List.range yss.length).map V).getD i undef = vs.getD i undef := by simp only [List.getD, List.getElem?_append_left (show i < vs.length by omega)]
      rw [e1, List.getElem_append_left hil]
      obtain ⟨l, g, q1, q2, q3, q4⟩ := h3 i hil
      exact hApr _ _ ⟨l, g, q1, q2, q3, fun p hp => q4 p (hE p hp)⟩
    · have hj : i - zss.length < yss.length := by omega
      have e1 : (vs ++ (List.range yss.length).map V).getD i undef = V (i - zss.length) := by
        simp only [List.getD, List.getElem?_append_right (show vs.length ≤ i by omega), h1]
        simp [hj]
      rw [e1, List.getElem_append_right (by omega)]
      exact hApr _ _ (hV _ hj)
  · have e : yss = [] := List.eq_nil_of_length_eq_zero (by omega)
    subst e
    obtain ⟨ga, gc, e, hcap⟩ := hv.shape
    have hrun := run_append_emptyII w ga zss.length gc hcap (some ⟨b, off, none⟩) uc o.type
    unfold Oper.wp
    rw [← e] at hrun
    simp only [execOp, ho, resolve, invoke, builtin, Sem.run_bind, Sem.run_pure, Result.andThen_ok, List.map_toArray, List.map_cons, List.map_nil, hs, hx]
    simp only [List.length_nil] at *
    simp only [hrun]
    exact h v w (by rw [List.append_nil]; exact hv.weak hE) (fun k _ _ => rfl) (Below.refl _ _) (.inl rfl)
theorem step_appV {w : World} {ops : Array Oper} {o : Oper} {a : Act} {K : Act → World → Prop} {Q : Exit → Act → World → Prop} {R : Prop} (hgd : o.guard = none) (s x : Operand)
    (ho : o.op = .call { callee := .builtin .append, args := #[s, x], argTypes := #[24, 24] })
    {lo : Nat} {E : Nat → Prop} (E' : Nat → Prop) (hE : ∀ p, E' p → E p) (v : Value) (zss yss : List (List Int)) (hs : a.eval s = v) (hv : RefV w lo E v zss) (b off uc : Nat) (V : Nat → Value) (hx : a.eval x = .slice (some ⟨b, off, none⟩) yss.length uc)
    (hc : ∀ j, j < yss.length → w.cell? ⟨b, off + j, none⟩ = some (V j)) (hV : ∀ j (h : j < yss.length), Apr w E' v (V j) yss[j]) (hl : zss.length + yss.length ≤ 1048576)
    (h : ∀ v' w', RefV w' lo E' v' (zss ++ yss) → (∀ k, k < w.heap.size → v.ownBlock ≠ some k → w'.heap[k]? = w.heap[k]?) → Below lo w w' → (v'.ownBlock = v.ownBlock ∨ v'.ownBlock = some w.heap.size) → K (a.put o.dst v') w') :
    if Region.wanted o (yielded ops a.tmps) = true then Oper.wp Try.prog o a w K Q else R := by
  have hw : Region.wanted o (yielded ops a.tmps) = true := by simp [Region.wanted, hgd]
  rw [if_pos hw]
  exact wp_appV s x ho E' hE v zss yss hs hv b off uc V hx hc hV hl h
/-- .. of none: whatever the second slice -/
theorem step_appV0 {w : World} {ops : Array Oper} {o : Oper} {a : Act} {K : Act → World → Prop} {Q : Exit → Act → World → Prop} {R : Prop} (hgd : o.guard = none) (s x : Operand)
    (ho : o.op = .call { callee := .builtin .append, args := #[s, x], argTypes := #[24, 24] })
    {lo : Nat} {E : Nat → Prop} (E' : Nat → Prop) (hE : ∀ p, E' p → E p) (v : Value) (zss : List (List Int)) (hs : a.eval s = v) (hv : RefV w lo E v zss) {l h' : Nat} (u : Value) (yss : List (List Int)) (hx : a.eval x = u) (hu : Intss w l h' u yss) (hh : h' ≤ w.heap.size) (hout : ∀ p, v.ownBlock = some p → p < l ∨ h' ≤ p) (hEo : ∀ p, E' p → p < l ∨ h' ≤ p) (hl : zss.length + yss.length ≤ 1048576)
    (h : ∀ v' w', RefV w' lo E' v' (zss ++ yss) → (∀ k, k < w.heap.size → v.ownBlock ≠ some k → w'.heap[k]? = w.heap[k]?) → Below lo w w' → (v'.ownBlock = v.ownBlock ∨ v'.ownBlock = some w.heap.size) → K (a.put o.dst v') w') :
    if Region.wanted o (yielded ops a.tmps) = true then Oper.wp Try.prog o a w K Q else R := by
  have hw : Region.wanted o (yielded ops a.tmps) = true := by simp [Region.wanted, hgd]
  rw [if_pos hw]
  obtain ⟨ua, uc, V, rfl, c1, c2, hV, hd⟩ := hu.out
  by_cases h0 : 0 < yss.length
  · rcases hd with hd | ⟨b, off, rfl, r1, r2, r3, hc⟩
    · rw [hd] at h0; simp at h0
    exact wp_appV s x ho E' hE v zss yss hs hv b off uc V hx hc (fun j hj => ⟨l, h', hV j hj, hh, hout, hEo⟩) hl h
  · have e : yss = [] := List.eq_nil_of_length_eq_zero (by omega)
    subst e
    obtain ⟨ga, gc, e, hcap⟩ := hv.shape
    have hrun := run_append_emptyII w ga zss.length gc hcap ua uc o.type
    unfold Oper.wp
    rw [← e] at hrun
    simp only [execOp, ho, resolve, invoke, builtin, Sem.run_bind, Sem.run_pure, Result.andThen_ok, List.map_toArray, List.map_cons, List.map_nil, hs, hx]
    simp only [List.length_nil] at *
    simp only [hrun]
    exact h v w (by rw [List.append_nil]; exact hv.weak hE) (fun k _ _ => rfl) (Below.refl _ _) (.inl rfl)
/-! ### blocks that lie somewhere in a chain of new ones -/
theorem RefV.nilAt {w : World} {E : Nat → Prop} {p lo : Nat} (hp : p = w.heap.size) (hl : lo ≤ w.heap.size) : RefV (w.alloc (.cells #[] 34)) lo E (.slice (some ⟨p, 0, none⟩) 0 0) [] := by
  subst hp; exact (RefV.nilNew w E).lower hl
theorem RefV.drew1 {w : World} {lo : Nat} {E : Nat → Prop} {v : Value} {zss : List (List Int)} (h : RefV w lo E v zss) : RefV w.drew lo E v zss := h.drew ⟨1, rfl⟩
theorem OneC.newAt {w : World} {p : Nat} {t : TypeId} {v : Value} (hp : p = w.heap.size) : OneC (w.alloc (.cells #[v] t)) p t v := by subst hp; exact OneC.new w t v
theorem OneC.allocAt {w : World} {p : Nat} {t : TypeId} {v : Value} (h : OneC w p t v) (o : Obj) : OneC (w.alloc o) p t v := ⟨(Below.heap_alloc _ _ _ h.lt).trans h.b⟩
theorem OneC.drew1 {w : World} {p : Nat} {t : TypeId} {v : Value} (h : OneC w p t v) : OneC w.drew p t v := h.drew ⟨1, rfl⟩
theorem OneC.kept {w w' : World} {p : Nat} {t : TypeId} {v u : Value} (h : OneC w p t v) (hk : ∀ k, k < w.heap.size → u.ownBlock ≠ some k → w'.heap[k]? = w.heap[k]?) (hne : u.ownBlock ≠ some p) : OneC w' p t v := ⟨(hk p h.lt hne).trans h.b⟩
theorem TwoC.newAt {w : World} {p : Nat} {t : TypeId} {x y : Value} (hp : p = w.heap.size) : TwoC (w.alloc (.cells #[x, y] t)) p t x y := by subst hp; exact TwoC.new w t x y
theorem TwoC.drew1 {w : World} {p : Nat} {t : TypeId} {x y : Value} (h : TwoC w p t x y) : TwoC w.drew p t x y := h.drew ⟨1, rfl⟩
theorem TwoC.kept {w w' : World} {p : Nat} {t : TypeId} {x y u : Value} (h : TwoC w p t x y) (hk : ∀ k, k < w.heap.size → u.ownBlock ≠ some k → w'.heap[k]? = w.heap[k]?) (hne : u.ownBlock ≠ some p) : TwoC w' p t x y := h.keep (hk p h.lt hne)
theorem own_lit {q p : Nat} {n c : Nat} (h : q ≠ p) : (Value.slice (some ⟨q, 0, none⟩) n c).ownBlock ≠ some p := by simp [Value.ownBlock]; exact h
theorem own_neA {v1 : Value} {q n p : Nat} {k c : Nat} (hbk : v1.ownBlock = (Value.slice (some ⟨q, 0, none⟩) k c).ownBlock ∨ v1.ownBlock = some n) (h1 : q ≠ p) (h2 : n ≠ p) : v1.ownBlock ≠ some p := by
  rcases hbk with e | e
  · rw [e]; exact own_lit h1
  · rw [e]; intro h; cases h; exact h2 rfl
theorem own_neB {w1 : World} {lo : Nat} {E : Nat → Prop} {v1 : Value} {z : List (List Int)} {p : Nat} (h : RefV w1 lo E v1 z) (hp : w1.heap.size ≤ p) : v1.ownBlock ≠ some p := by
  obtain ⟨vs, _, h2, _⟩ := h.ex
  intro e; have := h2.blk p e; omega
theorem apr_one {w : World} {E : Nat → Prop} {v : Value} {xp : Nat} {y : Int} (hX : OneC w xp 2 (.int .i64 y)) (ky : I64 y) (hne : v.ownBlock ≠ some xp) (hE : ∀ p, E p → p ≠ xp) : Apr w E v (.slice (some ⟨xp, 0, none⟩) 1 1) [y] := by
  refine ⟨xp, xp + 1, ⟨⟨some ⟨xp, 0, none⟩, 1, rfl, Nat.le_refl _, by decide, .inr ⟨xp, 0, rfl, Nat.le_refl _, Nat.lt_succ_self _, hX.lt, fun i hi => ?_⟩⟩, by simpa using ky⟩, hX.lt, fun p hp => ?_, fun p hp => ?_⟩
  · have : i = 0 := by simpa using hi
    subst this
    exact hX.cell
  · have : p ≠ xp := fun e => hne (by rw [hp, e])
    omega
  · have := hE p hp; omega
theorem own_neC {v1 v2 : Value} {n p : Nat} (h2 : v2.ownBlock = v1.ownBlock ∨ v2.ownBlock = some n) (h1 : v1.ownBlock ≠ some p) (hn : n ≠ p) : v2.ownBlock ≠ some p := by
  rcases h2 with e | e
  · rw [e]; exact h1
  · rw [e]; intro h; cases h; exact hn rfl
theorem step_row {w : World} {ops : Array Oper} {o : Oper} {a : Act} {K : Act → World → Prop} {Q : Exit → Act → World → Prop} {R : Prop} (hgd : o.guard = none) (s x : Operand)
    (ho : o.op = .call { callee := .builtin .append, args := #[s, x], argTypes := #[24, 24] })
    (zss : List (List Int)) (zs : List Int) (hl : zss.length + 1 ≤ 1048576) {lo : Nat} {E : Nat → Prop} (E' : Nat → Prop) (hE : ∀ p, E' p → E p) (v : Value) (hs : a.eval s = v) (hv : RefV w lo E v zss) (yp : Nat) (u : Value) (hx : a.eval x = .slice (some ⟨yp, 0, none⟩) 1 1)
    (hY : OneC w yp 34 u) (hA : Apr w E' v u zs)
    (h : ∀ v' w', RefV w' lo E' v' (zss ++ [zs]) → (∀ k, k < w.heap.size → v.ownBlock ≠ some k → w'.heap[k]? = w.heap[k]?) → Below lo w w' → (v'.ownBlock = v.ownBlock ∨ v'.ownBlock = some w.heap.size) → K (a.put o.dst v') w') :
    if Region.wanted o (yielded ops a.tmps) = true then Oper.wp Try.prog o a w K Q else R := by
  refine step_appV hgd s x ho E' hE v zss [zs] hs hv yp 0 1 (fun _ => u) hx (fun j hj => ?_) (fun j hj => ?_) hl h
  · have : j = 0 := by simpa using hj
    subst this
    exact hY.cell
  · have : j = 0 := by simpa using hj
    subst this
    exact hA
theorem own_ge {v1 : Value} {q n p m : Nat} {k c : Nat} (hbk : v1.ownBlock = (Value.slice (some ⟨q, 0, none⟩) k c).ownBlock ∨ v1.ownBlock = some n) (h : v1.ownBlock = some p) (h1 : m ≤ q) (h2 : m ≤ n) : m ≤ p := by
  rcases hbk with e | e
  · rw [e] at h; simp [Value.ownBlock] at h; omega
  · rw [e] at h; cases h; exact h2
theorem belAlloc {a w : World} {o : Obj} (h : Below a.heap.size a w) : Below a.heap.size a (w.alloc o) := h.alloc h.size _
theorem belDrew {a w : World} (h : Below a.heap.size a w) : Below a.heap.size a w.drew := h.trans (Drew.below (show Drew w w.drew from ⟨1, rfl⟩) _)
end Go.Proofs.Ytcpbgjnijhcpkaa
