/-
  A slice of the call's own whose elements are slices of integers that lie below (in the arguments).
-/
import Derived.Test.YtcpbgjnijhcpkaaUnitsOf
import Derived.Test.YtcpbgjnijhcpkaaAppII
namespace Go.Proofs.Ytcpbgjnijhcpkaa
open Go.RowKit
set_option linter.unusedVariables false
set_option maxRecDepth 100000

structure RefII (w : World) (B lo : Nat) (v : Value) (zss : List (List Int)) : Prop where
  ex : ∃ vs : List Value, vs.length = zss.length ∧ Own w lo w.heap.size 34 1 v zss.length vs ∧ ∀ i (h : i < zss.length), Ints w 0 B (vs.getD i undef) zss[i]
  hB : B ≤ lo
  hlo : lo ≤ w.heap.size
section
variable {w w' : World} {B lo : Nat} {v : Value} {zss : List (List Int)}
theorem RefII.rd (h : RefII w B lo v zss) : Intss w 0 w.heap.size v zss := by
  obtain ⟨vs, h1, h2, h3⟩ := h.ex
  exact ⟨fun i => vs.getD i undef, h2.sl.mono (Nat.zero_le _) (Nat.le_refl _) (Nat.le_refl _), fun i hi => (h3 i hi).mono (Nat.le_refl _) (by have := h.hB; have := h.hlo; omega) (Nat.le_refl _)⟩
theorem RefII.below (h : RefII w B lo v zss) (hb : Below w.heap.size w w') : RefII w' B lo v zss := by
  obtain ⟨vs, h1, h2, h3⟩ := h.ex
  exact ⟨⟨vs, h1, (h2.below hb (Nat.le_refl _)).mono (Nat.le_refl _) hb.size (Nat.le_refl _), fun i hi => (h3 i hi).below hb (by have := h.hB; have := h.hlo; omega)⟩, h.hB, by have := hb.size; have := h.hlo; omega⟩
theorem RefII.drew (h : RefII w B lo v zss) (hd : Drew w w') : RefII w' B lo v zss := h.below (hd.below _)
theorem RefII.shape (h : RefII w B lo v zss) : ∃ a cap, v = .slice a zss.length cap := by
  obtain ⟨a, cap, V, e, _⟩ := h.rd.out; exact ⟨a, cap, e⟩
theorem RefII.nilNew (w : World) (B : Nat) (hB : B ≤ w.heap.size) : RefII (w.alloc (.cells #[] 34)) B w.heap.size (.slice (some ⟨w.heap.size, 0, none⟩) 0 0) [] :=
  ⟨⟨[], rfl, ⟨World.ownsRow_lit w #[] 0 (Nat.le_refl _) (by simp [maxLen]) (by simp), fun k e => by simp [Value.ownBlock] at e; subst e; simp, Nat.le_refl _⟩, fun i h => by simp at h⟩, hB, by simp⟩
theorem RefII.nil (w : World) (B lo : Nat) (hB : B ≤ lo) (hlo : lo ≤ w.heap.size) : RefII w B lo (.slice none 0 0) [] :=
  ⟨⟨[], rfl, Own.nil _ _ _ _ _ (Nat.le_refl _), fun i h => by simp at h⟩, hB, hlo⟩
end
theorem ints_one {w : World} {l h : Nat} {v : Value} {zs : List Int} (hv : Ints w l h v zs) : v.oneCell' = true := by
  obtain ⟨a, c, rfl, _⟩ := hv.out; rfl
/-- 'append' of a row that lies below, itself alone in a new block -/
theorem wpList_appRef {w : World} {ops : Array Oper} {rest : List Oper} {o : Oper} {a : Act} {Q : Exit → Act → World → Prop} (hgd : o.guard = none) (s x : Operand)
    (ho : o.op = .call { callee := .builtin .append, args := #[s, x], argTypes := #[24, 24] })
    {B lo : Nat} (v : Value) (zss : List (List Int)) (hs : a.eval s = v) (hv : RefII w B lo v zss) (u : Value) (zs : List Int) (hu : Ints w 0 B u zs) (e : TypeId) (hx : a.eval x = .slice (some ⟨w.heap.size, 0, none⟩) 1 1)
    (hl : zss.length + 1 ≤ 1048576)
    (h : ∀ v' w', RefII w' B lo v' (zss ++ [zs]) → Below lo w w' → w.heap.size + 1 ≤ w'.heap.size → wpList Try.prog ops Q rest (a.put o.dst v') w') :
    wpList Try.prog ops Q (o :: rest) a (w.alloc (.cells #[u] e)) := by
  obtain ⟨vs, h1, h2, h3⟩ := hv.ex
  refine wpList_plain hgd fun K hK => wp_app1V s x ho v zss.length vs hs u (ints_one hu) e h2 hx hl hv.hlo fun v' w' ho' hkeep hsame hsz hblk => ?_
  have hb : Below lo w w' := hsame.below (Nat.le_refl _) hv.hlo
  have hlen : (zss ++ [zs]).length = zss.length + 1 := by simp
  refine hK _ _ (h v' w' ⟨⟨vs ++ [u], by simp [h1], by rw [hlen]; exact ho', fun i hi => ?_⟩, hv.hB, by have := hv.hlo; omega⟩ hb hsz)
  rw [hlen] at hi
  by_cases hil : i < zss.length
  · have e1 : (vs ++ [u]).getD i undef = vs.getD i undef := by simp only [List.getD, List.getElem?_append_left (show i < vs.length by omega)]
    rw [e1, List.getElem_append_left hil]
    exact (h3 i hil).below hb hv.hB
  · obtain rfl : i = zss.length := by omega
    have e1 : (vs ++ [u]).getD zss.length undef = u := by simp only [List.getD, List.getElem?_append_right (show vs.length ≤ zss.length by omega), h1, Nat.sub_self]; rfl
    rw [e1]
    simp only [List.getElem_append_right (Nat.le_refl _), Nat.sub_self, List.getElem_cons_zero]
    exact hu.below hb hv.hB
theorem run_append_emptyII (w : World) (g : Option Addr) (n cap : Nat) (hn : n ≤ cap) (a : Option Addr) (c : Nat) (ty : TypeId) :
    (Builtin.append_ #[24, 24] ty #[.slice g n cap, .slice a 0 c]).run Try.prog w = .ok (.slice g n cap) w := by
  obtain ⟨i0, hi0, hz0, hz1, hz2⟩ := info_parts info_ints
  have hf : ∀ w', Sem.run Try.prog (Builtin.firstCells 1 0 (.slice a 0 c)) w' = .ok #[] w' := by
    intro w'
    cases a <;> simp [Builtin.firstCells, loadCells, loadCellsFrom]
  cases g <;> simp [Builtin.append_, run_underlying Try.underlying24, sizeOf, typeInfo, hi0, hz1, Builtin.lenOf, hn, hf, storeCells]
/-- 'append([][]int64{}, zss...)': the rows are the same ones -/
theorem wpList_appRefs {w : World} {ops : Array Oper} {rest : List Oper} {o : Oper} {a : Act} {Q : Exit → Act → World → Prop} (hgd : o.guard = none) (s x : Operand)
    (ho : o.op = .call { callee := .builtin .append, args := #[s, x], argTypes := #[24, 24] })
    {l h B : Nat} (u : Value) (zss : List (List Int)) (hs : a.eval s = .slice (some ⟨w.heap.size, 0, none⟩) 0 0) (hx : a.eval x = u) (hu : Intss w l h u zss) (hhB : h ≤ B) (hB : B ≤ w.heap.size) (hl : zss.length ≤ 1048576)
    (hK : ∀ v' w', RefII w' B w.heap.size v' zss → Below w.heap.size w w' → wpList Try.prog ops Q rest (a.put o.dst v') w') :
    wpList Try.prog ops Q (o :: rest) a (w.alloc (.cells #[] 34)) := by
  obtain ⟨ua, uc, V, rfl, c1, c2, hV, hd⟩ := hu.out
  have hb0 : Below w.heap.size w (w.alloc (.cells #[] 34)) := alloc_below _ _
  by_cases h0 : 0 < zss.length
  · rcases hd with hd | ⟨b, off, rfl, r1, r2, r3, hc⟩
    · rw [hd] at h0; simp at h0
    refine wpList_plain hgd fun K hK' => ?_
    obtain ⟨i0, hi0, hz0, hz1, hz2⟩ := info_parts info_ints
    have hnil := RefII.nilNew w B hB
    obtain ⟨vs, hvs, hown, _⟩ := hnil.ex
    obtain rfl : vs = [] := List.eq_nil_of_length_eq_zero hvs
    have hown := hown
    have hrow := hown.row
    have hmL : 0 + zss.length ≤ maxLen := by unfold maxLen; omega
    have hn : ∀ j z, ((List.range zss.length).map V)[j]? = some z → (w.alloc (.cells #[] 34)).cell? ((⟨b, off, none⟩ : Addr).add j) = some z := by
      intro j z hz
      obtain ⟨hj, rfl⟩ := List.getElem?_eq_some_iff.1 hz
      simp only [List.length_map, List.length_range] at hj
      rw [add_plain', hb0.cell (p := ⟨b, off + j, none⟩) (show b < w.heap.size by omega), hc j hj]; simp
    have h1 : ∀ z ∈ (List.range zss.length).map V, z.oneCell' = true := by
      intro z hz
      obtain ⟨j, hj, rfl⟩ := List.mem_map.1 hz
      exact ints_one (hV j (by simpa using hj))
    have hlen : ((List.range zss.length).map V).length = zss.length * 1 := by simp
    obtain ⟨v', w', hrun, h2, h3, h4⟩ := run_append_own (P := Try.prog) (w.alloc (.cells #[] 34)) w.heap.size 24 o.type 34 i0 (.slice none 0 0) 1 24 Try.underlying24 hi0 hz0 hz1 hz2 rfl (by decide) (.slice (some ⟨w.heap.size, 0, none⟩) 0 0) 0 [] hrow ⟨b, off, none⟩ zss.length uc _ hlen hn h1 hmL (by omega) (by simp)
    unfold Oper.wp
    simp only [execOp, ho, resolve, invoke, builtin, Sem.run_bind, Sem.run_pure, Result.andThen_ok, List.map_toArray, List.map_cons, List.map_nil, hs, hx, hrun]
    have hbel : Below w.heap.size w w' := by
      have hz := h3.size
      refine hb0.trans ⟨h3.os, h3.tape, h3.output, hz, fun k hk => h3.block k (by simp; omega) (fun e => ?_)⟩
      have := hown.row.lt k e.symm
      omega
    have hsz := hbel.size
    refine hK' _ _ (hK v' w' ⟨⟨(List.range zss.length).map V, by simp, ⟨by simpa using h2, fun k e => (h2.lt k e).2, Nat.le_refl _⟩, fun i hi => ?_⟩, hB, hsz⟩ hbel)
    have e1 : ((List.range zss.length).map V).getD i undef = V i := by simp [List.getD, hi]
    rw [e1]
    exact ((hV i hi).mono (Nat.zero_le _) hhB hB).below hbel hB
  · have e : zss = [] := List.eq_nil_of_length_eq_zero (by omega)
    subst e
    have hrun := run_append_emptyII (w.alloc (.cells #[] 34)) (some ⟨w.heap.size, 0, none⟩) 0 0 (Nat.le_refl _) ua uc
    exact wpList_appRun hgd s x 24 24 ho hs hx hrun (hK _ _ (RefII.nilNew w B hB) hb0)
end Go.Proofs.Ytcpbgjnijhcpkaa
